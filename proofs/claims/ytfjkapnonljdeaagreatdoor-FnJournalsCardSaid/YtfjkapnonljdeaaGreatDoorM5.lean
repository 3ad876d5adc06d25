/-
  What the functions compute: their evaluated texts, printed.
-/
import Derived.Test.YtfjkapnonljdeaaGreatDoorRows
import Derived.Test.YtfjkapnonljdeaaGreatDoorTie
import Derived.Test.YtfjkapnonljdeaaGreatDoorCards
import Derived.Test.YtfjkapnonljdeaaGreatDoorM4
import Derived.Lib.IndexBytes
import Derived.Laws.RangeString
import Derived.Shelf.Strings.BuilderK
import Derived.BigCall
namespace Go.Proofs.YtfjkapnonljdeaaGreatDoor
open Go Go.V
theorem t_impl_isJournalText (x0 : D) : F_impl_isJournalText [x0] =
  ((lenD true x0).bind fun z => (bin BinOp.leq false [] z (D.v (Value.int IntKind.i64 300))).bind fun z => some (Out.ret [z] [])) := by kernel_rfl
theorem t_impl_numbersIn (x0 : D) : F_impl_numbersIn [x0] =
  ((mkArr 1 []).bind fun a => callK (fFieldsFunc 63 isSep [x0, D.clo 63 []]) fun rs _u => (lenD false (sl rs 0)).bind fun z => (loopC (fun s => (bin BinOp.lss false [] (sl s 3) (sl s 2)).bind fun z => ifD z
 ((Option.map D.ptr (elemD 1 (sl s 1) (sl s 3))).bind fun z => ((ldD false 1 z).bind chkV).bind fun z => callK (fAtoi [z]) fun rs _u => (tupAt (D.tup rs) 0).bind fun z => (tupAt (D.tup rs) 1).bind fun z_1 =>
 (binI true BinOp.neq z_1 (D.v Value.nilIface)).bind fun z_2 => ifD z_2 ((mkArr 1 []).bind fun a => some (Out.ret [a] [])) ((mkArr 1 [z]).bind fun a => (chkA a).bind fun b => (appD 1 8 (sl s 0) b).bind fun y =>
 (bin BinOp.add false [] (sl s 3) (D.v (Value.int IntKind.i64 1))).bind fun z => some (Out.nrm [y, sl s 1, sl s 2, z]))) (some (Out.ext 0 [sl s 0]))) [a, sl rs 0, z, D.v (Value.int IntKind.i64 0)]).bind
 fun o => outK o (fun i s => ifN (i.beq 0) (some (Out.ret [sl s 0] [])) none) fun a b => some (Out.ret a b)) := by kernel_rfl
theorem t_impl_within (x0 x1 x2 : D) : F_impl_within [x0, x1, x2] =
  ((bin BinOp.geq false [] x0 x1).bind fun z => (gate (D.tup []) z true (some x0)).bind fun z_1 => (gate (D.tup []) z true (some x2)).bind fun z_2 => (gate (D.tup []) z true (bin BinOp.leq false [] z_1 z_2)).bind fun z_3 =>
 (pickD z z_3 (D.v (Value.bool false))).bind fun z => some (Out.ret [z] [])) := by kernel_rfl
theorem t_impl_isNoteDay (x0 : D) : F_impl_isNoteDay [x0] =
  (callK (F_impl_within [x0, D.v (Value.int IntKind.i64 0), D.v (Value.int IntKind.i64 9999)]) fun rs _u => some (Out.ret [sl rs 0] [])) := by kernel_rfl
theorem t_impl_isNote (x0 : D) : F_impl_isNote [x0] =
  ((boxD 3 x0).bind fun y => (liveD y (D.ref 0 0)).bind fun z => ((atD y z).bind (takeD false 1)).bind fun z => callK (F_impl_isNoteDay [z]) fun rs _u => (gate D.bad (sl rs 0) true (liveD y (D.ref 0 1))).bind fun z =>
 (gate (D.tup []) (sl rs 0) true ((atD y z).bind (takeD false 1))).bind fun z => gateC (sl rs 0) true (callK (F_impl_within [z, D.v (Value.int IntKind.i64 0), D.v (Value.int IntKind.i64 3)]) fun rs _u =>
 some (Out.nrm [sl rs 0])) [D.tup []] fun outs => (pickD (sl rs 0) (sl outs 0) (D.v (Value.bool false))).bind fun z => (gate D.bad z true (liveD y (D.ref 0 2))).bind fun z_1 =>
 (gate (D.tup []) z true ((atD y z_1).bind (takeD false 1))).bind fun z_2 => gateC z true (callK (F_impl_within [z_2, D.v (Value.int IntKind.i64 1), D.v (Value.int IntKind.i64 99999)])
 fun rs _u => some (Out.nrm [sl rs 0])) [D.tup []] fun outs => (pickD z (sl outs 0) (D.v (Value.bool false))).bind fun z => some (Out.ret [z] [])) := by kernel_rfl
theorem t_impl_AreNotes (x0 : D) : F_impl_AreNotes [x0] =
  ((lenD false x0).bind fun z => (loopC (fun s => (bin BinOp.lss false [] (sl s 3) (sl s 2)).bind fun z => ifD z ((Option.map D.ptr (elemD 3 (sl s 1) (sl s 3))).bind fun z => ((ldD true 3 z).bind chkV).bind fun z => (stD 3
 (D.agg [D.v (Value.int IntKind.i64 0), D.v (Value.int IntKind.i64 0), D.v (Value.int IntKind.i64 0)]) (D.ref 0 0) z).bind fun b => (fldD true 3 0 b).bind fun z => callK (F_impl_isNote [z]) fun rs _u =>
 (un UnOp.not (sl rs 0)).bind fun z => (gate (D.tup []) z false (some (sl s 3))).bind fun z_1 => (gate (D.tup []) z false (bin BinOp.gtr false [] z_1 (D.v (Value.int IntKind.i64 0)))).bind fun z_2 =>
 (gate (D.tup []) z false (some z_2)).bind fun z_3 => (gate (D.tup []) z_3 true (some (sl s 0))).bind fun z_4 => (gate (D.tup []) z_3 true (some (sl s 3))).bind fun z_5 => (gate (D.tup []) z_3 true
 (bin BinOp.sub false [] z_5 (D.v (Value.int IntKind.i64 1)))).bind fun z_6 => (gate (D.tup []) z_3 true (Option.map D.ptr (elemD 3 z_4 z_6))).bind fun z_7 => (gate (D.tup []) z_3 true (offD 0 z_7)).bind fun z_8 =>
 (gate (D.tup []) z_3 true ((ldD false 1 z_8).bind chkV)).bind fun z_9 => (gate D.bad z_3 true (liveD b (D.ref 0 0))).bind fun z_10 => (gate (D.tup []) z_3 true ((atD b z_10).bind (takeD false 1))).bind fun z_11 =>
 (gate (D.tup []) z_3 true (bin BinOp.gtr false [] z_9 z_11)).bind fun z_12 => (gate (D.tup []) z false (pickD z_3 z_12 (D.v (Value.bool false)))).bind fun z_13 => (pickD z (D.v (Value.bool true)) z_13).bind fun z =>
 ifD z (some (Out.ret [D.v (Value.bool false)] [])) ((bin BinOp.add false [] (sl s 3) (D.v (Value.int IntKind.i64 1))).bind fun z => some (Out.nrm [sl s 0, sl s 1, sl s 2, z]))) (some (Out.ext 0 [sl s 0])))
 [x0, x0, z, D.v (Value.int IntKind.i64 0)]).bind fun o => outK o (fun i s => ifN (i.beq 0) ((lenD false (sl s 0)).bind fun z =>
 (bin BinOp.leq false [] z (D.v (Value.int IntKind.i64 24))).bind fun z => some (Out.ret [z] [])) none) fun a b => some (Out.ret a b)) := by kernel_rfl
theorem t_impl_recovered (x0 : D) : F_impl_recovered [x0] =
  ((mkArr 3 []).bind fun a => (loopC (fun s => (sliceHi true 0 (sl s 0) (sl s 3)).bind fun z => callK (fCut [z, D.v (Value.string { data := { toList := [10] } })]) fun rs _u => (tupAt (D.tup rs) 0).bind fun z =>
 (tupAt (D.tup rs) 1).bind fun _u => (tupAt (D.tup rs) 2).bind fun z_1 => callK (F_impl_numbersIn [z]) fun rs _u => (un UnOp.not z_1).bind fun z_2 => (gate (D.tup []) z_2 false (some (sl rs 0))).bind fun z_3 =>
 (gate (D.tup []) z_2 false (lenD false z_3)).bind fun z_4 => (gate (D.tup []) z_2 false (bin BinOp.neq false [] z_4 (D.v (Value.int IntKind.i64 4)))).bind fun z_5 => (pickD z_2 (D.v (Value.bool true)) z_5).bind fun z_6 =>
 ifD z_6 (some (Out.ret [sl s 1, sl s 3] [])) ((Option.map D.ptr (elemD 1 (sl rs 0) (D.v (Value.int IntKind.i64 0)))).bind fun z_7 => ((ldD false 1 z_7).bind chkV).bind fun z_8 =>
 (Option.map D.ptr (elemD 1 (sl rs 0) (D.v (Value.int IntKind.i64 1)))).bind fun z_9 => ((ldD false 1 z_9).bind chkV).bind fun z_10 => (Option.map D.ptr (elemD 1 (sl rs 0) (D.v (Value.int IntKind.i64 2)))).bind fun z_11 =>
 ((ldD false 1 z_11).bind chkV).bind fun z_12 => (bldD [(0, 1), (1, 1), (2, 1)] [D.v (Value.int IntKind.i64 0), D.v (Value.int IntKind.i64 0), D.v (Value.int IntKind.i64 0)] [z_8, z_10, z_12]).bind fun z_13 => (stD 3
 (D.agg [D.v (Value.int IntKind.i64 0), D.v (Value.int IntKind.i64 0), D.v (Value.int IntKind.i64 0)]) (D.ref 0 0) z_13).bind fun b => (mkArr 3 []).bind fun a => (liveD (sl s 1) (D.ref 0 0)).bind fun z_14 =>
 (liveD z_14 (sl s 1)).bind fun b_1 => (appD 3 24 a b_1).bind fun y => (fldD true 3 0 b).bind fun z_15 => (mkArr 3 [z_15]).bind fun a => (chkA a).bind fun b_2 => (appD 3 24 y b_2).bind fun y =>
 (liveD y (D.ref 0 0)).bind fun z_16 => (liveD z_16 y).bind fun i => callK (F_impl_AreNotes [i]) fun rs _u => (un UnOp.not (sl rs 0)).bind fun z_17 => (gate (D.tup []) z_17 false (fldD true 3 0 b)).bind fun z_18 =>
 (gate (D.tup []) z_17 false (some (sl s 2))).bind fun z_19 => (gate (D.tup []) z_17 false (fldD true 3 0 b)).bind fun z_20 => gateC z_17 false (callK (F_impl_check [z_19, z_20]) fun rs _u => some (Out.nrm [sl rs 0]))
 [D.tup []] fun outs => gateC z_17 false (callK (F_impl_noteLine [z_18, sl outs 0]) fun rs _u => some (Out.nrm [sl rs 0])) [D.tup []] fun outs => (gate (D.tup []) z_17 false (some z)).bind fun z_21 =>
 (gate (D.tup []) z_17 false (bin BinOp.add false [] z_21 (D.v (Value.string { data := { toList := [10] } })))).bind fun z_22 => (gate (D.tup []) z_17 false (bin BinOp.neq false [] (sl outs 0) z_22)).bind fun z_23 =>
 (pickD z_17 (D.v (Value.bool true)) z_23).bind fun z_24 => ifD z_24 (some (Out.ret [sl s 1, sl s 3] [])) ((fldD true 3 0 b).bind fun z_25 => callK (F_impl_check [sl s 2, z_25]) fun rs _u => (lenD true z).bind fun z =>
 (bin BinOp.add false [] z (D.v (Value.int IntKind.i64 1))).bind fun z => (bin BinOp.add false [] (sl s 3) z).bind fun z => some (Out.nrm [sl s 0, y, sl rs 0, z]))))
 [x0, a, D.v (Value.int IntKind.i64 7), D.v (Value.int IntKind.i64 0)]).bind fun o => outK o (fun i s => ifN (i.beq 0) (some (Out.ret [sl s 0, sl s 1] [])) none) fun a b => some (Out.ret a b)) := by kernel_rfl
theorem t_impl_readJournal (x0 : D) : F_impl_readJournal [x0] =
  (callK (F_impl_isJournalText [x0]) fun rs _u => (un UnOp.not (sl rs 0)).bind fun z => ifD z ((mkArr 3 []).bind fun a => some (Out.ret [a, D.v (Value.bool false)] [])) (callK (F_impl_recovered [x0]) fun rs _u =>
 (tupAt (D.tup rs) 0).bind fun y => (tupAt (tupCut (D.tup rs) 0) 1).bind fun z => (lenD true x0).bind fun z_1 => (bin BinOp.lss false [] z z_1).bind fun z =>
 ifD z ((mkArr 3 []).bind fun a => some (Out.ret [a, D.v (Value.bool false)] [])) (some (Out.ret [y, D.v (Value.bool true)] [])))) := by kernel_rfl
theorem t_impl_ReadJournal (x0 : D) : F_impl_ReadJournal [x0] =
  (callK (F_impl_readJournal [x0]) fun rs _u => (tupAt (D.tup rs) 0).bind fun y => (tupAt (tupCut (D.tup rs) 0) 1).bind fun z => some (Out.ret [y, z] [])) := by kernel_rfl
theorem t_impl_Recovered (x0 : D) : F_impl_Recovered [x0] =
  (callK (F_impl_isJournalText [x0]) fun rs _u => (un UnOp.not (sl rs 0)).bind fun z => ifD z ((mkArr 3 []).bind fun a => some (Out.ret [a, D.v (Value.int IntKind.i64 0), D.v (Value.bool false)] []))
 (callK (F_impl_recovered [x0]) fun rs _u => (tupAt (D.tup rs) 0).bind fun y => (tupAt (tupCut (D.tup rs) 0) 1).bind fun z => some (Out.ret [y, z, D.v (Value.bool true)] []))) := by kernel_rfl
theorem t_spec_l1Split (x0 x1 : D) : F_spec_l1Split [x0, x1] =
  ((loopC (fun s => (lenD true (sl s 0)).bind fun z => (bin BinOp.lss false [] (sl s 4) z).bind fun z => ifD z ((charD (sl s 0) (sl s 4)).bind fun z => (bin BinOp.eql false [] z (sl s 1)).bind fun z => ifD z
 ((sliceD true 0 (sl s 0) (sl s 3) (sl s 4)).bind fun z => (mkArr 1 [z]).bind fun a => (chkA a).bind fun b => (appD 1 16 (sl s 2) b).bind fun y =>
 (bin BinOp.add false [] (sl s 4) (D.v (Value.int IntKind.i64 1))).bind fun z => (bin BinOp.add false [] (sl s 4) (D.v (Value.int IntKind.i64 1))).bind fun z_1 => some (Out.nrm [sl s 0, sl s 1, y, z, z_1]))
 ((bin BinOp.add false [] (sl s 4) (D.v (Value.int IntKind.i64 1))).bind fun z => some (Out.nrm [sl s 0, sl s 1, sl s 2, sl s 3, z]))) (some (Out.ext 0 [sl s 0, sl s 2, sl s 3])))
 [x0, x1, D.arr 1 [], D.v (Value.int IntKind.i64 0), D.v (Value.int IntKind.i64 0)]).bind fun o => outK o (fun i s => ifN (i.beq 0) ((sliceHi true 0 (sl s 0) (sl s 2)).bind fun z => (mkArr 1 [z]).bind fun a =>
 (chkA a).bind fun b => (appD 1 16 (sl s 1) b).bind fun y => some (Out.ret [y] [])) none) fun a b => some (Out.ret a b)) := by kernel_rfl
theorem t_spec_l1In (x0 x1 x2 : D) : F_spec_l1In [x0, x1, x2] =
  ((bin BinOp.geq false [] x0 x1).bind fun z => (gate (D.tup []) z true (some x0)).bind fun z_1 => (gate (D.tup []) z true (some x2)).bind fun z_2 => (gate (D.tup []) z true (bin BinOp.leq false [] z_1 z_2)).bind fun z_3 =>
 (pickD z z_3 (D.v (Value.bool false))).bind fun z => some (Out.ret [z] [])) := by kernel_rfl
theorem t_spec_l1Read (x0 : D) : F_spec_l1Read [x0] =
  ((lenD true x0).bind fun z => callK (F_spec_l1In [z, D.v (Value.int IntKind.i64 1), D.v (Value.int IntKind.i64 6)]) fun rs _u => (un UnOp.not (sl rs 0)).bind fun z => (gate (D.tup []) z false (some x0)).bind fun z_1 =>
 (gate (D.tup []) z false (charD z_1 (D.v (Value.int IntKind.i64 0)))).bind fun z_2 => (gate (D.tup []) z false (bin BinOp.eql false [] z_2 (D.v (Value.int IntKind.u8 48)))).bind fun z_3 =>
 (gate (D.tup []) z false (some z_3)).bind fun z_4 => (gate (D.tup []) z_4 true (some x0)).bind fun z_5 => (gate (D.tup []) z_4 true (lenD true z_5)).bind fun z_6 =>
 (gate (D.tup []) z_4 true (bin BinOp.gtr false [] z_6 (D.v (Value.int IntKind.i64 1)))).bind fun z_7 => (gate (D.tup []) z false (pickD z_4 z_7 (D.v (Value.bool false)))).bind fun z_8 =>
 (pickD z (D.v (Value.bool true)) z_8).bind fun z => ifD z (some (Out.ret [D.v (Value.int IntKind.i64 (-1))] [])) ((loopC (fun s => (lenD true (sl s 0)).bind fun z => (bin BinOp.lss false [] (sl s 2) z).bind fun z => ifD z
 ((charD (sl s 0) (sl s 2)).bind fun z => (bin BinOp.lss false [] z (D.v (Value.int IntKind.u8 48))).bind fun z => (gate (D.tup []) z false (some (sl s 0))).bind fun z_9 =>
 (gate (D.tup []) z false (some (sl s 2))).bind fun z_10 => (gate (D.tup []) z false (charD z_9 z_10)).bind fun z_11 => (gate (D.tup []) z false (bin BinOp.gtr false [] z_11 (D.v (Value.int IntKind.u8 57)))).bind
 fun z_12 => (pickD z (D.v (Value.bool true)) z_12).bind fun z => ifD z (some (Out.ret [D.v (Value.int IntKind.i64 (-1))] [])) ((bin BinOp.mul false [] (D.v (Value.int IntKind.i64 10)) (sl s 1)).bind fun z =>
 (charD (sl s 0) (sl s 2)).bind fun z_13 => (bin BinOp.sub false [] z_13 (D.v (Value.int IntKind.u8 48))).bind fun z_14 => (convD (some IntKind.i64) false z_14).bind fun z_15 =>
 (bin BinOp.add false [] z z_15).bind fun z => (bin BinOp.add false [] (sl s 2) (D.v (Value.int IntKind.i64 1))).bind fun z_16 => some (Out.nrm [sl s 0, z, z_16]))) (some (Out.ext 0 [sl s 1])))
 [x0, D.v (Value.int IntKind.i64 0), D.v (Value.int IntKind.i64 0)]).bind fun o => outK o (fun i s => ifN (i.beq 0) (some (Out.ret [sl s 0] [])) none) fun a b => some (Out.ret a b))) := by kernel_rfl
theorem t_spec_joNote (x0 : D) : F_spec_joNote [x0] =
  ((boxD 3 x0).bind fun y => (liveD y (D.ref 0 0)).bind fun z => ((atD y z).bind (takeD false 1)).bind fun z => callK (F_spec_l1In [z, D.v (Value.int IntKind.i64 0), D.v (Value.int IntKind.i64 9999)]) fun rs _u =>
 (gate D.bad (sl rs 0) true (liveD y (D.ref 0 1))).bind fun z => (gate (D.tup []) (sl rs 0) true ((atD y z).bind (takeD false 1))).bind fun z => gateC (sl rs 0) true
 (callK (F_spec_l1In [z, D.v (Value.int IntKind.i64 0), D.v (Value.int IntKind.i64 3)]) fun rs _u => some (Out.nrm [sl rs 0])) [D.tup []] fun outs => (pickD (sl rs 0) (sl outs 0) (D.v (Value.bool false))).bind fun z =>
 (gate D.bad z true (liveD y (D.ref 0 2))).bind fun z_1 => (gate (D.tup []) z true ((atD y z_1).bind (takeD false 1))).bind fun z_2 => gateC z true
 (callK (F_spec_l1In [z_2, D.v (Value.int IntKind.i64 1), D.v (Value.int IntKind.i64 99999)]) fun rs _u => some (Out.nrm [sl rs 0])) [D.tup []] fun outs =>
 (pickD z (sl outs 0) (D.v (Value.bool false))).bind fun z => some (Out.ret [z] [])) := by kernel_rfl
theorem t_spec_joGood (x0 : D) : F_spec_joGood [x0] =
  ((lenD false x0).bind fun z => (loopC (fun s => (bin BinOp.lss false [] (sl s 3) (sl s 2)).bind fun z => ifD z ((Option.map D.ptr (elemD 3 (sl s 1) (sl s 3))).bind fun z => ((ldD true 3 z).bind chkV).bind fun z => (stD 3
 (D.agg [D.v (Value.int IntKind.i64 0), D.v (Value.int IntKind.i64 0), D.v (Value.int IntKind.i64 0)]) (D.ref 0 0) z).bind fun b => (fldD true 3 0 b).bind fun z => callK (F_spec_joNote [z]) fun rs _u =>
 (un UnOp.not (sl rs 0)).bind fun z => (gate (D.tup []) z false (some (sl s 3))).bind fun z_1 => (gate (D.tup []) z false (bin BinOp.gtr false [] z_1 (D.v (Value.int IntKind.i64 0)))).bind fun z_2 =>
 (gate (D.tup []) z false (some z_2)).bind fun z_3 => (gate (D.tup []) z_3 true (some (sl s 0))).bind fun z_4 => (gate (D.tup []) z_3 true (some (sl s 3))).bind fun z_5 => (gate (D.tup []) z_3 true
 (bin BinOp.sub false [] z_5 (D.v (Value.int IntKind.i64 1)))).bind fun z_6 => (gate (D.tup []) z_3 true (Option.map D.ptr (elemD 3 z_4 z_6))).bind fun z_7 => (gate (D.tup []) z_3 true (offD 0 z_7)).bind fun z_8 =>
 (gate (D.tup []) z_3 true ((ldD false 1 z_8).bind chkV)).bind fun z_9 => (gate D.bad z_3 true (liveD b (D.ref 0 0))).bind fun z_10 => (gate (D.tup []) z_3 true ((atD b z_10).bind (takeD false 1))).bind fun z_11 =>
 (gate (D.tup []) z_3 true (bin BinOp.gtr false [] z_9 z_11)).bind fun z_12 => (gate (D.tup []) z false (pickD z_3 z_12 (D.v (Value.bool false)))).bind fun z_13 => (pickD z (D.v (Value.bool true)) z_13).bind fun z =>
 ifD z (some (Out.ret [D.v (Value.bool false)] [])) ((bin BinOp.add false [] (sl s 3) (D.v (Value.int IntKind.i64 1))).bind fun z => some (Out.nrm [sl s 0, sl s 1, sl s 2, z]))) (some (Out.ext 0 [sl s 0])))
 [x0, x0, z, D.v (Value.int IntKind.i64 0)]).bind fun o => outK o (fun i s => ifN (i.beq 0) ((lenD false (sl s 0)).bind fun z =>
 (bin BinOp.leq false [] z (D.v (Value.int IntKind.i64 24))).bind fun z => some (Out.ret [z] [])) none) fun a b => some (Out.ret a b)) := by kernel_rfl
theorem t_spec_joCheck (x0 x1 : D) : F_spec_joCheck [x0, x1] =
  ((boxD 3 x1).bind fun y => (bin BinOp.mul false [] (D.v (Value.int IntKind.i64 31)) x0).bind fun z => (liveD y (D.ref 0 0)).bind fun z_1 => ((atD y z_1).bind (takeD false 1)).bind fun z_2 =>
 (bin BinOp.mul false [] (D.v (Value.int IntKind.i64 17)) z_2).bind fun z_3 => (bin BinOp.add false [] z z_3).bind fun z => (liveD y (D.ref 0 1)).bind fun z_4 => ((atD y z_4).bind (takeD false 1)).bind fun z_5 =>
 (bin BinOp.mul false [] (D.v (Value.int IntKind.i64 5)) z_5).bind fun z_6 => (bin BinOp.add false [] z z_6).bind fun z => (liveD y (D.ref 0 2)).bind fun z_7 => ((atD y z_7).bind (takeD false 1)).bind fun z_8 =>
 (bin BinOp.add false [] z z_8).bind fun z => (bin BinOp.rem false [] z (D.v (Value.int IntKind.i64 9973))).bind fun z => some (Out.ret [z] [])) := by kernel_rfl
theorem t_spec_l1Num (n : Nat) (x0 : D) : R_spec_l1Num (n + 1) [x0] =
  ((bin BinOp.lss false [] x0 (D.v (Value.int IntKind.i64 10))).bind fun z => ifD z ((bin BinOp.add false [] (D.v (Value.int IntKind.i64 48)) x0).bind fun z => (convD (some IntKind.u8) false z).bind fun z =>
 (mkArr 1 [z]).bind fun a => (strD a).bind fun z => some (Out.ret [z] [])) ((bin BinOp.quo false [] x0 (D.v (Value.int IntKind.i64 10))).bind fun z => callK (R_spec_l1Num n [z]) fun rs _u =>
 (bin BinOp.rem false [] x0 (D.v (Value.int IntKind.i64 10))).bind fun z => (bin BinOp.add false [] (D.v (Value.int IntKind.i64 48)) z).bind fun z => (convD (some IntKind.u8) false z).bind fun z =>
 (mkArr 1 [z]).bind fun a => (strD a).bind fun z => (bin BinOp.add false [] (sl rs 0) z).bind fun z => some (Out.ret [z] []))) := by kernel_rfl
theorem t_spec_joLine (x0 x1 : D) : F_spec_joLine [x0, x1] =
  ((boxD 3 x0).bind fun y => (liveD y (D.ref 0 0)).bind fun z => ((atD y z).bind (takeD false 1)).bind fun z => callK (F_spec_l1Num [z]) fun rs _u =>
 (bin BinOp.add false [] (sl rs 0) (D.v (Value.string { data := { toList := [32] } }))).bind fun z => (liveD y (D.ref 0 1)).bind fun z_1 => ((atD y z_1).bind (takeD false 1)).bind fun z_2 =>
 callK (F_spec_l1Num [z_2]) fun rs _u => (bin BinOp.add false [] z (sl rs 0)).bind fun z => (bin BinOp.add false [] z (D.v (Value.string { data := { toList := [32] } }))).bind fun z => (liveD y (D.ref 0 2)).bind fun z_3 =>
 ((atD y z_3).bind (takeD false 1)).bind fun z_4 => callK (F_spec_l1Num [z_4]) fun rs _u => (bin BinOp.add false [] z (sl rs 0)).bind fun z =>
 (bin BinOp.add false [] z (D.v (Value.string { data := { toList := [32] } }))).bind fun z => callK (F_spec_l1Num [x1]) fun rs _u => (bin BinOp.add false [] z (sl rs 0)).bind fun z =>
 (bin BinOp.add false [] z (D.v (Value.string { data := { toList := [10] } }))).bind fun z => some (Out.ret [z] [])) := by kernel_rfl
theorem t_spec_joRead (x0 : D) : F_spec_joRead [x0] =
  (callK (F_spec_l1Split [x0, D.v (Value.int IntKind.u8 10)]) fun rs _u => (lenD false (sl rs 0)).bind fun z => (bin BinOp.sub false [] z (D.v (Value.int IntKind.i64 1))).bind fun z =>
 (sliceD false 1 (sl rs 0) (D.v (Value.int IntKind.i64 0)) z).bind fun z => (lenD false z).bind fun z_1 => (loopC (fun s => (bin BinOp.lss false [] (sl s 5) (sl s 4)).bind fun z => ifD z
 ((Option.map D.ptr (elemD 1 (sl s 3) (sl s 5))).bind fun z => ((ldD false 1 z).bind chkV).bind fun z => callK (F_spec_l1Split [z, D.v (Value.int IntKind.u8 32)]) fun rs _u => (lenD false (sl rs 0)).bind fun z_2 =>
 (bin BinOp.neq false [] z_2 (D.v (Value.int IntKind.i64 4))).bind fun z_3 => ifD z_3 (some (Out.ext 0 [sl s 0, sl s 1])) ((Option.map D.ptr (elemD 1 (sl rs 0) (D.v (Value.int IntKind.i64 0)))).bind fun z_4 =>
 ((ldD false 1 z_4).bind chkV).bind fun z_5 => callK (F_spec_l1Read [z_5]) fun rs_1 _u => (Option.map D.ptr (elemD 1 (sl rs 0) (D.v (Value.int IntKind.i64 1)))).bind fun z_6 => ((ldD false 1 z_6).bind chkV).bind fun z_7 =>
 callK (F_spec_l1Read [z_7]) fun rs_2 _u => (Option.map D.ptr (elemD 1 (sl rs 0) (D.v (Value.int IntKind.i64 2)))).bind fun z_8 => ((ldD false 1 z_8).bind chkV).bind fun z_9 => callK (F_spec_l1Read [z_9]) fun rs _u =>
 (bldD [(0, 1), (1, 1), (2, 1)] [D.v (Value.int IntKind.i64 0), D.v (Value.int IntKind.i64 0), D.v (Value.int IntKind.i64 0)] [sl rs_1 0, sl rs_2 0, sl rs 0]).bind fun z_10 => (stD 3 (D.agg [D.v (Value.int IntKind.i64 0),
 D.v (Value.int IntKind.i64 0), D.v (Value.int IntKind.i64 0)]) (D.ref 0 0) z_10).bind fun b => (mkArr 3 []).bind fun a => (liveD (sl s 0) (D.ref 0 0)).bind fun z_11 => (liveD z_11 (sl s 0)).bind fun b_1 =>
 (appD 3 24 a b_1).bind fun y => (fldD true 3 0 b).bind fun z_12 => (mkArr 3 [z_12]).bind fun a => (chkA a).bind fun b_2 => (appD 3 24 y b_2).bind fun y => (liveD y (D.ref 0 0)).bind fun z_13 =>
 (liveD z_13 y).bind fun i => callK (F_spec_joGood [i]) fun rs _u => (un UnOp.not (sl rs 0)).bind fun z_14 => (gate (D.tup []) z_14 false (fldD true 3 0 b)).bind fun z_15 => (gate (D.tup []) z_14 false
 (some (sl s 2))).bind fun z_16 => (gate (D.tup []) z_14 false (fldD true 3 0 b)).bind fun z_17 => gateC z_14 false (callK (F_spec_joCheck [z_16, z_17]) fun rs _u => some (Out.nrm [sl rs 0])) [D.tup []] fun outs =>
 gateC z_14 false (callK (F_spec_joLine [z_15, sl outs 0]) fun rs _u => some (Out.nrm [sl rs 0])) [D.tup []] fun outs => (gate (D.tup []) z_14 false (some z)).bind fun z_18 => (gate (D.tup []) z_14 false
 (bin BinOp.add false [] z_18 (D.v (Value.string { data := { toList := [10] } })))).bind fun z_19 => (gate (D.tup []) z_14 false (bin BinOp.neq false [] (sl outs 0) z_19)).bind fun z_20 => (pickD z_14 (D.v (Value.bool
 true)) z_20).bind fun z_21 => ifD z_21 (some (Out.ext 0 [sl s 0, sl s 1])) ((fldD true 3 0 b).bind fun z_22 => callK (F_spec_joCheck [sl s 2, z_22]) fun rs _u => (lenD true z).bind fun z => (bin BinOp.add false [] z (D.v
 (Value.int IntKind.i64 1))).bind fun z => (bin BinOp.add false [] (sl s 1) z).bind fun z => (bin BinOp.add false [] (sl s 5) (D.v (Value.int IntKind.i64 1))).bind fun z_23 => some (Out.nrm [y, z, sl rs 0, sl s 3, sl s 4,
 z_23])))) (some (Out.ext 0 [sl s 0, sl s 1]))) [D.arr 3 [], D.v (Value.int IntKind.i64 0), D.v (Value.int IntKind.i64 7), z, z_1, D.v (Value.int IntKind.i64 0)]).bind fun o =>
 outK o (fun i s => ifN (i.beq 0) (some (Out.ret [sl s 0, sl s 1] [])) none) fun a b => some (Out.ret a b)) := by kernel_rfl
theorem t_spec_Recovered (x0 : D) : F_spec_Recovered [x0] =
  ((lenD true x0).bind fun z => (bin BinOp.gtr false [] z (D.v (Value.int IntKind.i64 300))).bind fun z => ifD z (some (Out.ret [D.arr 3 [], D.v (Value.int IntKind.i64 0), D.v (Value.bool false)] []))
 (callK (F_spec_joRead [x0]) fun rs _u => (tupAt (D.tup rs) 0).bind fun y => (tupAt (tupCut (D.tup rs) 0) 1).bind fun z => some (Out.ret [y, z, D.v (Value.bool true)] []))) := by kernel_rfl
theorem t_impl_FirstBadLine (x0 : D) : F_impl_FirstBadLine [x0] =
  (callK (F_impl_Recovered [x0]) fun rs _u => (tupAt (D.tup rs) 0).bind fun y => (tupAt (tupCut (D.tup rs) 0) 1).bind fun z => (tupAt (tupCut (D.tup rs) 0) 2).bind fun z_1 => (un UnOp.not z_1).bind fun z_2 =>
 (gate (D.tup []) z_2 false (some z)).bind fun z => (gate (D.tup []) z_2 false (some x0)).bind fun z_3 => (gate (D.tup []) z_2 false (lenD true z_3)).bind fun z_4 =>
 (gate (D.tup []) z_2 false (bin BinOp.eql false [] z z_4)).bind fun z => (pickD z_2 (D.v (Value.bool true)) z).bind fun z => ifD z (some (Out.ret [D.v (Value.int IntKind.i64 0), D.v (Value.bool false)] []))
 ((lenD false y).bind fun z => some (Out.ret [z, D.v (Value.bool true)] []))) := by kernel_rfl
theorem t_spec_FirstBadLine (x0 : D) : F_spec_FirstBadLine [x0] =
  (callK (F_spec_joRead [x0]) fun rs _u => (tupAt (D.tup rs) 0).bind fun y => (tupAt (tupCut (D.tup rs) 0) 1).bind fun z => (lenD true x0).bind fun z_1 =>
 (bin BinOp.gtr false [] z_1 (D.v (Value.int IntKind.i64 300))).bind fun z_2 => (gate (D.tup []) z_2 false (some z)).bind fun z => (gate (D.tup []) z_2 false (some x0)).bind fun z_3 =>
 (gate (D.tup []) z_2 false (lenD true z_3)).bind fun z_4 => (gate (D.tup []) z_2 false (bin BinOp.eql false [] z z_4)).bind fun z => (pickD z_2 (D.v (Value.bool true)) z).bind fun z =>
 ifD z (some (Out.ret [D.v (Value.int IntKind.i64 0), D.v (Value.bool false)] [])) ((lenD false y).bind fun z => some (Out.ret [z, D.v (Value.bool true)] []))) := by kernel_rfl
theorem t_spec_ReadJournal (x0 : D) : F_spec_ReadJournal [x0] =
  (callK (F_spec_joRead [x0]) fun rs _u => (tupAt (D.tup rs) 0).bind fun y => (tupAt (tupCut (D.tup rs) 0) 1).bind fun z => (lenD true x0).bind fun z_1 =>
 (bin BinOp.gtr false [] z_1 (D.v (Value.int IntKind.i64 300))).bind fun z_2 => (gate (D.tup []) z_2 false (some z)).bind fun z => (gate (D.tup []) z_2 false (some x0)).bind fun z_3 =>
 (gate (D.tup []) z_2 false (lenD true z_3)).bind fun z_4 => (gate (D.tup []) z_2 false (bin BinOp.neq false [] z z_4)).bind fun z => (pickD z_2 (D.v (Value.bool true)) z).bind fun z =>
 ifD z (some (Out.ret [D.arr 3 [], D.v (Value.bool false)] [])) (some (Out.ret [y, D.v (Value.bool true)] []))) := by kernel_rfl
theorem t_impl_SameStart (x0 x1 : D) : F_impl_SameStart [x0, x1] =
  (callK (F_impl_readJournal [x0]) fun rs _u => (tupAt (D.tup rs) 0).bind fun y => (tupAt (tupCut (D.tup rs) 0) 1).bind fun z => callK (F_impl_readJournal [x1]) fun rs _u => (tupAt (D.tup rs) 0).bind fun y_1 =>
 (tupAt (tupCut (D.tup rs) 0) 1).bind fun z_1 => (un UnOp.not z).bind fun z => (gate (D.tup []) z false (some z_1)).bind fun z_2 => (gate (D.tup []) z false (un UnOp.not z_2)).bind fun z_3 =>
 (pickD z (D.v (Value.bool true)) z_3).bind fun z => ifD z (some (Out.ret [D.v (Value.int IntKind.i64 0), D.v (Value.bool false)] [])) ((loopC (fun s => (lenD false (sl s 0)).bind fun z =>
 (bin BinOp.lss false [] (sl s 2) z).bind fun z => (gate (D.tup []) z true (some (sl s 2))).bind fun z_4 => (gate (D.tup []) z true (some (sl s 1))).bind fun z_5 => (gate (D.tup []) z true (lenD false z_5)).bind fun z_6 =>
 (gate (D.tup []) z true (bin BinOp.lss false [] z_4 z_6)).bind fun z_7 => (pickD z z_7 (D.v (Value.bool false))).bind fun z => (gate (D.tup []) z true (some (sl s 0))).bind fun z_8 =>
 (gate (D.tup []) z true (some (sl s 2))).bind fun z_9 => (gate (D.tup []) z true (Option.map D.ptr (elemD 3 z_8 z_9))).bind fun z_10 => (gate (D.tup []) z true ((ldD true 3 z_10).bind chkV)).bind fun z_11 =>
 (gate (D.tup []) z true (some (sl s 1))).bind fun z_12 => (gate (D.tup []) z true (some (sl s 2))).bind fun z_13 => (gate (D.tup []) z true (Option.map D.ptr (elemD 3 z_12 z_13))).bind fun z_14 =>
 (gate (D.tup []) z true ((ldD true 3 z_14).bind chkV)).bind fun z_15 => (gate (D.tup []) z true (bin BinOp.eql false [1, 1, 1] z_11 z_15)).bind fun z_16 => (pickD z z_16 (D.v (Value.bool false))).bind fun z => ifD z
 ((bin BinOp.add false [] (sl s 2) (D.v (Value.int IntKind.i64 1))).bind fun z => some (Out.nrm [sl s 0, sl s 1, z])) (some (Out.ext 0 [sl s 2]))) [y, y_1, D.v (Value.int IntKind.i64 0)]).bind fun o =>
 outK o (fun i s => ifN (i.beq 0) (some (Out.ret [sl s 0, D.v (Value.bool true)] [])) none) fun a b => some (Out.ret a b))) := by kernel_rfl
theorem t_spec_SameStart (x0 x1 : D) : F_spec_SameStart [x0, x1] =
  (callK (F_spec_ReadJournal [x0]) fun rs _u => (tupAt (D.tup rs) 0).bind fun y => (tupAt (tupCut (D.tup rs) 0) 1).bind fun z => callK (F_spec_ReadJournal [x1]) fun rs _u => (tupAt (D.tup rs) 0).bind fun y_1 =>
 (tupAt (tupCut (D.tup rs) 0) 1).bind fun z_1 => (un UnOp.not z).bind fun z => (gate (D.tup []) z false (some z_1)).bind fun z_2 => (gate (D.tup []) z false (un UnOp.not z_2)).bind fun z_3 =>
 (pickD z (D.v (Value.bool true)) z_3).bind fun z => ifD z (some (Out.ret [D.v (Value.int IntKind.i64 0), D.v (Value.bool false)] [])) ((loopC (fun s => (lenD false (sl s 0)).bind fun z =>
 (bin BinOp.lss false [] (sl s 2) z).bind fun z => (gate (D.tup []) z true (some (sl s 2))).bind fun z_4 => (gate (D.tup []) z true (some (sl s 1))).bind fun z_5 => (gate (D.tup []) z true (lenD false z_5)).bind fun z_6 =>
 (gate (D.tup []) z true (bin BinOp.lss false [] z_4 z_6)).bind fun z_7 => (pickD z z_7 (D.v (Value.bool false))).bind fun z => (gate (D.tup []) z true (some (sl s 0))).bind fun z_8 =>
 (gate (D.tup []) z true (some (sl s 2))).bind fun z_9 => (gate (D.tup []) z true (Option.map D.ptr (elemD 3 z_8 z_9))).bind fun z_10 => (gate (D.tup []) z true ((ldD true 3 z_10).bind chkV)).bind fun z_11 =>
 (gate (D.tup []) z true (some (sl s 1))).bind fun z_12 => (gate (D.tup []) z true (some (sl s 2))).bind fun z_13 => (gate (D.tup []) z true (Option.map D.ptr (elemD 3 z_12 z_13))).bind fun z_14 =>
 (gate (D.tup []) z true ((ldD true 3 z_14).bind chkV)).bind fun z_15 => (gate (D.tup []) z true (bin BinOp.eql false [1, 1, 1] z_11 z_15)).bind fun z_16 => (pickD z z_16 (D.v (Value.bool false))).bind fun z => ifD z
 ((bin BinOp.add false [] (sl s 2) (D.v (Value.int IntKind.i64 1))).bind fun z => some (Out.nrm [sl s 0, sl s 1, z])) (some (Out.ext 0 [sl s 2]))) [y, y_1, D.v (Value.int IntKind.i64 0)]).bind fun o =>
 outK o (fun i s => ifN (i.beq 0) (some (Out.ret [sl s 0, D.v (Value.bool true)] [])) none) fun a b => some (Out.ret a b))) := by kernel_rfl
end Go.Proofs.YtfjkapnonljdeaaGreatDoor
/-
  Numbers as texts; the text of an order.
-/
namespace Go.Proofs.YtfjkapnonljdeaaGreatDoor
open Go Go.V
set_option linter.unusedSimpArgs false

theorem e_spec_l1In (a b c : Int) : F_spec_l1In [I a, I b, I c] = some (.ret [B (decide (b ≤ a ∧ a ≤ c))] []) := by
  rw [t_spec_l1In]
  by_cases h : b ≤ a <;> simp [h]
theorem e_impl_within (a b c : Int) : F_impl_within [I a, I b, I c] = some (.ret [B (decide (b ≤ a ∧ a ≤ c))] []) := by
  rw [t_impl_within]
  by_cases h : b ≤ a <;> simp [h]

/-! ### numbers -/
/-- The decimal numeral. -/
def numT (u : Nat) : ByteArray := ⟨(Lib.decDigits u).toArray⟩
def intT (n : Int) : ByteArray := ⟨(Lib.itoa n).toArray⟩
theorem intT_nat (u : Nat) : intT (u : Int) = numT u := by
  unfold intT numT
  rw [Lib.itoa_nonneg]
theorem numT_small {u : Nat} (h : u < 10) : numT u = ⟨#[UInt8.ofNat (48 + u)]⟩ := by
  unfold numT
  rw [Lib.decDigits_one h]
theorem numT_big {u : Nat} (h : ¬ u < 10) : numT u = numT (u / 10) ++ ⟨#[UInt8.ofNat (48 + u % 10)]⟩ := by
  unfold numT
  rw [Lib.decDigits, dif_neg h]
  apply ByteArray.ext
  simp
theorem numT_size : ∀ (k u : Nat), u < 10 ^ (k + 1) → (numT u).size ≤ k + 1
  | 0, u, h => by
    rw [numT_small (by simpa using h)]
    exact Nat.le_refl _
  | k + 1, u, h => by
    by_cases hu : u < 10
    · rw [numT_small hu]
      show 1 ≤ k + 1 + 1
      omega
    · rw [numT_big hu, ByteArray.size_append]
      have h1 := numT_size k (u / 10) (by rw [Nat.pow_succ] at h; exact Nat.div_lt_of_lt_mul (by rw [Nat.mul_comm]; exact h))
      have h2 : (⟨#[UInt8.ofNat (48 + u % 10)]⟩ : ByteArray).size = 1 := rfl
      omega
theorem intT_size (k : Nat) {n : Int} (h0 : 0 ≤ n) (h1 : n < 10 ^ (k + 1)) : (intT n).size ≤ k + 1 := by
  obtain ⟨u, rfl⟩ := Int.eq_ofNat_of_zero_le h0
  rw [intT_nat]
  exact numT_size k u (by exact_mod_cast h1)
theorem byte_of (u : Nat) (h : u < 10) : bytesOf [.v (.int .u8 (48 + (u : Int)))] = some [UInt8.ofNat (48 + u)] := by
  have e : (48 + (u : Int)).toNat = 48 + u := by omega
  simp only [bytesOf, e, Option.map_some]
theorem wrap8 (a : Int) (h0 : 0 ≤ a) (h1 : a < 256) : IntKind.u8.wrap a = a := by
  have := Int.emod_eq_of_lt h0 h1
  simpa [IntKind.wrap, IntKind.bits, IntKind.signed] using this
theorem mkArr_u8 (a : Int) : mkArr 1 [.v (.int .u8 a)] = some (.arr 1 [.v (.int .u8 a)]) := by simp [mkArr, lenOkD]

theorem num_step (k u : Nat) (hu : u < 10 ^ 18) (ih : R_spec_l1Num k [I ((u / 10 : Nat) : Int)] = none ∨ R_spec_l1Num k [I ((u / 10 : Nat) : Int)] = some (.ret [T (numT (u / 10))] [])) :
    (R_spec_l1Num (k + 1) [I (u : Int)] = none ∧ R_spec_l1Num k [I ((u / 10 : Nat) : Int)] = none ∧ ¬ u < 10) ∨ R_spec_l1Num (k + 1) [I (u : Int)] = some (.ret [T (numT u)] []) := by
  rw [t_spec_l1Num]
  by_cases h : u < 10
  · right
    have h1 : (u : Int) < 10 := by omega
    have hw : IntKind.i64.wrap (48 + (u : Int)) = 48 + (u : Int) := wrap_id (by omega) (by omega)
    have hw8 := wrap8 (48 + (u : Int)) (by omega) (by omega)
    simp only [bin_lss, h1, decide_true, Option.bind_some, ifD_B, if_true, bin_add, hw, convD, hw8, mkArr_u8, strD, byte_of u h, Option.map_some, numT_small h]
  · have h1 : ¬ (u : Int) < 10 := by omega
    have hq : IntKind.i64.wrap ((u : Int).tdiv 10) = ((u / 10 : Nat) : Int) := by
      rw [Int.tdiv_eq_ediv_of_nonneg (by omega), wrap_id (by omega) (by omega)]
      omega
    have hr : (u : Int).tmod 10 = ((u % 10 : Nat) : Int) := by
      rw [Int.tmod_eq_emod_of_nonneg (by omega)]
      omega
    have hm : u % 10 < 10 := Nat.mod_lt _ (by decide)
    have hw : IntKind.i64.wrap (48 + ((u % 10 : Nat) : Int)) = 48 + ((u % 10 : Nat) : Int) := wrap_id (by omega) (by omega)
    have hw8 := wrap8 (48 + ((u % 10 : Nat) : Int)) (by omega) (by omega)
    have hs : (numT (u / 10)).size + (⟨#[UInt8.ofNat (48 + u % 10)]⟩ : ByteArray).size ≤ 1152921504606846976 := by
      have := numT_size 17 (u / 10) (by omega)
      have h2 : (⟨#[UInt8.ofNat (48 + u % 10)]⟩ : ByteArray).size = 1 := rfl
      omega
    rcases ih with e | e
    · left
      refine ⟨?_, e, h⟩
      simp only [bin_lss, h1, decide_false, Option.bind_some, ifD_B, Bool.false_eq_true, if_false, bin_quo, show ¬ (10 : Int) = 0 by decide, hq, e, callK]
    · right
      simp only [bin_lss, h1, decide_false, Option.bind_some, ifD_B, Bool.false_eq_true, if_false, bin_quo, show ¬ (10 : Int) = 0 by decide, hq, e, callK_ret, bin_rem, hr, bin_add, hw, convD, hw8, mkArr_u8, strD,
        byte_of _ hm, Option.map_some, sl_zero, bin_addS, hs, if_true, numT_big h]
theorem num_or : ∀ (k u : Nat), u < 10 ^ 18 → R_spec_l1Num k [I (u : Int)] = none ∨ R_spec_l1Num k [I (u : Int)] = some (.ret [T (numT u)] [])
  | 0, _, _ => .inl rfl
  | k + 1, u, hu => (num_step k u hu (num_or k (u / 10) (by omega))).imp (fun h => h.1) id
theorem num_big : ∀ (k u : Nat), u < 10 ^ 18 → u < 10 ^ (k + 1) → R_spec_l1Num (k + 1) [I (u : Int)] = some (.ret [T (numT u)] [])
  | 0, u, hu, h => by
    rcases num_step 0 u hu (num_or 0 _ (by omega)) with ⟨_, _, h1⟩ | h1
    · exact absurd (by simpa using h) h1
    · exact h1
  | k + 1, u, hu, h => by
    rcases num_step (k + 1) u hu (num_or (k + 1) _ (by omega)) with ⟨_, h1, _⟩ | h1
    · rw [num_big k (u / 10) (by omega) (by rw [Nat.pow_succ] at h; exact Nat.div_lt_of_lt_mul (by rw [Nat.mul_comm]; exact h))] at h1
      cases h1
    · exact h1
theorem e_spec_l1Num {n : Int} (h0 : 0 ≤ n) (h1 : n < 1000000000000000000) : F_spec_l1Num [I n] = some (.ret [T (intT n)] []) := by
  obtain ⟨u, rfl⟩ := Int.eq_ofNat_of_zero_le h0
  have hu : u < 10 ^ 18 := by omega
  rw [intT_nat]
  refine recF_eq (fun k o ho => ?_) 18 (num_big 17 u hu hu)
  rcases num_or k u hu with e | e
  · rw [e] at ho; cases ho
  · rw [e] at ho; cases ho; rfl
theorem e_Itoa {n : Int} (h0 : -9223372036854775808 ≤ n) (h1 : n ≤ 9223372036854775807) : fItoa [I n] = some (.ret [T (intT n)] []) := by
  simp only [fItoa, h0, h1, and_self, if_true]
  rfl

/-! ### orders -/
/-- A text of few bytes. -/
theorem addS {a b : ByteArray} {bl : Bool} {eq : List Nat} (h : a.size + b.size ≤ 1152921504606846976) : bin .add bl eq (T a) (T b) = some (T (a ++ b)) := by rw [bin_addS, if_pos h]
theorem sz1 (a : UInt8) : (⟨#[a]⟩ : ByteArray).size = 1 := rfl
theorem sz4 (a b c d : UInt8) : (⟨#[a, b, c, d]⟩ : ByteArray).size = 4 := rfl
end Go.Proofs.YtfjkapnonljdeaaGreatDoor
/-
  More laws of loops; letters; cases.
-/
namespace Go.Proofs.YtfjkapnonljdeaaGreatDoor
open Go Go.V
set_option linter.unusedSimpArgs false

/-- The first place where something holds. -/
def findI {β : Type} (p : β → Bool) : Nat → List β → Option Nat
  | _, [] => none
  | i, x :: l => if p x = true then some i else findI p (i + 1) l
theorem loop_find {β : Type} {body : List D → Option Out} (l : List β) (st : Nat → List D) (p : β → Bool) (o1 : Nat → Out) (o2 : Out) (hs : ∀ (i : Nat) (hi : i < l.length), body (st i) = some (if p l[i] = true then o1 i else .nrm (st (i + 1)))) (he : body (st l.length) = some o2)
    (h1 : ∀ i, (o1 i).ends = true) (h2 : o2.ends = true) {s0 : List D} (h : s0 = st 0) : loopC body s0 = some ((findI p 0 l).elim o2 o1) := by
  have e : ∀ (m : List β) (i : Nat), goL (fun i x (_ : Unit) => if p x = true then .inr (o1 i) else .inl ()) (fun _ => o2) i m () = (findI p i m).elim o2 o1 := by
    intro m
    induction m with
    | nil => intro i; simp [goL, findI]
    | cons x m ih =>
      intro i
      simp only [goL, findI]
      by_cases hp : p x = true
      · simp [hp]
      · simp [hp, ih]
  rw [← e]
  refine loop_list l (fun i _ => st i) (fun _ _ => True) _ _ (fun i x a hx _ => ?_) (fun _ _ => ⟨he, h2⟩) () trivial h
  have hi : i < l.length := (List.getElem?_eq_some_iff.1 hx).1
  have hxe : l[i] = x := (List.getElem?_eq_some_iff.1 hx).2
  have := hs i hi
  rw [hxe] at this
  by_cases hp : p x = true
  · simpa [hp, h1] using this
  · simpa [hp] using this
/-- All is well, and something is gathered. -/
theorem loop_allf {α β : Type} {body : List D → Option Out} (l : List β) (st : Nat → α → List D) (Inv : Nat → α → Prop) (p : Nat → β → Bool) (f : α → β → α) (o1 : Out) (fin : α → Out) (a : α) (hs : ∀ (i : Nat) (a : α) (hi : i < l.length), Inv i a → body (st i a) = some (if p i l[i] = true then .nrm (st (i + 1) (f a l[i])) else o1) ∧ (p i l[i] = true → Inv (i + 1) (f a l[i])))
    (he : ∀ a, Inv l.length a → body (st l.length a) = some (fin a)) (h1 : o1.ends = true) (h2 : ∀ a, (fin a).ends = true) (h0 : Inv 0 a) {s0 : List D} (h : s0 = st 0 a) : loopC body s0 = some (if allI p 0 l = true then fin (l.foldl f a) else o1) := by
  have e : ∀ (m : List β) (i : Nat) (a : α), goL (fun i x (a : α) => if p i x = true then .inl (f a x) else .inr o1) fin i m a = if allI p i m = true then fin (m.foldl f a) else o1 := by
    intro m
    induction m with
    | nil => intro i a; simp [goL, allI]
    | cons x m ih =>
      intro i a
      simp only [goL, allI, List.foldl_cons]
      by_cases hp : p i x = true
      · simp [hp, ih]
      · simp [hp]
  rw [← e]
  refine loop_list l st Inv _ _ (fun i x a hx hI => ?_) (fun a hI => ⟨he a hI, h2 a⟩) a h0 h
  have hi : i < l.length := (List.getElem?_eq_some_iff.1 hx).1
  have hxe : l[i] = x := (List.getElem?_eq_some_iff.1 hx).2
  have := hs i a hi hI
  rw [hxe] at this
  by_cases hp : p i x = true
  · simpa [hp] using this
  · simpa [hp, h1] using this
def chars (s : ByteArray) : List UInt8 := s.data.toList
theorem charD_nat {s : ByteArray} {k : IntKind} {i : Nat} : charD (T s) (.v (.int k (i : Int))) = ((chars s)[i]?).map fun b => U b.toNat := by simp [charD, chars]
theorem size_list (s : ByteArray) : s.size = (chars s).length := rfl
theorem bin_geqS {a b : ByteArray} {bl : Bool} {eq : List Nat} : bin .geq bl eq (T a) (T b) = some (B (!Op.bytesLess a.toList b.toList)) := by simp [bin, strBin]

/-! ### letters -/
/-! ### cases -/
end Go.Proofs.YtfjkapnonljdeaaGreatDoor
/-
  Texts cut at a byte.
-/
namespace Go.Proofs.YtfjkapnonljdeaaGreatDoor
open Go Go.V
set_option linter.unusedSimpArgs false

theorem chars_inj {a b : ByteArray} (h : chars a = chars b) : a = b := by
  cases a with | mk a => cases b with | mk b =>
    cases a with | mk a => cases b with | mk b =>
      simp [chars] at h
      rw [h]
theorem chars_extract (s : ByteArray) (i j : Nat) : chars (s.extract i j) = ((chars s).take j).drop i := by
  simp [chars, List.drop_take]
theorem chars_mk (l : List UInt8) : chars ⟨l.toArray⟩ = l := by simp [chars]
theorem mk_chars (s : ByteArray) : (⟨(chars s).toArray⟩ : ByteArray) = s := chars_inj (chars_mk _)
theorem chars_append (a b : ByteArray) : chars (a ++ b) = chars a ++ chars b := by simp [chars]
theorem sliceS {s : ByteArray} {z i j : Nat} (h1 : i ≤ j) (h2 : j ≤ s.size) : sliceD true z (T s) (I (i : Int)) (I (j : Int)) = some (T (s.extract i j)) := by
  simp only [sliceD, Int.toNat_natCast]
  rw [if_pos (by omega)]
theorem sliceHiS {s : ByteArray} {z i : Nat} (h : i ≤ s.size) : sliceHi true z (T s) (I (i : Int)) = some (T (s.extract i s.size)) := by
  simp only [sliceHi, Int.toNat_natCast]
  rw [if_pos (by omega)]

/-! ### the pieces -/
def consH (x : UInt8) : List (List UInt8) → List (List UInt8)
  | [] => [[x]]
  | h :: t => (x :: h) :: t
/-- A text cut at each c. -/
def splitL (c : UInt8) : List UInt8 → List (List UInt8)
  | [] => [[]]
  | x :: l => if x = c then [] :: splitL c l else consH x (splitL c l)
theorem splitL_ne (c : UInt8) (l : List UInt8) : splitL c l ≠ [] := by
  cases l with
  | nil => simp [splitL]
  | cons x l =>
    simp only [splitL]
    split
    · simp
    · cases splitL c l <;> simp [consH]
theorem splitL_miss {c : UInt8} : ∀ {l : List UInt8}, c ∉ l → splitL c l = [l]
  | [], _ => rfl
  | x :: l, h => by
    simp only [List.mem_cons, not_or] at h
    simp only [splitL]
    rw [if_neg (Ne.symm h.1), splitL_miss h.2]
    rfl
theorem splitL_hit {c : UInt8} {b : List UInt8} : ∀ {a : List UInt8}, c ∉ a → splitL c (a ++ c :: b) = a :: splitL c b
  | [], _ => by simp [splitL]
  | x :: a, h => by
    simp only [List.mem_cons, not_or] at h
    rw [List.cons_append]
    simp only [splitL]
    rw [if_neg (Ne.symm h.1), splitL_hit h.2]
    rfl
theorem splitL_snoc (c x : UInt8) : ∀ (l : List UInt8) (o : List (List UInt8)) (p : List UInt8), splitL c l = o ++ [p] → splitL c (l ++ [x]) = if x = c then (o ++ [p]) ++ [[]] else o ++ [p ++ [x]]
  | [], o, p, h => by
    have h : [[]] = o ++ [p] := h
    have : o = [] ∧ p = [] := by
      cases o with
      | nil => simpa using h.symm
      | cons y o => cases o <;> simp at h
    obtain ⟨rfl, rfl⟩ := this
    simp only [List.nil_append, splitL]
    split <;> rfl
  | y :: l, o, p, h => by
    simp only [splitL] at h
    rw [List.cons_append]
    simp only [splitL]
    by_cases hy : y = c
    · rw [if_pos hy] at h ⊢
      cases o with
      | nil => exact absurd (List.cons.inj h).2 (splitL_ne c l)
      | cons z o =>
        rw [List.cons_append, List.cons.injEq] at h
        obtain ⟨rfl, h⟩ := h
        rw [splitL_snoc c x l o p h]
        split <;> rfl
    · rw [if_neg hy] at h ⊢
      generalize hs : splitL c l = s at h
      cases s with
      | nil => exact absurd hs (splitL_ne c l)
      | cons z s =>
        simp only [consH] at h
        cases o with
        | nil =>
          have : s = [] ∧ p = y :: z := by
            rw [List.nil_append, List.cons.injEq] at h
            exact ⟨h.2, h.1.symm⟩
          obtain ⟨rfl, rfl⟩ := this
          rw [splitL_snoc c x l [] z hs]
          split <;> simp [consH]
        | cons w o =>
          rw [List.cons_append, List.cons.injEq] at h
          obtain ⟨rfl, h⟩ := h
          rw [splitL_snoc c x l (z :: o) p (by rw [hs, h]; rfl)]
          split <;> simp [consH]

/-! ### the library's own words -/
theorem index_spec (c : UInt8) : ∀ (l : List UInt8), (Lib.index l [c] = -1 ∧ c ∉ l) ∨ ∃ a b, l = a ++ c :: b ∧ c ∉ a ∧ Lib.index l [c] = a.length
  | [] => .inl ⟨by simp [Lib.index], by simp⟩
  | x :: l => by
    rw [Lib.index_one]
    simp only [Lib.indexByte]
    by_cases hx : x = c
    · subst hx
      exact .inr ⟨[], l, rfl, by simp, by simp⟩
    · have ih := index_spec c l
      rw [Lib.index_one] at ih
      rw [if_neg (by simpa using hx)]
      rcases ih with ⟨h1, h2⟩ | ⟨a, b, rfl, h2, h3⟩
      · exact .inl ⟨by rw [h1]; rfl, by simp [h2, Ne.symm hx]⟩
      · refine .inr ⟨x :: a, b, rfl, by simp [h2, Ne.symm hx], ?_⟩
        rw [if_neg (by rw [h3]; simp), h3]
        simp
theorem splitK_eq (c : UInt8) : ∀ (n : Nat) (l : List UInt8), l.length ≤ n → Lib.splitK [c] 0 (Lib.count l [c]) l = splitL c l
  | n, l, hn => by
    rcases index_spec c l with ⟨h1, h2⟩ | ⟨a, b, rfl, h2, h3⟩
    · rw [Lib.count_miss h1, splitL_miss h2]
      rfl
    · rw [Lib.count_hit (by simp) h3, splitL_hit h2, Nat.add_comm 1]
      have hb : (a ++ c :: b).drop (a.length + [c].length) = b := by
        rw [← List.drop_drop]
        simp
      cases n with
      | zero => simp at hn
      | succ n =>
        rw [hb]
        unfold Lib.splitK
        rw [if_neg (by rw [h3]; simp), h3]
        have e : ((a.length : Int)).toNat = a.length := by omega
        rw [e, hb, splitK_eq c n b (by simp at hn; omega)]
        simp
/-- A text cut at each c. -/
def splitT (c : UInt8) (s : ByteArray) : List ByteArray := (splitL c (chars s)).map fun l => ⟨l.toArray⟩
theorem splitOf_eq (c : UInt8) (s : ByteArray) : splitOf s ⟨#[c]⟩ = splitT c s := by
  have h : (splitOf s ⟨#[c]⟩).map chars = splitL c (chars s) := by
    have := Lib.splitB_data ⟨#[c]⟩ 0 (Lib.countB s ⟨#[c]⟩) s
    rw [show (fun x : ByteArray => x.data.toList) = chars from rfl] at this
    rw [splitOf, this]
    exact splitK_eq c _ _ (Nat.le_refl _)
  have h2 : (splitOf s ⟨#[c]⟩).map (fun x => (⟨(chars x).toArray⟩ : ByteArray)) = splitT c s := by
    rw [splitT, ← h, List.map_map]
    rfl
  rw [← h2]
  have : (fun x : ByteArray => (⟨(chars x).toArray⟩ : ByteArray)) = id := funext mk_chars
  rw [this, List.map_id]
theorem e_Split {c : UInt8} {s : ByteArray} (h : s.size < 4294967281) : fSplit [T s, T ⟨#[c]⟩] = some (.ret [.arr 1 ((splitT c s).map T)] []) := by
  have h1 : 1 ≤ (⟨#[c]⟩ : ByteArray).size := Nat.le_refl 1
  simp only [fSplit, h, h1, and_self, if_true, splitOf_eq]
theorem cut_miss {c : UInt8} {l : List UInt8} (h : c ∉ l) : Lib.cut l [c] = (l, [], false) := by
  rcases index_spec c l with ⟨h1, _⟩ | ⟨a, b, rfl, _, _⟩
  · unfold Lib.cut
    rw [h1, if_neg (by decide)]
  · simp at h
theorem cut_hit {c : UInt8} {a b : List UInt8} (h : c ∉ a) : Lib.cut (a ++ c :: b) [c] = (a, b, true) := by
  rcases index_spec c (a ++ c :: b) with ⟨_, h2⟩ | ⟨a', b', e, h2, h3⟩
  · simp at h2
  · have hl : a.length = a'.length := by
      have key : ∀ (a a' b b' : List UInt8), c ∉ a → c ∉ a' → a ++ c :: b = a' ++ c :: b' → a.length = a'.length := by
        intro a
        induction a with
        | nil =>
          intro a' b b' _ h2 e
          cases a' with
          | nil => rfl
          | cons y a' =>
            simp at e
            simp [e.1] at h2
        | cons x a ih =>
          intro a' b b' h1 h2 e
          cases a' with
          | nil =>
            simp at e
            simp [e.1] at h1
          | cons y a' =>
            simp at e h1 h2 ⊢
            exact ih a' b b' h1.2 h2.2 e.2
      exact key a a' b b' h h2 e
    unfold Lib.cut
    rw [h3, if_pos (by omega)]
    have e2 : ((a'.length : Int)).toNat = a.length := by omega
    rw [e2]
    have hb : (a ++ c :: b).drop (a.length + [c].length) = b := by
      rw [← List.drop_drop]
      simp
    rw [hb]
    simp

theorem splitL_length (c : UInt8) : ∀ (l : List UInt8), (splitL c l).length ≤ l.length + 1
  | [] => by simp [splitL]
  | x :: l => by
    have ih := splitL_length c l
    simp only [splitL]
    split
    · simp; omega
    · generalize splitL c l = s at ih
      cases s <;> simp [consH] at ih ⊢ <;> omega
theorem one_text (s : ByteArray) : mkArr 1 [T s] = some (.arr 1 [T s]) := by simp [mkArr, lenOkD]
theorem chkA_texts (l : List ByteArray) : chkA (.arr 1 (l.map T)) = some (.arr 1 (l.map T)) := chkA_map fun _ => rfl

theorem e_spec_l1Split (s : ByteArray) (c : UInt8) (h : s.size ≤ 4294967296) : F_spec_l1Split [T s, U c.toNat] = some (.ret [.arr 1 ((splitT c s).map T)] []) := by
  rw [t_spec_l1Split]
  let mk : List UInt8 → ByteArray := fun l => ⟨l.toArray⟩
  refine loop_wf_bind (fun r => r = _) (fun (a : List (List UInt8) × Nat × Nat) => [T s, U c.toNat, .arr 1 ((a.1.map mk).map T), I (a.2.1 : Int), I (a.2.2 : Int)])
    (fun a => a.2.2 ≤ s.size ∧ a.2.1 ≤ a.2.2 ∧ a.1.length ≤ a.2.2 ∧ splitL c ((chars s).take a.2.2) = a.1 ++ [((chars s).take a.2.2).drop a.2.1])
    (fun a => s.size - a.2.2) (fun o => ∃ (outs : List (List UInt8)) (fr : Nat), o = .ext 0 [T s, .arr 1 ((outs.map mk).map T), I (fr : Int)] ∧ fr ≤ s.size ∧ outs.length ≤ s.size ∧ splitL c (chars s) = outs ++ [(chars s).drop fr])
    ?_ ([], 0, 0) ⟨Nat.zero_le _, Nat.le_refl _, Nat.le_refl _, by simp [splitL]⟩ rfl ?_
  · rintro ⟨outs, fr, i⟩ ⟨h1, h2, h3, h4⟩
    simp only at h1 h2 h3 h4
    by_cases hi : i < s.size
    · left
      have hl : i < (chars s).length := by rw [← size_list]; exact hi
      have hi' : (i : Int) < (s.size : Int) := by omega
      have hw : IntKind.i64.wrap ((i : Int) + 1) = ((i + 1 : Nat) : Int) := by rw [wrap_id (by omega) (by omega)]; omega
      have hch : charD (T s) (I (i : Int)) = some (U ((chars s)[i].toNat : Int)) := by
        rw [charD_nat, List.getElem?_eq_getElem hl]
        rfl
      have htk : (chars s).take (i + 1) = (chars s).take i ++ [(chars s)[i]] := List.take_succ_eq_append_getElem hl
      have hdr : ((chars s).take i ++ [(chars s)[i]]).drop fr = ((chars s).take i).drop fr ++ [(chars s)[i]] := by
        rw [List.drop_append_of_le_length (by rw [List.length_take]; omega)]
      by_cases hc : (chars s)[i] = c
      · refine ⟨(outs ++ [((chars s).take i).drop fr], i + 1, i + 1), ?_, ⟨by simp only; omega, Nat.le_refl _, by simp; omega, ?_⟩, by simp only; omega⟩
        · have hsl := sliceS (s := s) (z := 0) (i := fr) (j := i) h2 (by omega)
          have hmk : mk (((chars s).take i).drop fr) = s.extract fr i := chars_inj (by rw [chars_extract]; exact chars_mk _)
          have hap : (outs.length + 1) * 16 ≤ 140737488355328 ∧ outs.length + 1 ≤ 1152921504606846976 := by omega
          have e2 : (outs ++ [((chars s).take i).drop fr]).map mk = outs.map mk ++ [s.extract fr i] := by rw [List.map_append, List.map_cons, List.map_nil, hmk]
          have e1 : ((outs.map mk).map T).length + [T (s.extract fr i)].length = outs.length + 1 := by simp
          have hck : chkA (.arr 1 [T (s.extract fr i)]) = some (.arr 1 [T (s.extract fr i)]) := chkA_texts [s.extract fr i]
          simp only [sl_zero, sl_succ, lenD_str, Option.bind_some, bin_lss, hi', decide_true, ifD_B, if_true, hch, bin_eql, hc, hsl, one_text, hck, appD_eq, e1, hap, and_self, bin_add, hw, e2, List.map_append, List.map_cons, List.map_nil]
        · have := splitL_snoc c (chars s)[i] _ _ _ h4
          rw [if_pos hc, ← htk] at this
          simp only
          have hz : ((chars s).take (i + 1)).drop (i + 1) = [] := List.drop_eq_nil_of_le (by rw [List.length_take]; omega)
          rw [this, hz]
      · refine ⟨(outs, fr, i + 1), ?_, ⟨by simp only; omega, by simp only; omega, by simp only; omega, ?_⟩, by simp only; omega⟩
        · have hne : ¬ ((chars s)[i].toNat : Int) = (c.toNat : Int) := fun e => hc (UInt8.toNat_inj.1 (by omega))
          simp only [sl_zero, sl_succ, lenD_str, Option.bind_some, bin_lss, hi', decide_true, ifD_B, if_true, hch, bin_eql, hne, decide_false, Bool.false_eq_true, if_false, bin_add, hw]
        · have := splitL_snoc c (chars s)[i] _ _ _ h4
          rw [if_neg hc, ← htk] at this
          simp only
          rw [this, htk, hdr]
    · right
      have hi' : ¬ (i : Int) < (s.size : Int) := by omega
      have hie : i = s.size := by omega
      refine ⟨_, ?_, rfl, outs, fr, rfl, by omega, by omega, ?_⟩
      · simp only [sl_zero, sl_succ, lenD_str, Option.bind_some, bin_lss, hi', decide_false, ifD_B, Bool.false_eq_true, if_false]
      · rw [hie, size_list, List.take_length] at h4
        exact h4
  · rintro o ⟨outs, fr, rfl, h1, h2, h3⟩
    have hsl := sliceHiS (s := s) (z := 0) (i := fr) h1
    have hmk : mk ((chars s).drop fr) = s.extract fr s.size := chars_inj (by rw [chars_extract, size_list, List.take_length]; exact chars_mk _)
    have hap : (outs.length + 1) * 16 ≤ 140737488355328 ∧ outs.length + 1 ≤ 1152921504606846976 := by omega
    have e1 : ((outs.map mk).map T).length + [T (s.extract fr s.size)].length = outs.length + 1 := by simp
    have hck : chkA (.arr 1 [T (s.extract fr s.size)]) = some (.arr 1 [T (s.extract fr s.size)]) := chkA_texts [s.extract fr s.size]
    have e2 : splitT c s = outs.map mk ++ [s.extract fr s.size] := by rw [splitT, h3, List.map_append, List.map_cons, List.map_nil]; exact congrArg _ (congrArg (fun x => [x]) hmk)
    simp only [outK_ext, Nat.beq_refl, ifN_B, if_true, sl_zero, sl_succ, hsl, Option.bind_some, one_text, hck, appD_eq, e1, hap, and_self, e2, List.map_append, List.map_cons, List.map_nil]
end Go.Proofs.YtfjkapnonljdeaaGreatDoor
/-
  Numbers read out of texts: the plain laws; 'l1Read', 'numbersIn'.
-/
namespace Go.Proofs.YtfjkapnonljdeaaGreatDoor
open Go Go.V
set_option linter.unusedSimpArgs false

/-! ### digits -/
def dig (b : UInt8) : Bool := decide (48 ≤ b.toNat) && decide (b.toNat ≤ 57)
theorem dig_iff {b : UInt8} : dig b = true ↔ 48 ≤ b.toNat ∧ b.toNat ≤ 57 := by simp [dig]
theorem toNat_digit {u : Nat} (h : u < 10) : (UInt8.ofNat (48 + u)).toNat = 48 + u := by
  simp
  omega
theorem dig_ofNat {u : Nat} (h : u < 10) : dig (UInt8.ofNat (48 + u)) = true := by
  rw [dig_iff, toNat_digit h]
  omega
theorem decDigits_step {u : Nat} (h : ¬ u < 10) : Lib.decDigits u = Lib.decDigits (u / 10) ++ [UInt8.ofNat (48 + u % 10)] := by rw [Lib.decDigits, dif_neg h]
theorem decDigits_ind {P : Nat → Prop} (h0 : ∀ u, u < 10 → P u) (h1 : ∀ u, ¬ u < 10 → P (u / 10) → P u) : ∀ u, P u := by
  intro u
  induction u using Nat.strongRecOn with
  | _ u ih =>
    by_cases h : u < 10
    · exact h0 u h
    · exact h1 u h (ih (u / 10) (by omega))
theorem decDigits_dig : ∀ u, ∀ b ∈ Lib.decDigits u, dig b = true := by
  refine decDigits_ind (fun u h b hb => ?_) (fun u h ih b hb => ?_)
  · rw [Lib.decDigits_one h] at hb
    rw [List.mem_singleton.1 hb]
    exact dig_ofNat h
  · rw [decDigits_step h] at hb
    rcases List.mem_append.1 hb with hb | hb
    · exact ih b hb
    · rw [List.mem_singleton.1 hb]
      exact dig_ofNat (Nat.mod_lt u (show 10 > 0 by decide))
theorem decDigits_ne : ∀ u, Lib.decDigits u ≠ [] := by
  refine decDigits_ind (fun u h => ?_) (fun u h ih => ?_)
  · rw [Lib.decDigits_one h]; simp
  · rw [decDigits_step h]; simp
/-- The first digit is 0 just at 0. -/
theorem decDigits_head : ∀ u, 0 < u → ∀ b t, Lib.decDigits u = b :: t → b ≠ 48 := by
  refine decDigits_ind (fun u h h0 b t e => ?_) (fun u h ih h0 b t e => ?_)
  · rw [Lib.decDigits_one h] at e
    obtain ⟨rfl, _⟩ := List.cons.inj e
    intro e2
    have := congrArg UInt8.toNat e2
    rw [toNat_digit h] at this
    have h48 : (48 : UInt8).toNat = 48 := rfl
    omega
  · rw [decDigits_step h] at e
    cases hd : Lib.decDigits (u / 10) with
    | nil => exact absurd hd (decDigits_ne _)
    | cons b' t' =>
      rw [hd, List.cons_append] at e
      obtain ⟨rfl, _⟩ := List.cons.inj e
      exact ih (by omega) _ _ hd
/-- What digits spell. -/
def valF (a : Nat) (l : List UInt8) : Nat := l.foldl (fun a b => a * 10 + (b.toNat - 48)) a
theorem valF_dec : ∀ u, valF 0 (Lib.decDigits u) = u := by
  refine decDigits_ind (fun u h => ?_) (fun u h ih => ?_)
  · rw [Lib.decDigits_one h]
    simp only [valF, List.foldl_cons, List.foldl_nil, toNat_digit h]
    omega
  · rw [decDigits_step h]
    simp only [valF] at ih ⊢
    rw [List.foldl_append, ih]
    simp only [List.foldl_cons, List.foldl_nil, toNat_digit (Nat.mod_lt u (show 10 > 0 by decide))]
    omega

/-! ### strconv.Atoi -/
theorem parse_append : ∀ (l r : List UInt8) (a b : Nat), Lib.parseUint10 a l = .ok b → Lib.parseUint10 a (l ++ r) = Lib.parseUint10 b r
  | [], r, a, b, h => by
    simp only [Lib.parseUint10] at h
    injection h with h
    subst h
    rfl
  | c :: l, r, a, b, h => by
    simp only [Lib.parseUint10] at h
    rw [List.cons_append]
    simp only [Lib.parseUint10]
    split at h
    · rename_i h1
      rw [if_pos h1]
      split at h
      · cases h
      · rename_i h2
        rw [if_neg h2]
        split at h
        · cases h
        · rename_i h3
          rw [if_neg h3]
          exact parse_append l r _ b h
    · cases h
theorem parse_dec : ∀ u, u < 1844674407370955162 → Lib.parseUint10 0 (Lib.decDigits u) = .ok u := by
  refine decDigits_ind (fun u h hu => ?_) (fun u h ih hu => ?_)
  · rw [Lib.decDigits_one h]
    simp only [Lib.parseUint10, toNat_digit h]
    rw [if_pos (by omega), if_neg (by omega), if_neg (by omega)]
    congr 1
    omega
  · have h10 := toNat_digit (Nat.mod_lt u (show 10 > 0 by decide))
    rw [decDigits_step h, parse_append _ _ _ _ (ih (by omega))]
    simp only [Lib.parseUint10, h10]
    rw [if_pos (by omega), if_neg (by omega), if_neg (by omega)]
    congr 1
    omega
theorem atoi_dec {u : Nat} (h : u < 1844674407370955162) : Lib.atoiAll (Lib.decDigits u) = .ok (u : Int) := by
  have hp := parse_dec u h
  cases hd : Lib.decDigits u with
  | nil => exact absurd hd (decDigits_ne u)
  | cons c r =>
    have hc := dig_iff.1 (decDigits_dig u c (by rw [hd]; simp))
    rw [hd] at hp
    unfold Lib.atoiAll
    simp only
    rw [if_neg (by omega)]
    unfold Lib.parseMag
    rw [if_neg (by simp), hp]
    simp only
    have h45 : ¬ c.toNat = 45 := by omega
    rw [if_neg (by omega), if_neg (by simp [h45]), if_neg h45]

/-! ### the fields of a text -/
def sepB (b : UInt8) : Bool := isSep b.toNat
theorem sepB_dig (b : UInt8) : sepB b = !dig b := by
  simp only [sepB, isSep, dig]
  by_cases h1 : b.toNat < 48 <;> by_cases h2 : 57 < b.toNat <;> simp [h1, h2] <;> omega
def flds : Option (List UInt8) → List UInt8 → List (List UInt8)
  | none, [] => []
  | some c, [] => [c]
  | none, b :: l => if sepB b = true then flds none l else flds (some [b]) l
  | some c, b :: l => if sepB b = true then c :: flds none l else flds (some (c ++ [b])) l
theorem flds_sep : ∀ {a : List UInt8} (l : List UInt8), (∀ b ∈ a, dig b = false) → flds none (a ++ l) = flds none l
  | [], _, _ => rfl
  | x :: a, l, h => by
    rw [List.cons_append]
    simp only [flds]
    rw [if_pos (by rw [sepB_dig, h x (by simp)]; rfl)]
    exact flds_sep l fun b hb => h b (by simp [hb])
theorem flds_cur : ∀ {w : List UInt8} (c l : List UInt8), (∀ b ∈ w, dig b = true) → flds (some c) (w ++ l) = flds (some (c ++ w)) l
  | [], c, l, _ => by simp
  | x :: w, c, l, h => by
    rw [List.cons_append]
    simp only [flds]
    rw [if_neg (by rw [sepB_dig, h x (by simp)]; simp), flds_cur (c ++ [x]) l fun b hb => h b (by simp [hb])]
    simp
theorem flds_word {w : List UInt8} (hn : w ≠ []) (h : ∀ b ∈ w, dig b = true) {x : UInt8} (hx : dig x = false) (l : List UInt8) : flds none (w ++ x :: l) = w :: flds none l := by
  cases w with
  | nil => exact absurd rfl hn
  | cons y w =>
    rw [List.cons_append]
    simp only [flds]
    rw [if_neg (by rw [sepB_dig, h y (by simp)]; simp), flds_cur [y] _ fun b hb => h b (by simp [hb])]
    simp only [flds]
    rw [if_pos (by rw [sepB_dig, hx]; rfl)]
    rfl
theorem flds_last {w : List UInt8} (hn : w ≠ []) (h : ∀ b ∈ w, dig b = true) : flds none w = [w] := by
  cases w with
  | nil => exact absurd rfl hn
  | cons y w =>
    simp only [flds]
    rw [if_neg (by rw [sepB_dig, h y (by simp)]; simp)]
    have := flds_cur (w := w) [y] [] fun b hb => h b (by simp [hb])
    rw [List.append_nil] at this
    rw [this]
    rfl

theorem fields_spans (s : ByteArray) (hs : ∀ b ∈ chars s, b.toNat < 128) : ∀ (f pos : Nat) (st : Option Nat) (acc : List (Nat × Nat)), s.size ≤ pos + f → pos ≤ s.size → (∀ a, st = some a → a < pos) →
    (Lib.closeSpans s (Lib.spansFromP isSep s f pos st acc)).map (fun x => chars (s.extract x.1 x.2)) = acc.map (fun x => chars (s.extract x.1 x.2)) ++ flds (st.map fun a => ((chars s).take pos).drop a) ((chars s).drop pos) := by
  intro f
  induction f with
  | zero =>
    intro pos st acc h1 h2 h3
    have hp : pos = s.size := by omega
    have hd : (chars s).drop pos = [] := List.drop_eq_nil_of_le (by rw [← size_list]; omega)
    rw [hd]
    cases st with
    | none => simp [Lib.spansFromP, Lib.closeSpans, flds]
    | some a => simp only [Lib.spansFromP, Lib.closeSpans, flds, Option.map_some, List.map_append, List.map_cons, List.map_nil, chars_extract, hp]
  | succ f ih =>
    intro pos st acc h1 h2 h3
    by_cases hp : pos < s.size
    case neg =>
      have hpe : pos = s.size := by omega
      have hd : (chars s).drop pos = [] := List.drop_eq_nil_of_le (by rw [← size_list]; omega)
      rw [hd, Lib.spansFromP_end _ _ _ _ _ _ hp]
      cases st with
      | none => simp [Lib.closeSpans, flds]
      | some a => simp only [Lib.closeSpans, flds, Option.map_some, List.map_append, List.map_cons, List.map_nil, chars_extract, hpe]
    have hl : pos < (chars s).length := by rw [← size_list]; exact hp
    have hb : (chars s)[pos].toNat < 128 := hs _ (List.getElem_mem hl)
    have hdec : Utf8.decode s pos = ((chars s)[pos].toNat, 1) := decode_ascii s pos hp hb
    have hcons : (chars s).drop pos = (chars s)[pos] :: (chars s).drop (pos + 1) := List.drop_eq_getElem_cons hl
    have htk : (chars s).take (pos + 1) = (chars s).take pos ++ [(chars s)[pos]] := List.take_succ_eq_append_getElem hl
    rw [hcons]
    unfold Lib.spansFromP
    rw [if_pos hp, hdec]
    simp only
    by_cases hsep : isSep (chars s)[pos].toNat = true
    · rw [if_pos hsep]
      cases st with
      | none =>
        simp only [Option.map_none, flds]
        rw [if_pos (show sepB _ = true from hsep)]
        exact ih (pos + 1) none acc (by omega) (by omega) (by simp)
      | some a =>
        simp only [Option.map_some, flds]
        rw [if_pos (show sepB _ = true from hsep), ih (pos + 1) none (acc ++ [(a, pos)]) (by omega) (by omega) (by simp)]
        simp only [List.map_append, List.map_cons, List.map_nil, List.append_assoc, chars_extract, Option.map_none, List.cons_append, List.nil_append]
    · rw [if_neg hsep]
      cases st with
      | none =>
        simp only [Option.map_none, flds]
        rw [if_neg (show ¬ sepB _ = true from hsep), ih (pos + 1) (some pos) acc (by omega) (by omega) (by intro a ha; cases ha; omega)]
        simp only [Option.map_some]
        rw [htk, List.drop_append_of_le_length (by rw [List.length_take]; omega), List.drop_eq_nil_of_le (by rw [List.length_take]; omega)]
        rfl
      | some a =>
        have ha := h3 a rfl
        simp only [Option.map_some, flds]
        rw [if_neg (show ¬ sepB _ = true from hsep), ih (pos + 1) (some a) acc (by omega) (by omega) (by intro a' ha'; cases ha'; omega)]
        simp only [Option.map_some]
        rw [htk, List.drop_append_of_le_length (by rw [List.length_take]; omega)]
theorem fields_ascii (s : ByteArray) (hs : ∀ b ∈ chars s, b.toNat < 128) : (Lib.goFieldsP isSep s).map chars = flds none (chars s) := by
  have := fields_spans s hs s.size 0 none [] (by omega) (Nat.zero_le _) (by simp)
  simpa [Lib.goFieldsP, Lib.spansOfP, List.map_map, Function.comp_def] using this

/-! ### numbersIn -/
/-- The numbers that words spell; none, if one is no number. -/
def numsG : List ByteArray → List Int → List Int
  | [], acc => acc
  | w :: l, acc => match Lib.atoiAll (chars w) with
    | .ok v => numsG l (acc ++ [v])
    | _ => []
def numsT (s : ByteArray) : List Int := numsG (Lib.goFieldsP isSep s) []
abbrev ints (l : List Int) : D := .arr 1 (l.map I)
theorem spans_length (p : Nat → Bool) (s : ByteArray) : ∀ (f pos : Nat) (st : Option Nat) (acc : List (Nat × Nat)), (Lib.spansFromP p s f pos st acc).1.length ≤ acc.length + f
  | 0, pos, st, acc => by simp [Lib.spansFromP]
  | f + 1, pos, st, acc => by
    unfold Lib.spansFromP
    by_cases hp : pos < s.size
    case neg =>
      rw [if_neg hp]
      exact Nat.le_add_right _ _
    rw [if_pos hp]
    by_cases hq : p (Utf8.decode s pos).1 = true
    · rw [if_pos hq]
      cases st with
      | none => exact Nat.le_trans (spans_length p s f _ none acc) (by omega)
      | some a =>
        have h := spans_length p s f (pos + (Utf8.decode s pos).2) none (acc ++ [(a, pos)])
        rw [List.length_append, List.length_singleton] at h
        exact Nat.le_trans h (by omega)
    · rw [if_neg hq]
      cases st with
      | none => exact Nat.le_trans (spans_length p s f _ _ acc) (by omega)
      | some a => exact Nat.le_trans (spans_length p s f _ _ acc) (by omega)
theorem fields_length (p : Nat → Bool) (s : ByteArray) : (Lib.goFieldsP p s).length ≤ s.size + 1 := by
  unfold Lib.goFieldsP Lib.spansOfP
  rw [List.length_map]
  have := spans_length p s s.size 0 none []
  unfold Lib.closeSpans
  split
  · simp only [List.length_append, List.length_cons, List.length_nil] at this ⊢; omega
  · simp only [List.length_nil] at this; omega
theorem fields_size (p : Nat → Bool) (s : ByteArray) : ∀ w ∈ Lib.goFieldsP p s, w.size ≤ s.size := by
  intro w hw
  unfold Lib.goFieldsP at hw
  obtain ⟨x, _, rfl⟩ := List.mem_map.1 hw
  rw [size_list, chars_extract, List.length_drop, List.length_take, ← size_list]
  omega
theorem e_FieldsFunc (s : ByteArray) (k : Nat) (p : Nat → Bool) (h : s.size ≤ 4294967296) : fFieldsFunc k p [T s, .clo k []] = some (.ret [.arr 1 ((Lib.goFieldsP p s).map T)] []) := by
  simp only [fFieldsFunc, h, and_self, if_true]
theorem one_int (a : Int) : mkArr 1 [I a] = some (ints [a]) := by simp [mkArr, lenOkD]
theorem chkA_ints (l : List Int) : chkA (ints l) = some (ints l) := chkA_map fun _ => rfl
theorem e_Atoi (w : ByteArray) (h : w.size ≤ 4294967296) : fAtoi [T w] = some (match Lib.atoiAll (chars w) with
    | .ok v => Out.ret [I v, .v .nilIface] []
    | .range => Out.ret [I (Lib.atoiSat (chars w)), .ifc] []
    | _ => Out.ret [I 0, .ifc] []) := by
  have h2 : w.size ≤ 281474976710656 := by omega
  simp only [fAtoi, h2, if_true]
  rw [show w.data.toList = chars w from rfl]
  cases Lib.atoiAll (chars w) <;> rfl
theorem e_impl_numbersIn (s : ByteArray) (h : s.size ≤ 1048576) : F_impl_numbersIn [T s] = some (.ret [ints (numsT s)] []) := by
  rw [t_impl_numbersIn]
  have hl := fields_length isSep s
  have hz := fields_size isSep s
  rw [e_FieldsFunc s _ isSep (by omega)]
  simp only [mkArr_nil, Option.bind_some, callK_ret, sl_zero, lenD_arr, List.length_map]
  generalize hw : Lib.goFieldsP isSep s = ws at hl hz
  have hnum : numsT s = numsG ws [] := by rw [numsT, hw]
  rw [hnum]
  refine loop_wf_bind (fun r => r = _) (fun (a : List Int × Nat) => [ints a.1, .arr 1 (ws.map T), I ws.length, I (a.2 : Int)]) (fun a => a.2 ≤ ws.length ∧ a.1.length ≤ a.2 ∧ numsG (ws.drop a.2) a.1 = numsG ws [])
    (fun a => ws.length - a.2) (fun o => o = .ext 0 [ints (numsG ws [])] ∨ o = .ret [ints (numsG ws [])] []) ?_ ([], 0) ⟨Nat.zero_le _, Nat.le_refl _, rfl⟩ rfl ?_
  · rintro ⟨acc, i⟩ ⟨h1, h2, h3⟩
    simp only at h1 h2 h3
    by_cases hi : i < ws.length
    · have hi' : (i : Int) < (ws.length : Int) := by omega
      have hw : IntKind.i64.wrap ((i : Int) + 1) = ((i + 1 : Nat) : Int) := by rw [wrap_id (by omega) (by omega)]; omega
      have hat := e_Atoi ws[i] (by have := hz ws[i] (List.getElem_mem hi); omega)
      have hel : elemD 1 (.arr 1 (ws.map T)) (I (i : Int)) = some [T ws[i]] := by simp [hi]
      rw [List.drop_eq_getElem_cons hi] at h3
      simp only [numsG] at h3
      cases ha : Lib.atoiAll (chars ws[i]) with
      | ok v =>
        rw [ha] at h3 hat
        left
        refine ⟨(acc ++ [v], i + 1), ?_, ⟨by simp only; omega, by simp; omega, h3⟩, by simp only; omega⟩
        have e1 : (acc.map I).length + ([v].map I).length = acc.length + 1 := by simp
        have hap : (acc.length + 1) * 8 ≤ 140737488355328 ∧ acc.length + 1 ≤ 1152921504606846976 := by omega
        simp only [sl_zero, sl_succ, Option.bind_some, bin_lss, hi', decide_true, ifD_B, if_true, hel, Option.map_some, ldD_ptr, takeD_f, chkV_v, hat, callK_ret, show tupAt (.tup [I v, .v .nilIface]) 0 = some (I v) from rfl,
          show tupAt (.tup [I v, .v .nilIface]) 1 = some (.v .nilIface) from rfl, show binI true BinOp.neq (.v .nilIface) (.v .nilIface) = some (B false) from rfl, Bool.false_eq_true, if_false, one_int, chkA_ints, appD_eq, e1, hap, and_self, bin_add, hw]
        rw [← List.map_append]
      | range =>
        rw [ha] at h3 hat
        right
        refine ⟨.ret [ints []] [], ?_, rfl, .inr (by rw [← h3])⟩
        simp only [sl_zero, sl_succ, Option.bind_some, bin_lss, hi', decide_true, ifD_B, if_true, hel, Option.map_some, ldD_ptr, takeD_f, chkV_v, hat, callK_ret, show ∀ n : Int, tupAt (.tup [I n, .ifc]) 0 = some (I n) from fun _ => rfl,
          show ∀ n : Int, tupAt (.tup [I n, .ifc]) 1 = some .ifc from fun _ => rfl, show binI true BinOp.neq .ifc (.v .nilIface) = some (B true) from rfl, mkArr_nil]
        rfl
      | _ =>
        rw [ha] at h3 hat
        right
        refine ⟨.ret [ints []] [], ?_, rfl, .inr (by rw [← h3])⟩
        simp only [sl_zero, sl_succ, Option.bind_some, bin_lss, hi', decide_true, ifD_B, if_true, hel, Option.map_some, ldD_ptr, takeD_f, chkV_v, hat, callK_ret, show tupAt (.tup [I 0, .ifc]) 0 = some (I 0) from rfl,
          show tupAt (.tup [I 0, .ifc]) 1 = some .ifc from rfl, show binI true BinOp.neq .ifc (.v .nilIface) = some (B true) from rfl, mkArr_nil]
        rfl
    · right
      have hi' : ¬ (i : Int) < (ws.length : Int) := by omega
      refine ⟨.ext 0 [ints acc], ?_, rfl, .inl ?_⟩
      · simp only [sl_zero, sl_succ, Option.bind_some, bin_lss, hi', decide_false, ifD_B, Bool.false_eq_true, if_false]
      · rw [List.drop_eq_nil_of_le (by omega)] at h3
        rw [← h3]
        rfl
  · rintro o (rfl | rfl)
    · simp only [outK_ext, Nat.beq_refl, ifN_B, if_true, sl_zero]
    · rfl
end Go.Proofs.YtfjkapnonljdeaaGreatDoor
/-
  Orders read out of texts.
-/
namespace Go.Proofs.YtfjkapnonljdeaaGreatDoor
open Go Go.V
set_option linter.unusedSimpArgs false

/-! ### l1Read -/
def readL (l : List UInt8) : Int :=
  if (1 ≤ l.length ∧ l.length ≤ 6) ∧ ¬ (l.head? = some 48 ∧ 1 < l.length) ∧ l.all dig = true then (valF 0 l : Int) else -1
def readT (s : ByteArray) : Int := readL (chars s)
theorem valF_snoc (l : List UInt8) (x : UInt8) (a : Nat) : valF a (l ++ [x]) = valF a l * 10 + (x.toNat - 48) := by simp [valF, List.foldl_append]
theorem valF_lt : ∀ (n : Nat) (l : List UInt8), l.length = n → (∀ b ∈ l, dig b = true) → valF 0 l < 10 ^ n := by
  intro n
  induction n with
  | zero =>
    intro l hl _
    rw [List.eq_nil_of_length_eq_zero hl]
    decide
  | succ n ih =>
    intro l hl hd
    have hne : l ≠ [] := fun e => by rw [e] at hl; simp at hl
    have hsp := List.dropLast_concat_getLast hne
    have h1 := ih l.dropLast (by rw [List.length_dropLast]; omega) fun b hb => hd b ((List.dropLast_sublist l).subset hb)
    have h2 := dig_iff.1 (hd _ (List.getLast_mem hne))
    rw [← hsp, valF_snoc, Nat.pow_succ]
    omega
theorem e_spec_l1Read (s : ByteArray) (h : s.size ≤ 4294967296) : F_spec_l1Read [T s] = some (.ret [I (readT s)] []) := by
  rw [t_spec_l1Read]
  have hsz : s.size = (chars s).length := rfl
  by_cases h1 : 1 ≤ (s.size : Int) ∧ (s.size : Int) ≤ 6
  case neg =>
    have hr : readT s = -1 := by
      unfold readT readL
      rw [if_neg (by rintro ⟨⟨g1, g2⟩, _⟩; exact h1 (by omega))]
    rw [hr]
    simp -implicitDefEqProofs [e_spec_l1In, h1]
  have hpos : 0 < (chars s).length := by omega
  have hch0 : charD (T s) (I 0) = some (U ((chars s)[0].toNat : Int)) := by
    have := charD_nat (s := s) (k := .i64) (i := 0)
    rw [List.getElem?_eq_getElem hpos] at this
    exact this
  have hhead : (chars s).head? = some (chars s)[0] := by rw [List.head?_eq_getElem?, List.getElem?_eq_getElem hpos]
  have h48 : (48 : UInt8).toNat = 48 := rfl
  have hc48 : ((chars s)[0].toNat : Int) = 48 ↔ (chars s)[0] = 48 := ⟨fun e => UInt8.toNat_inj.1 (by omega), fun e => by rw [e]; rfl⟩
  by_cases h2 : (chars s)[0] = 48 ∧ 1 < (chars s).length
  · have hr : readT s = -1 := by
      unfold readT readL
      rw [if_neg (by rintro ⟨_, g, _⟩; exact g ⟨by rw [hhead, h2.1], h2.2⟩)]
    have hl : (1 : Int) < (s.size : Int) := by omega
    have hc := hc48.2 h2.1
    rw [hr]
    simp -implicitDefEqProofs [e_spec_l1In, h1, hch0, hc, hl]
  have hgo : ∀ (K : D → Option Out), ((bin BinOp.eql false [] (U ((chars s)[0].toNat : Int)) (D.v (Value.int IntKind.u8 48))).bind fun z_3 => (gate (D.tup []) (B false) false (some z_3)).bind fun z_4 => (gate (D.tup []) z_4 true (some (T s))).bind fun z_5 =>
      (gate (D.tup []) z_4 true (lenD true z_5)).bind fun z_6 => (gate (D.tup []) z_4 true (bin BinOp.gtr false [] z_6 (D.v (Value.int IntKind.i64 1)))).bind fun z_7 => (gate (D.tup []) (B false) false (pickD z_4 z_7 (D.v (Value.bool false)))).bind K) = K (B false) := by
    intro K
    by_cases e : ((chars s)[0].toNat : Int) = 48
    · have : ¬ (1 : Int) < (s.size : Int) := fun hl => h2 ⟨hc48.1 e, by omega⟩
      simp -implicitDefEqProofs [e, this]
    · simp -implicitDefEqProofs [e]
  simp only [lenD_str, Option.bind_some, e_spec_l1In, h1, and_self, decide_true, callK_ret, sl_zero, un_not, Bool.not_true, gate_f, Bool.false_eq_true, if_false, hch0]
  have hgo' := hgo
  simp only [gate_f, Bool.false_eq_true, if_false, Option.bind_some] at hgo'
  rw [hgo']
  simp only [pickD_B, Bool.false_eq_true, if_false, Option.bind_some, ifD_B]
  refine loop_wf_bind (fun r => r = _) (fun (a : Nat × Nat) => [T s, I (a.1 : Int), I (a.2 : Int)]) (fun a => a.2 ≤ s.size ∧ a.1 = valF 0 ((chars s).take a.2) ∧ ∀ b ∈ (chars s).take a.2, dig b = true) (fun a => s.size - a.2)
    (fun o => o = if (chars s).all dig = true then .ext 0 [I (valF 0 (chars s) : Int)] else .ret [I (-1)] []) ?_ (0, 0) ⟨Nat.zero_le _, rfl, by simp⟩ rfl ?_
  · rintro ⟨n, i⟩ ⟨g1, g2, g3⟩
    simp only at g1 g2 g3
    by_cases hi : i < s.size
    · have hl : i < (chars s).length := by rw [← hsz]; exact hi
      have hi' : (i : Int) < (s.size : Int) := by omega
      have hch : charD (T s) (I (i : Int)) = some (U ((chars s)[i].toNat : Int)) := by
        rw [charD_nat, List.getElem?_eq_getElem hl]
        rfl
      have htk : (chars s).take (i + 1) = (chars s).take i ++ [(chars s)[i]] := List.take_succ_eq_append_getElem hl
      by_cases hd : dig (chars s)[i] = true
      · left
        have hd' := dig_iff.1 hd
        have hn : n < 10 ^ i := by
          rw [g2]
          exact valF_lt i _ (by rw [List.length_take]; omega) g3
        have h10 : 10 ^ i ≤ 10 ^ 6 := Nat.pow_le_pow_right (by decide) (by omega)
        have hw : IntKind.i64.wrap ((i : Int) + 1) = ((i + 1 : Nat) : Int) := by rw [wrap_id (by omega) (by omega)]; omega
        have hw1 : IntKind.i64.wrap (10 * (n : Int)) = 10 * (n : Int) := wrap_id (by omega) (by omega)
        have hw2 : IntKind.u8.wrap (((chars s)[i].toNat : Int) - 48) = ((chars s)[i].toNat : Int) - 48 := wrap8 _ (by omega) (by omega)
        have hw3 : IntKind.i64.wrap (((chars s)[i].toNat : Int) - 48) = ((chars s)[i].toNat : Int) - 48 := wrap_id (by omega) (by omega)
        have hw4 : IntKind.i64.wrap (10 * (n : Int) + (((chars s)[i].toNat : Int) - 48)) = ((n * 10 + ((chars s)[i].toNat - 48) : Nat) : Int) := by rw [wrap_id (by omega) (by omega)]; omega
        have c1 : ¬ ((chars s)[i].toNat : Int) < 48 := by omega
        have c2 : ¬ (57 : Int) < ((chars s)[i].toNat : Int) := by omega
        refine ⟨(n * 10 + ((chars s)[i].toNat - 48), i + 1), ?_, ⟨by simp only; omega, ?_, ?_⟩, by simp only; omega⟩
        · simp only [sl_zero, sl_succ, lenD_str, Option.bind_some, bin_lss, hi', decide_true, ifD_B, if_true, hch, c1, decide_false, gate_f, Bool.false_eq_true, if_false, bin_gtr, c2, pickD_B, bin_mul, hw1, bin_sub, hw2, convD, hw3, bin_add, hw4, hw]
        · simp only
          rw [htk, valF_snoc, g2]
        · simp only
          rw [htk]
          intro b hb
          rcases List.mem_append.1 hb with hb | hb
          · exact g3 b hb
          · rw [List.mem_singleton.1 hb]; exact hd
      · right
        refine ⟨.ret [I (-1)] [], ?_, rfl, ?_⟩
        · by_cases c1 : ((chars s)[i].toNat : Int) < 48
          · simp -implicitDefEqProofs [hi', hch, c1]
          · have c2 : (57 : Int) < ((chars s)[i].toNat : Int) := by
              have : ¬ (48 ≤ (chars s)[i].toNat ∧ (chars s)[i].toNat ≤ 57) := fun e => hd (dig_iff.2 e)
              omega
            simp -implicitDefEqProofs [hi', hch, c1, c2]
        · rw [if_neg]
          intro hall
          exact hd (List.all_eq_true.1 hall _ (List.getElem_mem hl))
    · right
      have hi' : ¬ (i : Int) < (s.size : Int) := by omega
      have hie : (chars s).take i = chars s := List.take_of_length_le (by omega)
      rw [hie] at g2 g3
      refine ⟨.ext 0 [I (n : Int)], ?_, rfl, ?_⟩
      · simp -implicitDefEqProofs [hi']
      · rw [if_pos (List.all_eq_true.2 g3), g2]
  · rintro o rfl
    by_cases ha : (chars s).all dig = true
    · have hr : readT s = (valF 0 (chars s) : Int) := by
        unfold readT readL
        rw [if_pos ⟨⟨by omega, by omega⟩, fun g => h2 ⟨by have := g.1; rw [hhead] at this; exact Option.some.inj this, g.2⟩, ha⟩]
      rw [if_pos ha, hr]
      rfl
    · have hr : readT s = -1 := by
        unfold readT readL
        rw [if_neg (fun g => ha g.2.2)]
      rw [if_neg ha, hr]
      rfl
theorem decDigits_len {u : Nat} (h : u < 1000000) : (Lib.decDigits u).length ≤ 6 := numT_size 5 u (by omega)
theorem readL_dec {u : Nat} (h : u < 1000000) : readL (Lib.decDigits u) = (u : Int) := by
  have h1 := decDigits_ne u
  have h2 := decDigits_len h
  have h3 : 1 ≤ (Lib.decDigits u).length := List.length_pos_iff.2 h1
  have hno : ¬ ((Lib.decDigits u).head? = some 48 ∧ 1 < (Lib.decDigits u).length) := by
    rintro ⟨g1, g2⟩
    by_cases hu : 0 < u
    · cases hd : Lib.decDigits u with
      | nil => exact h1 hd
      | cons b t =>
        rw [hd] at g1
        exact decDigits_head u hu b t hd (by simpa using g1)
    · have : u = 0 := by omega
      subst this
      rw [Lib.decDigits_one (by decide)] at g2
      simp at g2
  unfold readL
  rw [if_pos ⟨⟨h3, h2⟩, hno, List.all_eq_true.2 (decDigits_dig u)⟩, valF_dec]
theorem chars_intT (n : Int) (h : 0 ≤ n) : chars (intT n) = Lib.decDigits n.toNat := by
  obtain ⟨u, rfl⟩ := Int.eq_ofNat_of_zero_le h
  rw [intT_nat]
  exact chars_mk _
theorem readT_int {n : Int} (h0 : 0 ≤ n) (h1 : n < 1000000) : readT (intT n) = n := by
  unfold readT
  rw [chars_intT n h0, readL_dec (by omega)]
  omega
theorem atoi_int {n : Int} (h0 : 0 ≤ n) (h1 : n < 1000000) : Lib.atoiAll (chars (intT n)) = .ok n := by
  rw [chars_intT n h0, atoi_dec (by omega)]
  congr 1
  omega
theorem dig_int {n : Int} (h0 : 0 ≤ n) : chars (intT n) ≠ [] ∧ ∀ b ∈ chars (intT n), dig b = true := by
  rw [chars_intT n h0]
  exact ⟨decDigits_ne _, decDigits_dig _⟩
theorem dig_lt {b : UInt8} (h : dig b = true) : b.toNat < 128 := by
  have := dig_iff.1 h
  omega
/-- The numbers of a text whose fields are numerals. -/
theorem numsT_of {s : ByteArray} (hs : ∀ b ∈ chars s, b.toNat < 128) {ns : List Int} (hn : ∀ n ∈ ns, 0 ≤ n ∧ n < 1000000) (h : flds none (chars s) = ns.map fun n => chars (intT n)) : numsT s = ns := by
  unfold numsT
  have hf := fields_ascii s hs
  rw [h] at hf
  have key : ∀ (ws : List ByteArray) (ns : List Int) (acc : List Int), (∀ n ∈ ns, 0 ≤ n ∧ n < 1000000) → ws.map chars = ns.map (fun n => chars (intT n)) → numsG ws acc = acc ++ ns := by
    intro ws
    induction ws with
    | nil =>
      intro ns acc _ e
      cases ns with
      | nil => simp [numsG]
      | cons _ _ => simp at e
    | cons w ws ih =>
      intro ns acc hn e
      cases ns with
      | nil => simp at e
      | cons n ns =>
        rw [List.map_cons, List.map_cons, List.cons.injEq] at e
        have hr := hn n (by simp)
        simp only [numsG]
        rw [e.1, atoi_int hr.1 hr.2]
        simp only
        rw [ih ns (acc ++ [n]) (fun m hm => hn m (by simp [hm])) e.2]
        simp
  simpa using key _ ns [] hn hf

/-! ### orders -/
theorem not_dig {b : UInt8} {l : List UInt8} (h : ∀ x ∈ l, dig x = true) (hb : dig b = false) : b ∉ l := fun hm => by rw [h b hm] at hb; cases hb
theorem splitT_size (c : UInt8) (s : ByteArray) : ∀ w ∈ splitT c s, w.size ≤ s.size := by
  intro w hw
  unfold splitT at hw
  obtain ⟨l, hl, rfl⟩ := List.mem_map.1 hw
  have key : ∀ (m : List UInt8), ∀ l ∈ splitL c m, l.length ≤ m.length := by
    intro m
    induction m with
    | nil => intro l hl; simp [splitL] at hl; simp [hl]
    | cons x m ih =>
      intro l hl
      simp only [splitL] at hl
      split at hl
      · rcases List.mem_cons.1 hl with rfl | hl
        · simp
        · have := ih l hl
          simp; omega
      · generalize hs : splitL c m = t at hl ih
        cases t with
        | nil => exact absurd hs (splitL_ne c m)
        | cons y t =>
          simp only [consH] at hl
          rcases List.mem_cons.1 hl with rfl | hl
          · have := ih y (by simp)
            simp; omega
          · have := ih l (by simp [hl])
            simp; omega
  have := key _ l hl
  rw [size_list, chars_mk]
  exact this
theorem splitT_length (c : UInt8) (s : ByteArray) : (splitT c s).length = (splitL c (chars s)).length := by simp [splitT]
end Go.Proofs.YtfjkapnonljdeaaGreatDoor
/-
  What the functions of notes compute: said plainly.
-/
namespace Go.Proofs.YtfjkapnonljdeaaGreatDoor
open Go Go.V
set_option linter.unusedSimpArgs false

abbrev Nt := Int × Int × Int
abbrev nt (x : Nt) : D := .agg [I x.1, I x.2.1, I x.2.2]
abbrev nts (l : List Nt) : D := .arr 3 (l.map nt)

def isNt (x : Nt) : Bool := decide (0 ≤ x.1 ∧ x.1 ≤ 9999) && decide (0 ≤ x.2.1 ∧ x.2.1 ≤ 3) && decide (1 ≤ x.2.2 ∧ x.2.2 ≤ 99999)
theorem e_spec_joNote (x : Nt) : F_spec_joNote [nt x] = some (.ret [B (isNt x)] []) := by
  rw [t_spec_joNote]
  by_cases h1 : 0 ≤ x.1 ∧ x.1 ≤ 9999 <;> by_cases h2 : 0 ≤ x.2.1 ∧ x.2.1 ≤ 3 <;> simp [e_spec_l1In, isNt, h1, h2]
theorem e_impl_isNoteDay (a : Int) : F_impl_isNoteDay [I a] = some (.ret [B (decide (0 ≤ a ∧ a ≤ 9999))] []) := by
  rw [t_impl_isNoteDay]
  simp [e_impl_within]
theorem e_impl_isNote (x : Nt) : F_impl_isNote [nt x] = some (.ret [B (isNt x)] []) := by
  rw [t_impl_isNote]
  by_cases h1 : 0 ≤ x.1 ∧ x.1 ≤ 9999 <;> by_cases h2 : 0 ≤ x.2.1 ∧ x.2.1 ≤ 3 <;> simp [e_impl_within, e_impl_isNoteDay, isNt, h1, h2]

/-- Are a list notes? -/
def pNt (l : List Nt) (i : Nat) (x : Nt) : Bool := isNt x && !(decide (0 < i) && decide (x.1 < (l.getD (i - 1) (0, 0, 0)).1))
def goodN (l : List Nt) : Bool := allI (pNt l) 0 l && decide (l.length ≤ 24)

theorem e_spec_joGood (l : List Nt) (h : l.length ≤ 1048576) : F_spec_joGood [nts l] = some (.ret [B (goodN l)] []) := by
  rw [t_spec_joGood]
  simp only [lenD_arr, List.length_map, Option.bind_some]
  refine loop_bind _ (loop_all l (fun i => [nts l, nts l, I l.length, I i]) (pNt l) (.ret [B false] []) (.ext 0 [nts l]) (fun i hi => ?_) ?_ rfl rfl rfl) ?_
  · have hw : IntKind.i64.wrap ((i : Int) + 1) = (i : Int) + 1 := wrap_id (by omega) (by omega)
    cases h1 : isNt l[i]
    · simp [hi, e_spec_joNote, h1, pNt]
    · by_cases h0 : 0 < i
      · have hw2 : IntKind.i64.wrap ((i : Int) - 1) = ((i - 1 : Nat) : Int) := by rw [wrap_id (by omega) (by omega)]; omega
        have hy : i - 1 < l.length := by omega
        by_cases h2 : l[i].1 < l[i - 1].1 <;> simp [hi, hy, e_spec_joNote, h1, pNt, hw, hw2, h0, h2]
      · simp [hi, e_spec_joNote, h1, pNt, hw, h0]
  · simp
  · by_cases hg : allI (pNt l) 0 l = true <;> simp [hg, goodN]
    omega

theorem e_impl_AreNotes (l : List Nt) (h : l.length ≤ 1048576) : F_impl_AreNotes [nts l] = some (.ret [B (goodN l)] []) := by
  rw [t_impl_AreNotes]
  simp only [lenD_arr, List.length_map, Option.bind_some]
  refine loop_bind _ (loop_all l (fun i => [nts l, nts l, I l.length, I i]) (pNt l) (.ret [B false] []) (.ext 0 [nts l]) (fun i hi => ?_) ?_ rfl rfl rfl) ?_
  · have hw : IntKind.i64.wrap ((i : Int) + 1) = (i : Int) + 1 := wrap_id (by omega) (by omega)
    cases h1 : isNt l[i]
    · simp [hi, e_impl_isNote, h1, pNt]
    · by_cases h0 : 0 < i
      · have hw2 : IntKind.i64.wrap ((i : Int) - 1) = ((i - 1 : Nat) : Int) := by rw [wrap_id (by omega) (by omega)]; omega
        have hy : i - 1 < l.length := by omega
        by_cases h2 : l[i].1 < l[i - 1].1 <;> simp [hi, hy, e_impl_isNote, h1, pNt, hw, hw2, h0, h2]
      · simp [hi, e_impl_isNote, h1, pNt, hw, h0]
  · simp
  · by_cases hg : allI (pNt l) 0 l = true <;> simp [hg, goodN]
    omega

end Go.Proofs.YtfjkapnonljdeaaGreatDoor
/-
  Lines of a journal.
-/
namespace Go.Proofs.YtfjkapnonljdeaaGreatDoor
open Go Go.V
set_option linter.unusedSimpArgs false

theorem isNt_iff {x : Nt} : isNt x = true ↔ (0 ≤ x.1 ∧ x.1 ≤ 9999) ∧ (0 ≤ x.2.1 ∧ x.2.1 ≤ 3) ∧ (1 ≤ x.2.2 ∧ x.2.2 ≤ 99999) := by
  simp only [isNt, Bool.and_eq_true, decide_eq_true_eq, and_assoc]
/-- The check of a note behind a check. -/
def ckN (b : Int) (x : Nt) : Int := (31 * b + 17 * x.1 + 5 * x.2.1 + x.2.2) % 9973
theorem ckN_range (b : Int) (x : Nt) : 0 ≤ ckN b x ∧ ckN b x ≤ 9972 := by
  unfold ckN
  omega
theorem ck_steps {b : Int} {x : Nt} (hb : 0 ≤ b ∧ b ≤ 9972) (hx : isNt x = true) : IntKind.i64.wrap (31 * b) = 31 * b ∧ IntKind.i64.wrap (17 * x.1) = 17 * x.1 ∧ IntKind.i64.wrap (31 * b + 17 * x.1) = 31 * b + 17 * x.1 ∧
    IntKind.i64.wrap (5 * x.2.1) = 5 * x.2.1 ∧ IntKind.i64.wrap (31 * b + 17 * x.1 + 5 * x.2.1) = 31 * b + 17 * x.1 + 5 * x.2.1 ∧ IntKind.i64.wrap (31 * b + 17 * x.1 + 5 * x.2.1 + x.2.2) = 31 * b + 17 * x.1 + 5 * x.2.1 + x.2.2 ∧
    (31 * b + 17 * x.1 + 5 * x.2.1 + x.2.2).tmod 9973 = ckN b x := by
  obtain ⟨h1, h2, h3⟩ := isNt_iff.1 hx
  refine ⟨wrap_id (by omega) (by omega), wrap_id (by omega) (by omega), wrap_id (by omega) (by omega), wrap_id (by omega) (by omega), wrap_id (by omega) (by omega), wrap_id (by omega) (by omega), ?_⟩
  rw [Int.tmod_eq_emod_of_nonneg (by omega)]
  rfl
theorem e_impl_check {b : Int} {x : Nt} (hb : 0 ≤ b ∧ b ≤ 9972) (hx : isNt x = true) : F_impl_check [I b, nt x] = some (.ret [I (ckN b x)] []) := by
  rw [t_impl_check]
  obtain ⟨h1, h2, h3, h4, h5, h6, h7⟩ := ck_steps hb hx
  simp -implicitDefEqProofs [h1, h2, h3, h4, h5, h6, h7]
theorem e_spec_joCheck {b : Int} {x : Nt} (hb : 0 ≤ b ∧ b ≤ 9972) (hx : isNt x = true) : F_spec_joCheck [I b, nt x] = some (.ret [I (ckN b x)] []) := by
  rw [t_spec_joCheck]
  obtain ⟨h1, h2, h3, h4, h5, h6, h7⟩ := ck_steps hb hx
  simp -implicitDefEqProofs [h1, h2, h3, h4, h5, h6, h7]

/-- The line of a note with a check. -/
def lnT (x : Nt) (c : Int) : ByteArray := intT x.1 ++ ⟨#[32]⟩ ++ intT x.2.1 ++ ⟨#[32]⟩ ++ intT x.2.2 ++ ⟨#[32]⟩ ++ intT c ++ ⟨#[10]⟩
theorem e_spec_joLine {x : Nt} {c : Int} (hx : isNt x = true) (hc : 0 ≤ c ∧ c ≤ 9972) : F_spec_joLine [nt x, I c] = some (.ret [T (lnT x c)] []) := by
  rw [t_spec_joLine]
  obtain ⟨h1, h2, h3⟩ := isNt_iff.1 hx
  have s1 := intT_size 9 (n := x.1) (by omega) (by omega)
  have s2 := intT_size 9 (n := x.2.1) (by omega) (by omega)
  have s3 := intT_size 9 (n := x.2.2) (by omega) (by omega)
  have s4 := intT_size 9 (n := c) (by omega) (by omega)
  have n1 := e_spec_l1Num (n := x.1) (by omega) (by omega)
  have n2 := e_spec_l1Num (n := x.2.1) (by omega) (by omega)
  have n3 := e_spec_l1Num (n := x.2.2) (by omega) (by omega)
  have n4 := e_spec_l1Num (n := c) (by omega) (by omega)
  simp -implicitDefEqProofs (disch := (first | assumption | (simp only [ByteArray.size_append, sz1]; omega))) [n1, n2, n3, n4, addS, -bin_addS, lnT]

/-- Numbers with a separator between them. -/
theorem e_impl_join (l : List Int) (sep : ByteArray) (hl : l.length ≤ 1048576) (hr : ∀ n ∈ l, -9223372036854775808 ≤ n ∧ n ≤ 9223372036854775807) (hz : (joinOf (l.map intT) sep).size ≤ 140737488355328) : F_impl_join [ints l, T sep] = some (.ret [T (joinOf (l.map intT) sep)] []) := by
  rw [t_impl_join]
  simp only [mkArr_nil, Option.bind_some, lenD_arr, List.length_map]
  refine loop_bind _ (loop_for l.length (fun i => [T sep, .arr 1 (((l.take i).map intT).map T), ints l, I l.length, I (i : Int)]) (.ext 0 [T sep, .arr 1 ((l.map intT).map T)]) (fun i hi => ?_) ?_ rfl rfl) ?_
  · have hi' : (i : Int) < (l.length : Int) := by omega
    have hw : IntKind.i64.wrap ((i : Int) + 1) = ((i + 1 : Nat) : Int) := by rw [wrap_id (by omega) (by omega)]; omega
    have hel : elemD 1 (ints l) (I (i : Int)) = some [I l[i]] := by simp [hi]
    have hr' := hr l[i] (List.getElem_mem hi)
    have hIt := e_Itoa hr'.1 hr'.2
    have e1 : (((l.take i).map intT).map T).length + [T (intT l[i])].length = i + 1 := by
      simp only [List.length_map, List.length_take, List.length_cons, List.length_nil]
      omega
    have hap : (i + 1) * 16 ≤ 140737488355328 ∧ i + 1 ≤ 1152921504606846976 := by omega
    have hck : chkA (.arr 1 [T (intT l[i])]) = some (.arr 1 [T (intT l[i])]) := chkA_texts [intT l[i]]
    have htk : ((l.take (i + 1)).map intT).map T = ((l.take i).map intT).map T ++ [T (intT l[i])] := by
      rw [List.take_succ_eq_append_getElem hi, List.map_append, List.map_append]
      rfl
    simp only [sl_zero, sl_succ, bin_lss, hi', decide_true, Option.bind_some, ifD_B, if_true, hel, Option.map_some, ldD_ptr, takeD_f, chkV_v, hIt, callK_ret, one_text, hck, appD_eq, e1, hap, and_self, bin_add, hw, htk]
  · have hi' : ¬ (l.length : Int) < (l.length : Int) := by omega
    simp only [sl_zero, sl_succ, bin_lss, hi', decide_false, Option.bind_some, ifD_B, Bool.false_eq_true, if_false, List.take_length]
  · have hj : fJoin [.arr 1 ((l.map intT).map T), T sep] = some (.ret [T (joinOf (l.map intT) sep)] []) := by
      simp only [fJoin, textsOf_T, Option.bind_some, List.length_map]
      rw [if_pos ⟨by omega, hz⟩]
    simp only [outK_ext, Nat.beq_refl, ifN_B, if_true, sl_zero, sl_succ, liveD_arr, liveD_ref, Option.bind_some, hj, callK_ret]
theorem callK_of {r : Option Out} {rs us : List D} {k : List D → List D → Option Out} {o : Option Out} (h : r = some (.ret rs us)) (hk : k rs us = o) : callK r k = o := by rw [h]; exact hk
theorem join4 (a b c d : ByteArray) (s : ByteArray) : joinOf [a, b, c, d] s = a ++ s ++ b ++ s ++ c ++ s ++ d := by
  apply chars_inj
  simp only [chars_append]
  unfold joinOf
  rw [chars_mk]
  simp [Lib.join, List.intercalate, List.intersperse, chars]
theorem e_impl_noteLine {x : Nt} {c : Int} (hx : isNt x = true) (hc : 0 ≤ c ∧ c ≤ 9972) : F_impl_noteLine [nt x, I c] = some (.ret [T (lnT x c)] []) := by
  rw [t_impl_noteLine]
  obtain ⟨h1, h2, h3⟩ := isNt_iff.1 hx
  have s1 := intT_size 9 (n := x.1) (by omega) (by omega)
  have s2 := intT_size 9 (n := x.2.1) (by omega) (by omega)
  have s3 := intT_size 9 (n := x.2.2) (by omega) (by omega)
  have s4 := intT_size 9 (n := c) (by omega) (by omega)
  have hj4 : joinOf ([x.1, x.2.1, x.2.2, c].map intT) ⟨#[32]⟩ = intT x.1 ++ ⟨#[32]⟩ ++ intT x.2.1 ++ ⟨#[32]⟩ ++ intT x.2.2 ++ ⟨#[32]⟩ ++ intT c := join4 _ _ _ _ _
  have hjz : (joinOf ([x.1, x.2.1, x.2.2, c].map intT) ⟨#[32]⟩).size ≤ 100 := by
    rw [hj4]
    simp only [ByteArray.size_append, sz1]
    omega
  have hj := e_impl_join [x.1, x.2.1, x.2.2, c] ⟨#[32]⟩ (by simp) (by simp; omega) (by omega)
  rw [hj4] at hj
  have hm : mkArr 1 [I x.1, I x.2.1, I x.2.2, I c] = some (ints [x.1, x.2.1, x.2.2, c]) := by simp [mkArr, lenOkD]
  simp -implicitDefEqProofs [hm]
  refine callK_of (hj : F_impl_join [ints [x.1, x.2.1, x.2.2, c], T ⟨#[32]⟩] = _) ?_
  simp -implicitDefEqProofs (disch := (first | assumption | (simp only [ByteArray.size_append, sz1]; omega))) [addS, -bin_addS, lnT]

/-! ### lines read -/
theorem chars_lnT (x : Nt) (c : Int) : chars (lnT x c) = (chars (intT x.1) ++ 32 :: (chars (intT x.2.1) ++ 32 :: (chars (intT x.2.2) ++ 32 :: chars (intT c)))) ++ [10] := by
  simp only [lnT, chars_append, List.append_assoc, List.cons_append, show chars ⟨#[32]⟩ = [32] from rfl, show chars ⟨#[10]⟩ = [10] from rfl, List.nil_append]
/-- A line without its end. -/
def lnL (x : Nt) (c : Int) : List UInt8 := chars (intT x.1) ++ 32 :: (chars (intT x.2.1) ++ 32 :: (chars (intT x.2.2) ++ 32 :: chars (intT c)))
theorem lnT_iff {x : Nt} {c : Int} {s : ByteArray} : lnT x c = s ++ ⟨#[10]⟩ ↔ chars s = lnL x c := by
  constructor
  · intro h
    have := congrArg chars h
    rw [chars_lnT, chars_append] at this
    exact (List.append_inj_left' this rfl).symm
  · intro h
    apply chars_inj
    rw [chars_lnT, chars_append, h]
    rfl
theorem nums_line {x : Nt} {c : Int} (hx : isNt x = true) (hc : 0 ≤ c ∧ c ≤ 9972) {s : ByteArray} (hs : chars s = lnL x c) : numsT s = [x.1, x.2.1, x.2.2, c] := by
  obtain ⟨h1, h2, h3⟩ := isNt_iff.1 hx
  have d1 := dig_int (n := x.1) (by omega)
  have d2 := dig_int (n := x.2.1) (by omega)
  have d3 := dig_int (n := x.2.2) (by omega)
  have d4 := dig_int (n := c) (by omega)
  refine numsT_of ?_ (by simp; omega) ?_
  · rw [hs]
    intro b hb
    simp only [lnL, List.mem_append, List.mem_cons] at hb
    rcases hb with hb | rfl | hb | rfl | hb | rfl | hb <;> first
      | decide
      | exact dig_lt (d1.2 b hb)
      | exact dig_lt (d2.2 b hb)
      | exact dig_lt (d3.2 b hb)
      | exact dig_lt (d4.2 b hb)
  · rw [hs, lnL, flds_word d1.1 d1.2 (by decide), flds_word d2.1 d2.2 (by decide), flds_word d3.1 d3.2 (by decide), flds_last d4.1 d4.2]
    rfl
theorem split_line {x : Nt} {c : Int} (hx : isNt x = true) (hc : 0 ≤ c ∧ c ≤ 9972) {s : ByteArray} (hs : chars s = lnL x c) : splitT 32 s = [intT x.1, intT x.2.1, intT x.2.2, intT c] := by
  obtain ⟨h1, h2, h3⟩ := isNt_iff.1 hx
  have d1 := dig_int (n := x.1) (by omega)
  have d2 := dig_int (n := x.2.1) (by omega)
  have d3 := dig_int (n := x.2.2) (by omega)
  have d4 := dig_int (n := c) (by omega)
  unfold splitT
  rw [hs, lnL, splitL_hit (not_dig d1.2 (by decide)), splitL_hit (not_dig d2.2 (by decide)), splitL_hit (not_dig d3.2 (by decide)), splitL_miss (not_dig d4.2 (by decide))]
  simp only [List.map_cons, List.map_nil, mk_chars]

theorem goodN_last {l : List Nt} {x : Nt} (h : goodN (l ++ [x]) = true) : isNt x = true ∧ l.length + 1 ≤ 24 := by
  unfold goodN at h
  simp only [Bool.and_eq_true, decide_eq_true_eq] at h
  refine ⟨?_, by simpa using h.2⟩
  have key : ∀ (p : Nat → Nt → Bool) (m : List Nt) (i : Nat), allI p i (m ++ [x]) = true → p (i + m.length) x = true := by
    intro p m
    induction m with
    | nil => intro i hi; simpa [allI] using hi
    | cons y m ih =>
      intro i hi
      simp only [List.cons_append, allI, Bool.and_eq_true] at hi
      have := ih (i + 1) hi.2
      rw [List.length_cons, show i + (m.length + 1) = i + 1 + m.length by omega]
      exact this
  have := key _ _ _ h.1
  simp only [pNt, Bool.and_eq_true] at this
  exact this.1
/-- What the program, and what the reference takes a line for. -/
def accI (l : List Nt) (c : Int) (s : ByteArray) : Option Nt :=
  match numsT s with
  | [a, b, g, _] => if goodN (l ++ [(a, b, g)]) = true ∧ lnT (a, b, g) (ckN c (a, b, g)) = s ++ ⟨#[10]⟩ then some (a, b, g) else none
  | _ => none
def accS (l : List Nt) (c : Int) (s : ByteArray) : Option Nt :=
  match splitT 32 s with
  | [a, b, g, _] => if goodN (l ++ [(readT a, readT b, readT g)]) = true ∧ lnT (readT a, readT b, readT g) (ckN c (readT a, readT b, readT g)) = s ++ ⟨#[10]⟩ then some (readT a, readT b, readT g) else none
  | _ => none
theorem accI_some {l : List Nt} {c : Int} {s : ByteArray} {x : Nt} (h : accI l c s = some x) : goodN (l ++ [x]) = true ∧ lnT x (ckN c x) = s ++ ⟨#[10]⟩ := by
  unfold accI at h
  split at h
  · split at h
    · rename_i hc
      cases h
      exact hc
    · cases h
  · cases h
theorem accS_some {l : List Nt} {c : Int} {s : ByteArray} {x : Nt} (h : accS l c s = some x) : goodN (l ++ [x]) = true ∧ lnT x (ckN c x) = s ++ ⟨#[10]⟩ := by
  unfold accS at h
  split at h
  · split at h
    · rename_i hc
      cases h
      exact hc
    · cases h
  · cases h
theorem accI_of {l : List Nt} {c : Int} {s : ByteArray} {x : Nt} (h : goodN (l ++ [x]) = true) (hs : lnT x (ckN c x) = s ++ ⟨#[10]⟩) : accI l c s = some x := by
  have hx := (goodN_last h).1
  unfold accI
  rw [nums_line hx (ckN_range c x) (lnT_iff.1 hs)]
  simp only
  rw [if_pos ⟨h, hs⟩]
theorem accS_of {l : List Nt} {c : Int} {s : ByteArray} {x : Nt} (h : goodN (l ++ [x]) = true) (hs : lnT x (ckN c x) = s ++ ⟨#[10]⟩) : accS l c s = some x := by
  have hx := (goodN_last h).1
  obtain ⟨h1, h2, h3⟩ := isNt_iff.1 hx
  unfold accS
  rw [split_line hx (ckN_range c x) (lnT_iff.1 hs)]
  simp only
  rw [readT_int (n := x.1) (by omega) (by omega), readT_int (n := x.2.1) (by omega) (by omega), readT_int (n := x.2.2) (by omega) (by omega), if_pos ⟨h, hs⟩]
theorem acc_eq (l : List Nt) (c : Int) (s : ByteArray) : accI l c s = accS l c s := by
  cases hi : accI l c s with
  | some x =>
    obtain ⟨h1, h2⟩ := accI_some hi
    rw [accS_of h1 h2]
  | none =>
    cases hs : accS l c s with
    | none => rfl
    | some x =>
      obtain ⟨h1, h2⟩ := accS_some hs
      rw [accI_of h1 h2] at hi
      cases hi
/-- The notes of lines: as many as belong to a journal, and how long their lines are. -/
def readN : List (List UInt8) → List Nt → Int → Nat → List Nt × Nat
  | [], l, _, u => (l, u)
  | m :: ms, l, c, u => match accS l c ⟨m.toArray⟩ with
    | some x => readN ms (l ++ [x]) (ckN c x) (u + (m.length + 1))
    | none => (l, u)
end Go.Proofs.YtfjkapnonljdeaaGreatDoor
/-
  The notes of a text: read by the reference and by the program.
-/
namespace Go.Proofs.YtfjkapnonljdeaaGreatDoor
open Go Go.V
set_option linter.unusedSimpArgs false

abbrev mkT (l : List UInt8) : ByteArray := ⟨l.toArray⟩
theorem mkT_size (l : List UInt8) : (mkT l).size = l.length := rfl
theorem splitL_mem (c : UInt8) : ∀ (l : List UInt8), ∀ m ∈ splitL c l, m.length ≤ l.length := by
  intro l m hm
  have := splitT_size c (mkT l) (mkT m) (List.mem_map.2 ⟨m, by rw [chars_mk]; exact hm, rfl⟩)
  exact this
theorem wrap_neT {a b : ByteArray} : (decide (a = b)) = true ↔ a = b := decide_eq_true_iff

/-- One line in the reference's loop: a round's out. -/
def outR (l : List Nt) (u : Nat) (s : ByteArray) : Option Nt → (List Nt → Nat → Nt → Out) → Out
  | some x, k => k (l ++ [x]) (u + (s.size + 1)) x
  | none, _ => .ext 0 [nts l, I (u : Int)]
theorem put_nt (x : Nt) : stD 3 (.agg [I 0, I 0, I 0]) (.ref 0 0) (nt x) = some (nt x) := by simp
theorem app_nts {l : List Nt} {m : List Nt} (h : l.length + m.length ≤ 1048576) : appD 3 24 (nts l) (nts m) = some (nts (l ++ m)) := by
  have e1 : (l.map nt).length + (m.map nt).length = l.length + m.length := by simp
  have h1 : (l.length + m.length) * 24 ≤ 140737488355328 ∧ l.length + m.length ≤ 1152921504606846976 := by omega
  rw [appD_eq, e1, if_pos h1, ← List.map_append]
theorem mk_nts (x : Nt) : mkArr 3 [nt x] = some (nts [x]) := by simp [mkArr, lenOkD]
theorem fld_nt (x : Nt) : fldD true 3 0 (nt x) = some (nt x) := by simp
theorem chk_nts (l : List Nt) : chkA (nts l) = some (nts l) := chkA_map fun _ => rfl
theorem bld_nt (a b c : Int) : bldD [(0, 1), (1, 1), (2, 1)] [I 0, I 0, I 0] [I a, I b, I c] = some (nt (a, b, c)) := by
  simp [bldD, fillD]

theorem e_spec_joRead (s : ByteArray) (h : s.size ≤ 1048576) : F_spec_joRead [T s] = some (.ret [nts (readN (splitL 10 (chars s)).dropLast [] 7 0).1, I ((readN (splitL 10 (chars s)).dropLast [] 7 0).2 : Int)] []) := by
  rw [t_spec_joRead]
  have hs : F_spec_l1Split [T s, D.v (Value.int IntKind.u8 10)] = some (.ret [.arr 1 ((splitT 10 s).map T)] []) := e_spec_l1Split s 10 (by omega)
  have hll := splitL_length 10 (chars s)
  have hsz : s.size = (chars s).length := rfl
  have hne := splitL_ne 10 (chars s)
  have hmem : ∀ m ∈ (splitL 10 (chars s)).dropLast, m.length ≤ 1048576 := by
    intro m hm
    have := splitL_mem 10 (chars s) m (List.dropLast_subset _ hm)
    omega
  have hlen : (splitL 10 (chars s)).dropLast.length + 1 = (splitL 10 (chars s)).length := by
    rw [List.length_dropLast]
    have := List.length_pos_iff.2 hne
    omega
  have hpre : sliceD false 1 (.arr 1 ((splitT 10 s).map T)) (I 0) (I ((splitL 10 (chars s)).dropLast.length : Int)) = some (.arr 1 (((splitL 10 (chars s)).dropLast.map mkT).map T)) := by
    have := sliceD_nat (z := 1) (i := 0) (j := (splitL 10 (chars s)).dropLast.length) (l := (splitT 10 s).map T) (k := .i64) (k' := .i64) (Nat.zero_le _) (by simp [splitT])
    rw [show I 0 = D.v (Value.int .i64 ((0 : Nat) : Int)) from rfl, this]
    rw [List.drop_zero, List.length_dropLast, splitT]
    simp -implicitDefEqProofs only [← List.map_take, List.dropLast_eq_take]
  rw [hs]
  have e1 : ((splitT 10 s).map T).length = (splitL 10 (chars s)).length := by simp [splitT]
  have hw : IntKind.i64.wrap (((splitL 10 (chars s)).length : Int) - 1) = ((splitL 10 (chars s)).dropLast.length : Int) := by
    rw [wrap_id (by omega) (by omega)]
    omega
  simp -implicitDefEqProofs only [callK_ret, sl_zero, lenD_arr, e1, Option.bind_some, bin_sub, hw, hpre, List.length_map]
  generalize (splitL 10 (chars s)).dropLast = ms at hmem hlen
  have hms : ms.length ≤ 1048576 := by omega
  clear hpre hw hs e1 hlen hne hll hsz
  refine loop_bind _ (loop_list ms (fun i (a : List Nt × Nat × Int) => [nts a.1, I (a.2.1 : Int), I a.2.2, .arr 1 ((ms.map mkT).map T), I (ms.length : Int), I (i : Int)]) (fun i a => a.1.length ≤ 24 ∧ (0 ≤ a.2.2 ∧ a.2.2 ≤ 9972) ∧ a.2.1 ≤ i * 1048577)
    (fun _ m a => match accS a.1 a.2.2 (mkT m) with
      | some x => .inl (a.1 ++ [x], a.2.1 + (m.length + 1), ckN a.2.2 x)
      | none => .inr (.ext 0 [nts a.1, I (a.2.1 : Int)])) (fun a => .ext 0 [nts a.1, I (a.2.1 : Int)]) ?_ ?_ ([], 0, 7) ⟨Nat.zero_le _, ⟨by decide, by decide⟩, Nat.zero_le _⟩ rfl) ?_
  · rintro i m ⟨l, u, c⟩ hm ⟨hl, hc, hu⟩
    simp only at hl hc hu
    have hi : i < ms.length := (List.getElem?_eq_some_iff.1 hm).1
    have hmz : m.length ≤ 1048576 := hmem m (List.mem_of_getElem? hm)
    have hi' : (i : Int) < (ms.length : Int) := by omega
    have hel : elemD 1 (.arr 1 ((ms.map mkT).map T)) (I (i : Int)) = some [T (mkT m)] := by simp [hm]
    have hsp : F_spec_l1Split [T (mkT m), D.v (Value.int IntKind.u8 32)] = some (.ret [.arr 1 ((splitT 32 (mkT m)).map T)] []) := e_spec_l1Split (mkT m) 32 (by rw [mkT_size]; omega)
    have hz := splitT_size 32 (mkT m)
    have hll : (splitT 32 (mkT m)).length ≤ 1048577 := by
      have h1 := splitL_length 32 (chars (mkT m))
      have h2 := splitT_length 32 (mkT m)
      have h3 : (chars (mkT m)).length = m.length := rfl
      omega
    simp -implicitDefEqProofs only [mkT_size] at hz
    simp -implicitDefEqProofs only [sl_zero, sl_succ, bin_lss, hi', decide_true, Option.bind_some, ifD_B, if_true, hel, Option.map_some, ldD_ptr, takeD_f, chkV_v, hsp, callK_ret, lenD_arr, List.length_map, bin_neq]
    by_cases h4 : (splitT 32 (mkT m)).length = 4
    · obtain ⟨w0, w1, w2, w3, hws⟩ : ∃ w0 w1 w2 w3, splitT 32 (mkT m) = [w0, w1, w2, w3] := by
        generalize splitT 32 (mkT m) = ws at h4
        match ws, h4 with
        | [a, b, c, d], _ => exact ⟨a, b, c, d, rfl⟩
      rw [hws] at hz ⊢
      have q0 := e_spec_l1Read w0 (by have := hz w0 (by simp); omega)
      have q1 := e_spec_l1Read w1 (by have := hz w1 (by simp); omega)
      have q2 := e_spec_l1Read w2 (by have := hz w2 (by simp); omega)
      have e0 : elemD 1 (.arr 1 ([w0, w1, w2, w3].map T)) (I 0) = some [T w0] := rfl
      have e1 : elemD 1 (.arr 1 ([w0, w1, w2, w3].map T)) (I 1) = some [T w1] := rfl
      have e2 : elemD 1 (.arr 1 ([w0, w1, w2, w3].map T)) (I 2) = some [T w2] := rfl
      have hacc : accS l c (mkT m) = if goodN (l ++ [(readT w0, readT w1, readT w2)]) = true ∧ lnT (readT w0, readT w1, readT w2) (ckN c (readT w0, readT w1, readT w2)) = mkT m ++ ⟨#[10]⟩ then some (readT w0, readT w1, readT w2) else none := by
        unfold accS
        rw [hws]
      have h4n : ((([w0, w1, w2, w3] : List ByteArray).length : Nat) : Int) = 4 := rfl
      rw [hacc]
      simp -implicitDefEqProofs only [h4n, decide_true, Bool.not_true, Bool.false_eq_true, if_false, e0, e1, e2, Option.map_some, Option.bind_some, ldD_ptr, takeD_f, chkV_v, q0, q1, q2, callK_ret, sl_zero, bld_nt]
      generalize (readT w0, readT w1, readT w2) = y at hacc ⊢
      have hap := app_nts (l := l) (m := [y]) (by simp; omega)
      have hg := e_spec_joGood (l ++ [y]) (by simp; omega)
      have ha0 : appD 3 24 (.arr 3 []) (nts l) = some (nts l) := app_nts (l := []) (m := l) (by simp; omega)
      simp -implicitDefEqProofs only [put_nt, Option.bind_some, mkArr_nil, liveD_ref, liveD_arr, liveD_agg, ha0, fld_nt, mk_nts, chk_nts, hap, hg, callK_ret, sl_zero, un_not]
      cases hgd : goodN (l ++ [y])
      · simp -implicitDefEqProofs [hgd, Out.ends]
      have hy := (goodN_last hgd).1
      have hck := ckN_range c y
      have j1 := e_spec_joCheck hc hy
      have j2 := e_spec_joLine hy hck
      have hadd : bin BinOp.add false [] (T (mkT m)) (D.v (Value.string { data := { toList := [10] } })) = some (T (mkT m ++ ⟨#[10]⟩)) := by
        rw [show (D.v (Value.string { data := { toList := [10] } })) = T ⟨#[10]⟩ from rfl, bin_addS, if_pos (by simp [mkT_size]; omega)]
      simp -implicitDefEqProofs only [Bool.not_true, gate_f, Bool.false_eq_true, if_false, Option.bind_some, gateC_f, j1, j2, callK_ret, nrmK_some, sl_zero, hadd, bin_neqS, pickD_B, ifD_B]
      by_cases he : lnT y (ckN c y) = mkT m ++ ⟨#[10]⟩
      · have hw1 : IntKind.i64.wrap ((m.length : Int) + 1) = (m.length : Int) + 1 := wrap_id (by omega) (by omega)
        have hw2 : IntKind.i64.wrap ((u : Int) + ((m.length : Int) + 1)) = ((u + (m.length + 1) : Nat) : Int) := by rw [wrap_id (by omega) (by omega)]; omega
        have hw3 : IntKind.i64.wrap ((i : Int) + 1) = ((i + 1 : Nat) : Int) := by rw [wrap_id (by omega) (by omega)]; omega
        simp -implicitDefEqProofs only [he, decide_true, Bool.not_true, Bool.false_eq_true, if_false, hgd, and_self, if_true, j1, callK_ret, sl_zero, lenD_str, mkT_size, Option.bind_some, bin_add, hw1, hw2, hw3]
        have hll : (l ++ [y]).length ≤ 24 := by
          rw [List.length_append, List.length_singleton]
          exact (goodN_last hgd).2
        have huu : u + (m.length + 1) ≤ (i + 1) * 1048577 := by omega
        exact ⟨trivial, hll, hck, huu⟩
      · simp [he, hgd, Out.ends]
    · have hacc : accS l c (mkT m) = none := by
        unfold accS
        split
        · rename_i hh
          exact absurd (by rw [hh]; rfl) h4
        · rfl
      rw [hacc]
      have h4' : ¬ ((splitT 32 (mkT m)).length : Int) = 4 := by omega
      simp -implicitDefEqProofs only [h4', decide_false, Bool.not_false, if_true]
      simp [Out.ends]
  · rintro ⟨l, u, c⟩ _
    have hi' : ¬ (ms.length : Int) < (ms.length : Int) := by omega
    simp -implicitDefEqProofs only [sl_zero, sl_succ, bin_lss, hi', decide_false, Option.bind_some, ifD_B, Bool.false_eq_true, if_false]
    simp [Out.ends]
  · have key : ∀ (ms : List (List UInt8)) (i : Nat) (l : List Nt) (u : Nat) (c : Int), goL (fun _ m (a : List Nt × Nat × Int) => match accS a.1 a.2.2 (mkT m) with
      | some x => .inl (a.1 ++ [x], a.2.1 + (m.length + 1), ckN a.2.2 x)
      | none => .inr (.ext 0 [nts a.1, I (a.2.1 : Int)])) (fun a => .ext 0 [nts a.1, I (a.2.1 : Int)]) i ms (l, u, c) = .ext 0 [nts (readN ms l c u).1, I ((readN ms l c u).2 : Int)] := by
      intro ms
      induction ms with
      | nil => intro i l u c; rfl
      | cons m ms ih =>
        intro i l u c
        simp -implicitDefEqProofs only [goL, readN]
        cases accS l c (mkT m) with
        | some x => exact ih (i + 1) _ _ _
        | none => rfl
    rw [key]
    simp -implicitDefEqProofs only [outK_ext, Nat.beq_refl, ifN_B, if_true, sl_zero, sl_succ]
end Go.Proofs.YtfjkapnonljdeaaGreatDoor
/-
  The notes of a text: read by the program.
-/
namespace Go.Proofs.YtfjkapnonljdeaaGreatDoor
open Go Go.V
set_option linter.unusedSimpArgs false

theorem e_fCut (w : ByteArray) (h : w.size ≤ 1048576) : fCut [T w, T ⟨#[10]⟩] = some (.ret [T (mkT (Lib.cut (chars w) [10]).1), T (mkT (Lib.cut (chars w) [10]).2.1), B (Lib.cut (chars w) [10]).2.2] []) := by
  simp -implicitDefEqProofs only [fCut]
  rw [if_pos (by omega)]
  rfl
theorem has10 (r : List UInt8) : (10 : UInt8) ∉ r ∨ ∃ a b, r = a ++ 10 :: b ∧ (10 : UInt8) ∉ a := by
  induction r with
  | nil => left; simp
  | cons x r ih =>
    by_cases hx : x = 10
    · right
      exact ⟨[], r, by rw [hx]; rfl, by simp⟩
    · rcases ih with ih | ⟨a, b, rfl, ha⟩
      · left
        simp -implicitDefEqProofs only [List.mem_cons, not_or]
        exact ⟨fun e => hx e.symm, ih⟩
      · right
        refine ⟨x :: a, b, rfl, ?_⟩
        simp -implicitDefEqProofs only [List.mem_cons, not_or]
        exact ⟨fun e => hx e.symm, ha⟩
theorem cut3_0 (x y : ByteArray) (z : Bool) : tupAt (.tup [T x, T y, B z]) 0 = some (T x) := rfl
theorem cut3_1 (x y : ByteArray) (z : Bool) : tupAt (.tup [T x, T y, B z]) 1 = some (T y) := rfl
theorem cut3_2 (x y : ByteArray) (z : Bool) : tupAt (.tup [T x, T y, B z]) 2 = some (B z) := rfl
theorem e_impl_recovered (s : ByteArray) (h : s.size ≤ 1048576) : F_impl_recovered [T s] = some (.ret [nts (readN (splitL 10 (chars s)).dropLast [] 7 0).1, I ((readN (splitL 10 (chars s)).dropLast [] 7 0).2 : Int)] []) := by
  rw [t_impl_recovered]
  have hsz : s.size = (chars s).length := rfl
  generalize hR : readN (splitL 10 (chars s)).dropLast [] 7 0 = R
  simp -implicitDefEqProofs only [mkArr_nil, Option.bind_some]
  refine loop_wf_bind (fun r => r = _) (fun (a : List Nt × Int × Nat) => [T s, nts a.1, I a.2.1, I (a.2.2 : Int)]) (fun a => a.1.length ≤ 24 ∧ (0 ≤ a.2.1 ∧ a.2.1 ≤ 9972) ∧ a.2.2 ≤ s.size ∧ readN (splitL 10 ((chars s).drop a.2.2)).dropLast a.1 a.2.1 a.2.2 = R)
    (fun a => s.size - a.2.2) (fun o => o = .ret [nts R.1, I (R.2 : Int)] []) ?_ ([], 7, 0) ⟨Nat.zero_le _, ⟨by decide, by decide⟩, Nat.zero_le _, hR⟩ rfl ?_
  · rintro ⟨l, c, u⟩ ⟨hl, hc, hu, hr⟩
    simp only at hl hc hu hr
    have hsl := sliceHiS (s := s) (z := 0) (i := u) hu
    have hwz : (s.extract u s.size).size ≤ 1048576 := by rw [ByteArray.size_extract]; omega
    have hcut := e_fCut (s.extract u s.size) hwz
    have hch : chars (s.extract u s.size) = (chars s).drop u := by
      rw [chars_extract, hsz, List.take_length]
    have emp : (D.v (Value.string { data := { toList := [10] } })) = T ⟨#[10]⟩ := rfl
    rw [hch] at hcut
    have hlen : ((chars s).drop u).length = s.size - u := by rw [List.length_drop, hsz]
    simp -implicitDefEqProofs only [sl_zero, sl_succ, hsl, Option.bind_some, emp, hcut, callK_ret]
    generalize hdrop : (chars s).drop u = r at hcut hr hlen
    rcases has10 r with hn | ⟨a, b, rfl, ha⟩
    · right
      have hnum := e_impl_numbersIn (mkT r) (by rw [mkT_size]; omega)
      rw [splitL_miss hn] at hr
      refine ⟨_, ?_, rfl, rfl⟩
      rw [← hr, cut_miss hn]
      simp -implicitDefEqProofs only [cut3_0, cut3_1, cut3_2, Option.bind_some, hnum, callK_ret, sl_zero, un_not, Bool.not_false, gate_f, if_true, pickD_B, ifD_B]
      rfl
    · have hnum := e_impl_numbersIn (mkT a) (by rw [mkT_size]; simp at hlen; omega)
      rw [splitL_hit ha, List.dropLast_cons_of_ne_nil (splitL_ne 10 b)] at hr
      simp -implicitDefEqProofs only [readN] at hr
      rw [← acc_eq] at hr
      rw [cut_hit ha]
      simp -implicitDefEqProofs only [cut3_0, cut3_1, cut3_2, Option.bind_some, hnum, callK_ret, sl_zero, un_not, Bool.not_true, gate_f, Bool.false_eq_true, if_false, lenD_arr, List.length_map, bin_neq, pickD_B, ifD_B]
      by_cases h4 : (numsT (mkT a)).length = 4
      · obtain ⟨w0, w1, w2, w3, hws⟩ : ∃ w0 w1 w2 w3, numsT (mkT a) = [w0, w1, w2, w3] := by
          generalize numsT (mkT a) = ws at h4
          match ws, h4 with
          | [a, b, c, d], _ => exact ⟨a, b, c, d, rfl⟩
        have hacc : accI l c (mkT a) = if goodN (l ++ [(w0, w1, w2)]) = true ∧ lnT (w0, w1, w2) (ckN c (w0, w1, w2)) = mkT a ++ ⟨#[10]⟩ then some (w0, w1, w2) else none := by
          unfold accI
          rw [hws]
        rw [hacc] at hr
        rw [hws]
        have e0 : elemD 1 (ints [w0, w1, w2, w3]) (I 0) = some [I w0] := rfl
        have e1 : elemD 1 (ints [w0, w1, w2, w3]) (I 1) = some [I w1] := rfl
        have e2 : elemD 1 (ints [w0, w1, w2, w3]) (I 2) = some [I w2] := rfl
        have h4n : ((([w0, w1, w2, w3] : List Int).length : Nat) : Int) = 4 := rfl
        simp -implicitDefEqProofs only [h4n, decide_true, Bool.not_true, Bool.false_eq_true, if_false, e0, e1, e2, Option.map_some, Option.bind_some, ldD_ptr, takeD_f, chkV_v, callK_ret, sl_zero, bld_nt]
        generalize (w0, w1, w2) = y at hr ⊢
        have hap := app_nts (l := l) (m := [y]) (by simp; omega)
        have hg := e_impl_AreNotes (l ++ [y]) (by simp; omega)
        have ha0 : appD 3 24 (.arr 3 []) (nts l) = some (nts l) := app_nts (l := []) (m := l) (by simp; omega)
        simp -implicitDefEqProofs only [put_nt, Option.bind_some, mkArr_nil, liveD_ref, liveD_arr, liveD_agg, ha0, fld_nt, mk_nts, chk_nts, hap, hg, callK_ret, sl_zero, un_not]
        cases hgd : goodN (l ++ [y])
        · right
          rw [hgd] at hr
          refine ⟨_, ?_, rfl, rfl⟩
          rw [← hr]
          simp -implicitDefEqProofs
        have hy := (goodN_last hgd).1
        have hck := ckN_range c y
        have j1 := e_impl_check hc hy
        have j2 := e_impl_noteLine hy hck
        have haz : a.length + 1 ≤ s.size - u := by
          rw [List.length_append, List.length_cons] at hlen
          omega
        have hadd : bin BinOp.add false [] (T (mkT a)) (T ⟨#[10]⟩) = some (T (mkT a ++ ⟨#[10]⟩)) := by
          rw [bin_addS, if_pos (by rw [mkT_size, sz1]; omega)]
        simp -implicitDefEqProofs only [Bool.not_true, gate_f, Bool.false_eq_true, if_false, Option.bind_some, gateC_f, j1, j2, callK_ret, nrmK_some, sl_zero, hadd, bin_neqS, pickD_B, ifD_B]
        by_cases he : lnT y (ckN c y) = mkT a ++ ⟨#[10]⟩
        · left
          have hw1 : IntKind.i64.wrap ((a.length : Int) + 1) = (a.length : Int) + 1 := wrap_id (by omega) (by omega)
          have hw2 : IntKind.i64.wrap ((u : Int) + ((a.length : Int) + 1)) = ((u + (a.length + 1) : Nat) : Int) := by rw [wrap_id (by omega) (by omega)]; omega
          simp -implicitDefEqProofs only [he, decide_true, Bool.not_true, Bool.false_eq_true, if_false, hgd, and_self, if_true, j1, callK_ret, sl_zero, lenD_str, mkT_size, Option.bind_some, bin_add, hw1, hw2] at hr ⊢
          have hll : (l ++ [y]).length ≤ 24 := by
            rw [List.length_append, List.length_singleton]
            exact (goodN_last hgd).2
          have hdr : (chars s).drop (u + (a.length + 1)) = b := by
            rw [← List.drop_drop, hdrop]
            rw [← List.drop_drop]
            simp
          refine ⟨(l ++ [y], ckN c y, u + (a.length + 1)), rfl, ⟨hll, hck, by simp only; omega, ?_⟩, by simp only; omega⟩
          simp -implicitDefEqProofs only [hdr]
          exact hr
        · right
          refine ⟨_, ?_, rfl, rfl⟩
          rw [if_neg (fun g => he g.2)] at hr
          rw [← hr]
          simp -implicitDefEqProofs [he]
      · right
        have hacc : accI l c (mkT a) = none := by
          unfold accI
          split
          · rename_i hh
            exact absurd (by rw [hh]; rfl) h4
          · rfl
        rw [hacc] at hr
        have h4' : ¬ ((numsT (mkT a)).length : Int) = 4 := by omega
        refine ⟨_, ?_, rfl, rfl⟩
        rw [← hr]
        simp -implicitDefEqProofs only [h4', decide_false, Bool.not_false, if_true]
  · rintro o rfl
    rfl
end Go.Proofs.YtfjkapnonljdeaaGreatDoor
/-
  The laws of journals that are read.
-/
namespace Go.Proofs.YtfjkapnonljdeaaGreatDoor
open Go Go.V
set_option linter.unusedSimpArgs false

/-! ### marks -/
def mk3 (k : Int) (j : Nat) : Nt := (k + 3 * j, k + 3 * j + 1, k + 3 * j + 2)
def marks (k : Int) (n : Nat) : List Nt := (List.range n).map (mk3 k)
/-! ### what is read -/
abbrev jo (s : ByteArray) : List Nt × Nat := readN (splitL 10 (chars s)).dropLast [] 7 0
theorem readN_len : ∀ (ms : List (List UInt8)) (l : List Nt) (c : Int) (u : Nat), l.length ≤ 24 → (readN ms l c u).1.length ≤ 24
  | [], _, _, _, h => h
  | m :: ms, l, c, u, h => by
    simp only [readN]
    split
    · rename_i x hx
      refine readN_len ms _ _ _ ?_
      rw [List.length_append, List.length_singleton]
      exact (goodN_last (accS_some hx).1).2
    · exact h
def lenS (ms : List (List UInt8)) : Nat := (ms.map fun m => m.length + 1).sum
theorem readN_used : ∀ (ms : List (List UInt8)) (l : List Nt) (c : Int) (u : Nat), (readN ms l c u).2 ≤ u + lenS ms
  | [], _, _, _ => Nat.le_add_right _ _
  | m :: ms, l, c, u => by
    simp only [readN]
    split
    · rename_i x hx
      refine Nat.le_trans (readN_used ms _ _ _) ?_
      simp only [lenS, List.map_cons, List.sum_cons]
      omega
    · exact Nat.le_add_right _ _
theorem lenS_split (c : UInt8) : ∀ (l : List UInt8), lenS (splitL c l).dropLast ≤ l.length
  | [] => Nat.le_refl _
  | x :: l => by
    have ih := lenS_split c l
    simp only [splitL]
    by_cases hx : x = c
    · rw [if_pos hx, List.dropLast_cons_of_ne_nil (splitL_ne c l)]
      simp only [lenS, List.map_cons, List.sum_cons, List.length_nil, List.length_cons] at ih ⊢
      omega
    · rw [if_neg hx]
      cases hs : splitL c l with
      | nil => exact absurd hs (splitL_ne c l)
      | cons h t =>
        rw [hs] at ih
        cases t with
        | nil => exact Nat.zero_le _
        | cons h2 t =>
          simp only [consH, List.dropLast_cons_cons, lenS, List.map_cons, List.sum_cons, List.length_cons] at ih ⊢
          omega
theorem jo_used (s : ByteArray) : (jo s).2 ≤ s.size := by
  have h1 := readN_used (splitL 10 (chars s)).dropLast [] 7 0
  have h2 := lenS_split 10 (chars s)
  have h3 : s.size = (chars s).length := rfl
  unfold jo
  omega
theorem jo_len (s : ByteArray) : (jo s).1.length ≤ 24 := readN_len _ _ _ _ (Nat.zero_le _)

theorem e_impl_isJournalText (s : ByteArray) : F_impl_isJournalText [T s] = some (.ret [B (decide (s.size ≤ 300))] []) := by
  rw [t_impl_isJournalText]
  have : ((s.size : Int) ≤ 300) = (s.size ≤ 300) := by simp only [eq_iff_iff]; omega
  simp [this]
theorem tp0 (l : List Nt) (ds : List D) : tupAt (.tup (nts l :: ds)) 0 = some (nts l) := rfl
theorem tp1 (a : D) (n : Int) (ds : List D) : tupAt (.tup (a :: I n :: ds)) 1 = some (I n) := rfl
theorem tpB1 (a : D) (b : Bool) (ds : List D) : tupAt (.tup (a :: B b :: ds)) 1 = some (B b) := rfl
theorem tpB2 (a c : D) (b : Bool) (ds : List D) : tupAt (.tup (a :: c :: B b :: ds)) 2 = some (B b) := rfl
theorem tc0 (a : D) (ds : List D) : tupCut (.tup (a :: ds)) 0 = .tup (.bad :: ds) := rfl

def recS (s : ByteArray) : List Nt × Nat × Bool := if s.size ≤ 300 then ((jo s).1, (jo s).2, true) else ([], 0, false)
theorem e_impl_Recovered (s : ByteArray) (h : s.size ≤ 1048576) : F_impl_Recovered [T s] = some (.ret [nts (recS s).1, I ((recS s).2.1 : Int), B (recS s).2.2] []) := by
  rw [t_impl_Recovered]
  unfold recS
  by_cases hs : s.size ≤ 300
  · rw [if_pos hs]
    simp -implicitDefEqProofs only [e_impl_isJournalText, hs, decide_true, callK_ret, sl_zero, un_not, Bool.not_true, Option.bind_some, ifD_B, Bool.false_eq_true, if_false, e_impl_recovered s h, tp0, tc0, tp1]
  · rw [if_neg hs]
    simp -implicitDefEqProofs only [e_impl_isJournalText, hs, decide_false, callK_ret, sl_zero, un_not, Bool.not_false, Option.bind_some, ifD_B, if_true, mkArr_nil]
    rfl
theorem e_spec_Recovered (s : ByteArray) (h : s.size ≤ 1048576) : F_spec_Recovered [T s] = some (.ret [nts (recS s).1, I ((recS s).2.1 : Int), B (recS s).2.2] []) := by
  rw [t_spec_Recovered]
  unfold recS
  by_cases hs : s.size ≤ 300
  · have hs' : ¬ (300 : Int) < (s.size : Int) := by omega
    rw [if_pos hs]
    simp -implicitDefEqProofs only [lenD_str, bin_gtr, hs', decide_false, Bool.false_eq_true, if_false, callK_ret, sl_zero, Option.bind_some, ifD_B, e_spec_joRead s h, tp0, tc0, tp1]
  · have hs' : (300 : Int) < (s.size : Int) := by omega
    rw [if_neg hs]
    simp -implicitDefEqProofs only [lenD_str, bin_gtr, hs', decide_true, if_true, callK_ret, sl_zero, Option.bind_some, ifD_B]
    rfl

def jrS (s : ByteArray) : List Nt × Bool := if s.size ≤ 300 ∧ (jo s).2 = s.size then ((jo s).1, true) else ([], false)
theorem e_impl_readJournal (s : ByteArray) (h : s.size ≤ 1048576) : F_impl_readJournal [T s] = some (.ret [nts (jrS s).1, B (jrS s).2] []) := by
  rw [t_impl_readJournal]
  have hu := jo_used s
  unfold jrS
  by_cases hs : s.size ≤ 300
  · by_cases h2 : (jo s).2 = s.size
    · have h2' : ¬ ((jo s).2 : Int) < (s.size : Int) := by omega
      rw [if_pos ⟨hs, h2⟩]
      simp -implicitDefEqProofs only [e_impl_isJournalText, hs, decide_true, callK_ret, sl_zero, un_not, Bool.not_true, Option.bind_some, ifD_B, Bool.false_eq_true, if_false, e_impl_recovered s h, tp0, tc0, tp1, lenD_str, bin_lss, h2', decide_false]
    · have h2' : ((jo s).2 : Int) < (s.size : Int) := by omega
      rw [if_neg (fun g => h2 g.2)]
      simp -implicitDefEqProofs only [e_impl_isJournalText, hs, decide_true, callK_ret, sl_zero, un_not, Bool.not_true, Option.bind_some, ifD_B, Bool.false_eq_true, if_false, e_impl_recovered s h, tp0, tc0, tp1, lenD_str, bin_lss, h2', if_true, mkArr_nil]
      rfl
  · rw [if_neg (fun g => hs g.1)]
    simp -implicitDefEqProofs only [e_impl_isJournalText, hs, decide_false, callK_ret, sl_zero, un_not, Bool.not_false, Option.bind_some, ifD_B, if_true, mkArr_nil]
    rfl
theorem e_impl_ReadJournal (s : ByteArray) (h : s.size ≤ 1048576) : F_impl_ReadJournal [T s] = some (.ret [nts (jrS s).1, B (jrS s).2] []) := by
  rw [t_impl_ReadJournal]
  simp -implicitDefEqProofs only [e_impl_readJournal s h, callK_ret, tp0, tc0, tpB1, Option.bind_some]
theorem e_spec_ReadJournal (s : ByteArray) (h : s.size ≤ 1048576) : F_spec_ReadJournal [T s] = some (.ret [nts (jrS s).1, B (jrS s).2] []) := by
  rw [t_spec_ReadJournal]
  have hu := jo_used s
  unfold jrS
  by_cases hs : s.size ≤ 300
  · have hs' : ¬ (300 : Int) < (s.size : Int) := by omega
    by_cases h2 : (jo s).2 = s.size
    · have h2' : ((jo s).2 : Int) = (s.size : Int) := by omega
      rw [if_pos ⟨hs, h2⟩]
      simp -implicitDefEqProofs only [callK_ret, sl_zero, Option.bind_some, ifD_B, Bool.false_eq_true, if_false, e_spec_joRead s h, tp0, tc0, tp1, lenD_str, bin_gtr, hs', gate_f, decide_false, bin_neq, h2', decide_true, Bool.not_true, pickD_B]
    · have h2' : ¬ ((jo s).2 : Int) = (s.size : Int) := by omega
      rw [if_neg (fun g => h2 g.2)]
      simp -implicitDefEqProofs only [callK_ret, sl_zero, Option.bind_some, ifD_B, Bool.false_eq_true, if_false, e_spec_joRead s h, tp0, tc0, tp1, lenD_str, bin_gtr, hs', gate_f, decide_false, bin_neq, h2', Bool.not_false, if_true, pickD_B]
      rfl
  · have hs' : (300 : Int) < (s.size : Int) := by omega
    rw [if_neg (fun g => hs g.1)]
    simp -implicitDefEqProofs only [callK_ret, sl_zero, Option.bind_some, ifD_B, e_spec_joRead s h, tp0, tc0, tp1, lenD_str, bin_gtr, hs', gate_f, gate_s, decide_true, if_true, pickD_B]
    rfl

/-! ### the laws -/
def badS (s : ByteArray) : Int × Bool := if s.size ≤ 300 ∧ (jo s).2 ≠ s.size then (((jo s).1.length : Int), true) else (0, false)
theorem e_impl_FirstBadLine (s : ByteArray) (h : s.size ≤ 1048576) : F_impl_FirstBadLine [T s] = some (.ret [I (badS s).1, B (badS s).2] []) := by
  rw [t_impl_FirstBadLine]
  have e1 := e_impl_Recovered s h
  unfold recS at e1
  unfold badS
  by_cases hs : s.size ≤ 300
  · rw [if_pos hs] at e1
    by_cases h2 : (jo s).2 = s.size
    · have h2' : ((jo s).2 : Int) = (s.size : Int) := by omega
      rw [if_neg (fun g => g.2 h2)]
      simp -implicitDefEqProofs only [e1, callK_ret, tp0, tc0, tp1, tpB2, Option.bind_some, un_not, Bool.not_true, gate_f, Bool.false_eq_true, if_false, lenD_str, bin_eql, h2', decide_true, pickD_B, ifD_B, if_true]
    · have h2' : ¬ ((jo s).2 : Int) = (s.size : Int) := by omega
      rw [if_pos ⟨hs, h2⟩]
      simp -implicitDefEqProofs only [e1, callK_ret, tp0, tc0, tp1, tpB2, Option.bind_some, un_not, Bool.not_true, gate_f, Bool.false_eq_true, if_false, lenD_str, bin_eql, h2', decide_false, pickD_B, ifD_B, lenD_arr, List.length_map]
  · rw [if_neg hs] at e1
    rw [if_neg (fun g => hs g.1)]
    have e1' : F_impl_Recovered [T s] = some (.ret [nts [], I 0, B false] []) := e1
    simp -implicitDefEqProofs only [e1', callK_ret, tp0, tc0, tp1, tpB2, Option.bind_some, un_not, Bool.not_false, gate_f, gate_s, if_true, pickD_B, ifD_B]
theorem e_spec_FirstBadLine (s : ByteArray) (h : s.size ≤ 1048576) : F_spec_FirstBadLine [T s] = some (.ret [I (badS s).1, B (badS s).2] []) := by
  rw [t_spec_FirstBadLine]
  have e1 := e_spec_joRead s h
  unfold badS
  by_cases hs : s.size ≤ 300
  · have hs' : ¬ (300 : Int) < (s.size : Int) := by omega
    by_cases h2 : (jo s).2 = s.size
    · have h2' : ((jo s).2 : Int) = (s.size : Int) := by omega
      rw [if_neg (fun g => g.2 h2)]
      simp -implicitDefEqProofs only [e1, callK_ret, tp0, tc0, tp1, Option.bind_some, bin_gtr, hs', decide_false, gate_f, Bool.false_eq_true, if_false, lenD_str, bin_eql, h2', decide_true, pickD_B, ifD_B, if_true]
    · have h2' : ¬ ((jo s).2 : Int) = (s.size : Int) := by omega
      rw [if_pos ⟨hs, h2⟩]
      simp -implicitDefEqProofs only [e1, callK_ret, tp0, tc0, tp1, Option.bind_some, bin_gtr, hs', decide_false, gate_f, Bool.false_eq_true, if_false, lenD_str, bin_eql, h2', pickD_B, ifD_B, lenD_arr, List.length_map]
  · have hs' : (300 : Int) < (s.size : Int) := by omega
    rw [if_neg (fun g => hs g.1)]
    simp -implicitDefEqProofs only [e1, callK_ret, tp0, tc0, tp1, Option.bind_some, lenD_str, bin_gtr, hs', decide_true, gate_f, gate_s, if_true, pickD_B, ifD_B]
/-- How many notes two lists begin with alike. -/
def cmn : List Nt → List Nt → Nat
  | x :: l, y :: m => if x = y then cmn l m + 1 else 0
  | _, _ => 0
theorem bin_eqlN (x y : Nt) : bin .eql false [1, 1, 1] (nt x) (nt y) = some (B (decide (x = y))) := by
  obtain ⟨a, b, c⟩ := x
  obtain ⟨d, e, f⟩ := y
  show ((allEq [1, 1, 1] [I a, I b, I c] [I d, I e, I f]).map B) = _
  have : allEq [1, 1, 1] [I a, I b, I c] [I d, I e, I f] = some (a == d && (b == e && (c == f && true))) := rfl
  rw [this]
  simp only [Option.map_some, Bool.and_true, Prod.mk.injEq, Option.some.injEq, D.v.injEq, Value.bool.injEq]
  rw [Bool.eq_iff_iff]
  simp
def sameS (s t : ByteArray) : Int × Bool := if ((jrS s).2 && (jrS t).2) = true then ((cmn (jrS s).1 (jrS t).1 : Int), true) else (0, false)
theorem e_spec_SameStart (s t : ByteArray) (hs : s.size ≤ 1048576) (ht : t.size ≤ 1048576) : F_spec_SameStart [T s, T t] = some (.ret [I (sameS s t).1, B (sameS s t).2] []) := by
  rw [t_spec_SameStart]
  have e1 := e_spec_ReadJournal s hs
  have e2 := e_spec_ReadJournal t ht
  have hl1 : (jrS s).1.length ≤ 24 := by
    unfold jrS
    split
    · exact jo_len s
    · exact Nat.zero_le _
  unfold sameS
  generalize jrS s = R at *
  generalize jrS t = Q at *
  obtain ⟨l, p⟩ := R
  obtain ⟨m, q⟩ := Q
  simp only at e1 e2 hl1
  cases p
  · simp -implicitDefEqProofs only [e1, e2, callK_ret, tp0, tc0, tpB1, Option.bind_some, un_not, Bool.not_false, gate_f, gate_s, if_true, pickD_B, ifD_B, Bool.false_and, Bool.false_eq_true, if_false]
  cases q
  · simp -implicitDefEqProofs only [e1, e2, callK_ret, tp0, tc0, tpB1, Option.bind_some, un_not, Bool.not_false, Bool.not_true, gate_f, gate_s, if_true, pickD_B, ifD_B, Bool.and_false, Bool.false_eq_true, if_false]
  simp -implicitDefEqProofs only [e1, e2, callK_ret, tp0, tc0, tpB1, Option.bind_some, un_not, Bool.not_true, gate_f, gate_s, if_true, pickD_B, ifD_B, Bool.and_self, Bool.false_eq_true, if_false]
  refine loop_wf_bind (fun r => r = _) (fun (i : Nat) => [nts l, nts m, I (i : Int)]) (fun i => i ≤ l.length ∧ i ≤ m.length ∧ i + cmn (l.drop i) (m.drop i) = cmn l m) (fun i => l.length - i) (fun o => o = .ext 0 [I (cmn l m : Int)]) ?_ 0 ⟨Nat.zero_le _, Nat.zero_le _, by simp⟩ rfl ?_
  · rintro i ⟨h1, h2, h3⟩
    by_cases g1 : i < l.length
    · have g1' : (i : Int) < (l.length : Int) := by omega
      by_cases g2 : i < m.length
      · have g2' : (i : Int) < (m.length : Int) := by omega
        have hx : elemD 3 (nts l) (I (i : Int)) = some (nt l[i]).cells := by simp [g1]
        have hy : elemD 3 (nts m) (I (i : Int)) = some (nt m[i]).cells := by simp [g2]
        have lx : ∀ x : Nt, (ldD true 3 (.ptr (nt x).cells)).bind chkV = some (nt x) := fun x => by simp
        have hw : IntKind.i64.wrap ((i : Int) + 1) = ((i + 1 : Nat) : Int) := by rw [wrap_id (by omega) (by omega)]; omega
        rw [List.drop_eq_getElem_cons g1, List.drop_eq_getElem_cons g2] at h3
        simp only [cmn] at h3
        by_cases g3 : l[i] = m[i]
        · left
          rw [if_pos g3] at h3
          refine ⟨i + 1, ?_, ⟨by omega, by omega, by omega⟩, by omega⟩
          simp -implicitDefEqProofs only [sl_zero, sl_succ, lenD_arr, List.length_map, Option.bind_some, bin_lss, g1', g2', decide_true, gate_t, if_true, pickD_B, hx, hy, Option.map_some, lx, bin_eqlN, g3, ifD_B, bin_add, hw]
        · right
          rw [if_neg g3] at h3
          refine ⟨_, ?_, rfl, rfl⟩
          simp -implicitDefEqProofs only [sl_zero, sl_succ, lenD_arr, List.length_map, Option.bind_some, bin_lss, g1', g2', decide_true, gate_t, if_true, pickD_B, hx, hy, Option.map_some, lx, bin_eqlN, g3, decide_false, ifD_B, Bool.false_eq_true, if_false, ← h3, Nat.add_zero]
      · right
        have g2' : ¬ (i : Int) < (m.length : Int) := by omega
        rw [show List.drop i m = [] from List.drop_eq_nil_of_le (by omega)] at h3
        have h4 : cmn (l.drop i) [] = 0 := by cases l.drop i <;> rfl
        refine ⟨_, ?_, rfl, rfl⟩
        simp -implicitDefEqProofs only [sl_zero, sl_succ, lenD_arr, List.length_map, Option.bind_some, bin_lss, g1', g2', decide_true, decide_false, gate_t, gate_s, if_true, pickD_B, ifD_B, Bool.false_eq_true, if_false, ← h3, h4, Nat.add_zero]
    · right
      have g1' : ¬ (i : Int) < (l.length : Int) := by omega
      rw [show List.drop i l = [] from List.drop_eq_nil_of_le (by omega)] at h3
      have h4 : cmn [] (m.drop i) = 0 := by cases m.drop i <;> rfl
      refine ⟨_, ?_, rfl, rfl⟩
      simp -implicitDefEqProofs only [sl_zero, sl_succ, lenD_arr, List.length_map, Option.bind_some, bin_lss, g1', decide_false, gate_t, gate_s, if_true, pickD_B, ifD_B, Bool.false_eq_true, if_false, ← h3, h4, Nat.add_zero]
  · rintro o rfl
    simp -implicitDefEqProofs only [outK_ext, Nat.beq_refl, ifN_B, if_true, sl_zero]
theorem e_impl_SameStart (s t : ByteArray) (hs : s.size ≤ 1048576) (ht : t.size ≤ 1048576) : F_impl_SameStart [T s, T t] = some (.ret [I (sameS s t).1, B (sameS s t).2] []) := by
  rw [t_impl_SameStart]
  have e1 := e_impl_readJournal s hs
  have e2 := e_impl_readJournal t ht
  have hl1 : (jrS s).1.length ≤ 24 := by
    unfold jrS
    split
    · exact jo_len s
    · exact Nat.zero_le _
  unfold sameS
  generalize jrS s = R at *
  generalize jrS t = Q at *
  obtain ⟨l, p⟩ := R
  obtain ⟨m, q⟩ := Q
  simp only at e1 e2 hl1
  cases p
  · simp -implicitDefEqProofs only [e1, e2, callK_ret, tp0, tc0, tpB1, Option.bind_some, un_not, Bool.not_false, gate_f, gate_s, if_true, pickD_B, ifD_B, Bool.false_and, Bool.false_eq_true, if_false]
  cases q
  · simp -implicitDefEqProofs only [e1, e2, callK_ret, tp0, tc0, tpB1, Option.bind_some, un_not, Bool.not_false, Bool.not_true, gate_f, gate_s, if_true, pickD_B, ifD_B, Bool.and_false, Bool.false_eq_true, if_false]
  simp -implicitDefEqProofs only [e1, e2, callK_ret, tp0, tc0, tpB1, Option.bind_some, un_not, Bool.not_true, gate_f, gate_s, if_true, pickD_B, ifD_B, Bool.and_self, Bool.false_eq_true, if_false]
  refine loop_wf_bind (fun r => r = _) (fun (i : Nat) => [nts l, nts m, I (i : Int)]) (fun i => i ≤ l.length ∧ i ≤ m.length ∧ i + cmn (l.drop i) (m.drop i) = cmn l m) (fun i => l.length - i) (fun o => o = .ext 0 [I (cmn l m : Int)]) ?_ 0 ⟨Nat.zero_le _, Nat.zero_le _, by simp⟩ rfl ?_
  · rintro i ⟨h1, h2, h3⟩
    by_cases g1 : i < l.length
    · have g1' : (i : Int) < (l.length : Int) := by omega
      by_cases g2 : i < m.length
      · have g2' : (i : Int) < (m.length : Int) := by omega
        have hx : elemD 3 (nts l) (I (i : Int)) = some (nt l[i]).cells := by simp [g1]
        have hy : elemD 3 (nts m) (I (i : Int)) = some (nt m[i]).cells := by simp [g2]
        have lx : ∀ x : Nt, (ldD true 3 (.ptr (nt x).cells)).bind chkV = some (nt x) := fun x => by simp
        have hw : IntKind.i64.wrap ((i : Int) + 1) = ((i + 1 : Nat) : Int) := by rw [wrap_id (by omega) (by omega)]; omega
        rw [List.drop_eq_getElem_cons g1, List.drop_eq_getElem_cons g2] at h3
        simp only [cmn] at h3
        by_cases g3 : l[i] = m[i]
        · left
          rw [if_pos g3] at h3
          refine ⟨i + 1, ?_, ⟨by omega, by omega, by omega⟩, by omega⟩
          simp -implicitDefEqProofs only [sl_zero, sl_succ, lenD_arr, List.length_map, Option.bind_some, bin_lss, g1', g2', decide_true, gate_t, if_true, pickD_B, hx, hy, Option.map_some, lx, bin_eqlN, g3, ifD_B, bin_add, hw]
        · right
          rw [if_neg g3] at h3
          refine ⟨_, ?_, rfl, rfl⟩
          simp -implicitDefEqProofs only [sl_zero, sl_succ, lenD_arr, List.length_map, Option.bind_some, bin_lss, g1', g2', decide_true, gate_t, if_true, pickD_B, hx, hy, Option.map_some, lx, bin_eqlN, g3, decide_false, ifD_B, Bool.false_eq_true, if_false, ← h3, Nat.add_zero]
      · right
        have g2' : ¬ (i : Int) < (m.length : Int) := by omega
        rw [show List.drop i m = [] from List.drop_eq_nil_of_le (by omega)] at h3
        have h4 : cmn (l.drop i) [] = 0 := by cases l.drop i <;> rfl
        refine ⟨_, ?_, rfl, rfl⟩
        simp -implicitDefEqProofs only [sl_zero, sl_succ, lenD_arr, List.length_map, Option.bind_some, bin_lss, g1', g2', decide_true, decide_false, gate_t, gate_s, if_true, pickD_B, ifD_B, Bool.false_eq_true, if_false, ← h3, h4, Nat.add_zero]
    · right
      have g1' : ¬ (i : Int) < (l.length : Int) := by omega
      rw [show List.drop i l = [] from List.drop_eq_nil_of_le (by omega)] at h3
      have h4 : cmn [] (m.drop i) = 0 := by cases m.drop i <;> rfl
      refine ⟨_, ?_, rfl, rfl⟩
      simp -implicitDefEqProofs only [sl_zero, sl_succ, lenD_arr, List.length_map, Option.bind_some, bin_lss, g1', decide_false, gate_t, gate_s, if_true, pickD_B, ifD_B, Bool.false_eq_true, if_false, ← h3, h4, Nat.add_zero]
  · rintro o rfl
    simp -implicitDefEqProofs only [outK_ext, Nat.beq_refl, ifN_B, if_true, sl_zero]
end Go.Proofs.YtfjkapnonljdeaaGreatDoor
/-
  The program's text of a journal: walked by hand, for it writes into a builder.
-/
namespace Go.Proofs.YtfjkapnonljdeaaGreatDoor
open Go Go.V Go.RowKit Go.Shelf
set_option linter.unusedSimpArgs false

/-- The text of notes behind a check. -/
def jT : List Nt → Int → ByteArray
  | [], _ => ⟨#[]⟩
  | x :: l, c => lnT x (ckN c x) ++ jT l (ckN c x)
theorem lnT_size {x : Nt} {c : Int} (hx : isNt x = true) (hc : 0 ≤ c ∧ c ≤ 9972) : (lnT x c).size ≤ 44 := by
  obtain ⟨h1, h2, h3⟩ := isNt_iff.1 hx
  have s1 := intT_size 9 (n := x.1) (by omega) (by omega)
  have s2 := intT_size 9 (n := x.2.1) (by omega) (by omega)
  have s3 := intT_size 9 (n := x.2.2) (by omega) (by omega)
  have s4 := intT_size 9 (n := c) (by omega) (by omega)
  simp only [lnT, ByteArray.size_append, sz1]
  omega

theorem builder_kept {T e B b : Nat} {bs : List Value} {w w' : World} (h : Lib.IsBuilderF T e B b bs w) (hB : Below w.heap.size w w') : Lib.IsBuilderF T e B b bs w' := by
  have key : ∀ p, Lib.BuilderAtF T e B b p bs w → Lib.BuilderAtF T e B b p bs w' := by
    rintro p h
    have hlt := h.lt
    obtain ⟨h1, v, h2, ⟨h3, h4⟩, h5⟩ := h
    refine ⟨h1, v, (hB.block b hlt).trans h2, ⟨h3, ?_⟩, h5⟩
    rcases h4 with h4 | ⟨g, cap, cur, fz, g1, g2, g3, g4⟩
    · exact .inl h4
    · exact .inr ⟨g, cap, cur, fz, g1, g2, (hB.block g (Array.getElem?_eq_some_iff.1 g3).1).trans g3, g4⟩
  exact h.elim (fun h => .inl (key _ h)) (fun h => .inr (key _ h))
/-- A call that hands one scalar back, of a function whose contract is said of data. -/
theorem calls_flat1 {P : Program} {G : List (Nat × (Obj → Prop))} {f : FuncId} {S : FS} (he : ∀ args w, (callFunc f args).run P w = .ok (.enter f args) w) (hm : Meets G P f S) {ds : List D} {y : Value} (f' : List D → Option Out) (hf' : S.f = f') (hd : f' ds = some (.ret [.v y] [])) (hrm : S.rm = [.dat 0]) {args : Array Value} {w : World} {F : Nat → Prop}
    (hgl : gOk G w F) (ha : ArgsOk w F (fun _ => none) 0 S.pm ds args.toList) (hF : ∀ b, F b → b < w.heap.size) : Calls P f args w fun e w' => e = .returned y ∧ Below w.heap.size w w' := by
  refine (calls_of_meets' he hm (hf' ▸ hd) hgl ha (fun b hb => ⟨hF b hb, rfl⟩) (fun b i h => by cases h)).mono ?_
  rintro e w' ⟨v, rfl, F', R, vs, rfl, hpost⟩
  have hl := hpost.len
  rw [hrm] at hl
  obtain ⟨u, rfl⟩ := List.length_eq_one_iff.1 hl
  have h0 := hpost.res 0
  rw [hrm] at h0
  simp only [nthK, nth, List.getD_cons_zero] at h0
  rcases h0 with h0 | h0
  · cases h0
  exact ⟨by rw [resV, (RepV_v.1 h0).1], ⟨hpost.os, hpost.tape, hpost.output, hpost.size, fun b hb => hpost.keep b hb rfl⟩⟩
abbrev ntV (x : Nt) : Value := .agg #[.int .i64 x.1, .int .i64 x.2.1, .int .i64 x.2.2]
theorem rep_nt {w : World} {F : Nat → Prop} (x : Nt) : RepV w F (nt x) (ntV x) := by
  refine ⟨[.int .i64 x.1, .int .i64 x.2.1, .int .i64 x.2.2], rfl, ?_⟩
  simp only [RepC]
  refine ⟨?_, rfl⟩
  refine RepL_cons.2 ⟨[.int .i64 x.1], [.int .i64 x.2.1, .int .i64 x.2.2], rfl, by simp only [RepC]; exact ⟨trivial, rfl⟩, ?_⟩
  refine RepL_cons.2 ⟨[.int .i64 x.2.1], [.int .i64 x.2.2], rfl, by simp only [RepC]; exact ⟨trivial, rfl⟩, ?_⟩
  exact RepL_cons.2 ⟨[.int .i64 x.2.2], [], rfl, by simp only [RepC]; exact ⟨trivial, rfl⟩, RepL_nil.2 rfl⟩
set_option maxRecDepth 100000 in
theorem call_check {w : World} {F : Nat → Prop} (hF : ∀ b, F b → b < w.heap.size) (hgl : gOk gl0 w F) {c : Int} {x : Nt} (hc : 0 ≤ c ∧ c ≤ 9972) (hx : isNt x = true) :
    Calls Tryz.prog 40 #[.int .i64 c, ntV x] w fun e w' => e = .returned (.int .i64 (ckN c x)) ∧ Below w.heap.size w w' :=
  calls_flat1 (Go.Proofs.enters_of Tryz.func40 (by kernel_rfl) rfl) M_impl_check F_impl_check rfl (e_impl_check hc hx) rfl hgl (show ArgOk w F _ (.dat 0) (I c) (.int .i64 c) ∧ ArgOk w F _ (.dat 0) (nt x) (ntV x) ∧ True from ⟨.inr (RepV_v.2 ⟨rfl, rfl⟩), .inr (rep_nt x), trivial⟩) hF
set_option maxRecDepth 100000 in
theorem call_noteLine {w : World} {F : Nat → Prop} (hF : ∀ b, F b → b < w.heap.size) (hgl : gOk gl1 w F) {c : Int} {x : Nt} (hc : 0 ≤ c ∧ c ≤ 9972) (hx : isNt x = true) :
    Calls Tryz.prog 42 #[ntV x, .int .i64 c] w fun e w' => e = .returned (.string (lnT x c)) ∧ Below w.heap.size w w' :=
  calls_flat1 (Go.Proofs.enters_of Tryz.func42 (by kernel_rfl) rfl) M_impl_noteLine F_impl_noteLine rfl (e_impl_noteLine hx hc) rfl hgl (show ArgOk w F _ (.dat 0) (nt x) (ntV x) ∧ ArgOk w F _ (.dat 0) (I c) (.int .i64 c) ∧ True from ⟨.inr (rep_nt x), .inr (RepV_v.2 ⟨rfl, rfl⟩), trivial⟩) hF
theorem call_write (B b : Nat) (bs : List Value) (s : ByteArray) (w : World) (h : Lib.IsBuilderF 64 5 B b bs w) (hlen : bs.length + s.size ≤ 140737488355328) (hBw : B ≤ w.heap.size) :
    Calls Tryz.prog 41 #[.pointer (some ⟨b, 0, none⟩), .string s] w fun e w' => e = .returned (.tuple #[.int .i64 s.size, .nilIface]) ∧ (Lib.BuilderAtF 64 5 B b (.pointer (some ⟨b, 0, none⟩)) (bs ++ Lib.strCells s) w' ∧ Below B w w' ∧ Lib.OthersKept 5 (some b) w w') :=
  Any.Builder_WriteString_k (ρ := Tryz.lays156_ren) { Tryz.lays156 with } Tryz.Builder_Extra_156 B b bs s w h hlen hBw
theorem call_string (B b : Nat) (l : List UInt8) (w : World) (h : Lib.IsBuilderF 64 5 B b (Lib.byteCells l) w) (hBw : B ≤ w.heap.size) :
    Calls Tryz.prog 43 #[.pointer (some ⟨b, 0, none⟩)] w fun e w' => e = .returned (.string ⟨l.toArray⟩) ∧ (Lib.IsBuilderF 64 5 B b (Lib.byteCells l) w' ∧ Below B w w' ∧ Lib.OthersKept 5 (some b) w w') :=
  Any.Builder_String_any_k (ρ := Tryz.lays156_ren) { Tryz.lays156 with } Tryz.Builder_Extra_156 B b l w h hBw

def cellsN (x : Nt) : List Value := [.int .i64 x.1, .int .i64 x.2.1, .int .i64 x.2.2]
theorem rep_nts {w : World} {F : Nat → Prop} : ∀ (l : List Nt) (us : List Value), RepL w F (l.map nt) us → us = l.flatMap cellsN
  | [], us, h => RepL_nil.1 h
  | x :: l, us, h => by
    obtain ⟨v1, v2, rfl, h1, h2⟩ := RepL_cons.1 h
    rw [rep_nts l v2 h2]
    simp only [RepC] at h1
    obtain ⟨u1, r1, rfl, g1, h1⟩ := RepL_cons.1 h1.1
    obtain ⟨u2, r2, rfl, g2, h1⟩ := RepL_cons.1 h1
    obtain ⟨u3, r3, rfl, g3, h1⟩ := RepL_cons.1 h1
    simp only [RepC] at g1 g2 g3
    rw [g1.1, g2.1, g3.1, RepL_nil.1 h1]
    rfl
theorem cells_nts {w : World} {b : Nat} : ∀ (l : List Nt) (o : Nat), CellsAt w b o (l.flatMap cellsN) → ∀ (i : Nat) (x : Nt), l[i]? = some x → CellsAt w b (o + i * 3) (cellsN x)
  | [], _, _, i, x, hx => by simp at hx
  | y :: l, o, h, 0, x, hx => by
    simp only [List.getElem?_cons_zero, Option.some.injEq] at hx
    subst hx
    intro j u hu
    have := h j u (by rw [List.flatMap_cons, List.getElem?_append_left (List.getElem?_eq_some_iff.1 hu).1]; exact hu)
    simpa using this
  | y :: l, o, h, i + 1, x, hx => by
    have := cells_nts l (o + 3) (by
      have := h.drop 3
      exact this) i x (by simpa using hx)
    rw [show o + (i + 1) * 3 = o + 3 + i * 3 by omega]
    exact this

set_option maxHeartbeats 4000000 in
set_option maxRecDepth 1000000 in
theorem journalText_walk (l : List Nt) (hg : ∀ x ∈ l, isNt x = true) (hl : l.length ≤ 1048576) (A : Option Addr) (c : Nat) (_hc : l.length ≤ c) (w : World) (F : Nat → Prop) (hF : ∀ b, F b → b < w.heap.size) (hgl : gOk gl1 w F)
    (hA : l ≠ [] → ∃ b o, A = some ⟨b, o, none⟩ ∧ F b ∧ ∀ (i : Nat) (x : Nt), l[i]? = some x → CellsAt w b (o + i * 3) (cellsN x)) :
    Calls Tryz.prog 24 #[.slice A l.length c] w fun e w' => e = .returned (.string (jT l 7)) ∧ Below w.heap.size w w' := by
  go_enter Tryz.func24, Tryz.ntmps24
  go_wp2
  go_loopw [4, 9] (fun v4 v9 wr => ∃ (i : Nat) (cc : Int) (acc : List UInt8), v4 = .int .i64 cc ∧ v9 = .int .i64 i ∧ i ≤ l.length ∧ (0 ≤ cc ∧ cc ≤ 9972) ∧ Lib.IsBuilderF 64 5 w.heap.size w.heap.size (Lib.byteCells acc) wr ∧ Below w.heap.size w wr ∧ acc ++ chars (jT (l.drop i) cc) = chars (jT l 7) ∧ acc.length ≤ 44 * i) (fun v4 v9 wr => l.length - (match v9 with | .int _ n => n.toNat | _ => 0))
  case atStart =>
    exact ⟨0, 7, [], rfl, rfl, Nat.zero_le _, by decide, Lib.IsBuilderF.of (Lib.fresh_isBuilder 64 5 w), (Below.refl _ w).alloc (Nat.le_refl _) _, rfl, Nat.le_refl _⟩
  case round =>
    obtain ⟨i, cc, acc, rfl, rfl, hi, hcc, hI, hbw, hacc, hal⟩ := hrel
    by_cases hp : i < l.length
    · have hpi : (i : Int) < (l.length : Int) := by omega
      obtain ⟨b, o, rfl, hb, hcell⟩ := hA (fun h => by rw [h] at hp; exact absurd hp (Nat.not_lt_zero _))
      have hcl := hcell i l[i] (List.getElem?_eq_getElem hp)
      have hbw0 : wr.heap[b]? = w.heap[b]? := hbw.block b (hF b hb)
      have c0 : wr.cell? ⟨b, o + i * 3, none⟩ = some (.int .i64 l[i].1) := (World.cell?_of_block hbw0).trans (hcl 0 _ rfl)
      have c1 : wr.cell? ⟨b, o + i * 3 + 1, none⟩ = some (.int .i64 l[i].2.1) := (World.cell?_of_block hbw0).trans (hcl 1 _ rfl)
      have c2 : wr.cell? ⟨b, o + i * 3 + 2, none⟩ = some (.int .i64 l[i].2.2) := (World.cell?_of_block hbw0).trans (hcl 2 _ rfl)
      have hx : isNt l[i] = true := hg _ (List.getElem_mem hp)
      have hI0 := hI.alloc (.cells #[.int .i64 l[i].1, .int .i64 l[i].2.1, .int .i64 l[i].2.2] 38)
      have hb0 : Below w.heap.size w (wr.alloc (.cells #[.int .i64 l[i].1, .int .i64 l[i].2.1, .int .i64 l[i].2.2] 38)) := hbw.alloc hbw.size _
      have hk0 : (wr.alloc (.cells #[.int .i64 l[i].1, .int .i64 l[i].2.1, .int .i64 l[i].2.2] 38)).heap[wr.heap.size]? = some (.cells #[.int .i64 l[i].1, .int .i64 l[i].2.1, .int .i64 l[i].2.2] 38) := Array.getElem?_push_size
      have hck := ckN_range cc l[i]
      have hcall1 := call_check (F := F) (fun b hb => Nat.lt_of_lt_of_le (hF b hb) hb0.size) (gOk_mono (fun _ h => h) (fun b hb => hb0.block b (hF b hb)) (fun p hp => hgl p (gl01 p hp))) hcc hx
      go_wp2_with (go_at_call 40; refine hcall1.mono ?_)
      rintro e W1 ⟨rfl, b1⟩
      have hI1 := builder_kept hI0 b1
      have hb1 := hb0.trans (b1.mono hb0.size)
      generalize hW0 : wr.alloc (.cells #[.int .i64 l[i].1, .int .i64 l[i].2.1, .int .i64 l[i].2.2] 38) = W0 at *
      have hk1 : W1.heap[wr.heap.size]? = some (.cells #[.int .i64 l[i].1, .int .i64 l[i].2.1, .int .i64 l[i].2.2] 38) := (b1.block _ (Array.getElem?_eq_some_iff.1 hk0).1).trans hk0
      have d0 : W1.cell? ⟨wr.heap.size, 0, none⟩ = some (.int .i64 l[i].1) := by rw [Lib.cell_of_heap hk1]; rfl
      have d1 : W1.cell? ⟨wr.heap.size, 1, none⟩ = some (.int .i64 l[i].2.1) := by rw [Lib.cell_of_heap hk1]; rfl
      have d2 : W1.cell? ⟨wr.heap.size, 2, none⟩ = some (.int .i64 l[i].2.2) := by rw [Lib.cell_of_heap hk1]; rfl
      have hcall2 := call_noteLine (F := F) (fun b hb => Nat.lt_of_lt_of_le (hF b hb) hb1.size) (gOk_mono (fun _ h => h) (fun b hb => hb1.block b (hF b hb)) hgl) hck hx
      go_wp2_with (go_at_call 42; refine hcall2.mono ?_)
      rintro e W2 ⟨rfl, b2⟩
      have hI2 := builder_kept hI1 b2
      have hb2 := hb1.trans (b2.mono hb1.size)
      have hcall3 := call_write w.heap.size w.heap.size _ (lnT l[i] (ckN cc l[i])) _ hI2 (by rw [Lib.byteCells_length]; have := lnT_size hx hck; omega) hb2.size
      go_wp2_with (go_at_call 41; refine hcall3.mono ?_)
      rintro e W3 ⟨rfl, hI3, b3, _⟩
      go_wp2
      have hdr : chars (jT (l.drop i) cc) = chars (lnT l[i] (ckN cc l[i])) ++ chars (jT (l.drop (i + 1)) (ckN cc l[i])) := by
        rw [List.drop_eq_getElem_cons hp]
        simp only [jT, chars_append]
      have hsz : (chars (lnT l[i] (ckN cc l[i]))).length ≤ 44 := lnT_size hx hck
      refine ⟨⟨i + 1, ckN cc l[i], acc ++ chars (lnT l[i] (ckN cc l[i])), rfl, congrArg (Value.int .i64) (by omega), by omega, hck, ?_, hb2.trans b3, ?_, ?_⟩, ?_⟩
      · rw [Lib.byteCells_append]
        exact Or.inr hI3
      · rw [← hacc, hdr, List.append_assoc]
      · rw [List.length_append]
        omega
      · show l.length - ((i : Int) + 1).toNat < l.length - (i : Int).toNat
        omega
    · have hpi : ¬ (i : Int) < (l.length : Int) := by omega
      have hcall4 := call_string w.heap.size w.heap.size acc _ hI hbw.size
      go_wp2_with (go_at_call 43; refine hcall4.mono ?_)
      intro e W1 he h1 b1 k1
      subst he
      go_wp2
      go_ret
      rw [List.drop_eq_nil_of_le (by omega)] at hacc
      refine ⟨?_, hbw.trans b1⟩
      have : acc = chars (jT l 7) := by rw [← hacc]; simp [jT, chars]
      rw [this, mk_chars]
      rfl

/-- Notes out of data. -/
def ntOf : D → Option Nt
  | .agg [.v (.int .i64 a), .v (.int .i64 b), .v (.int .i64 c)] => some (a, b, c)
  | _ => none
theorem ntOf_some {d : D} {x : Nt} (h : ntOf d = some x) : d = nt x := by
  unfold ntOf at h
  split at h
  · cases h; rfl
  · cases h
def ntsOf : List D → Option (List Nt)
  | [] => some []
  | d :: l => (ntOf d).bind fun x => (ntsOf l).map (x :: ·)
theorem ntsOf_some : ∀ (ds : List D) (l : List Nt), ntsOf ds = some l → ds = l.map nt
  | [], l, h => by cases h; rfl
  | d :: ds, l, h => by
    simp only [ntsOf, Option.bind_eq_some_iff, Option.map_eq_some_iff] at h
    obtain ⟨x, h1, m, h2, rfl⟩ := h
    rw [ntOf_some h1, ntsOf_some ds m h2]
    rfl
theorem ntsOf_map : ∀ (l : List Nt), ntsOf (l.map nt) = some l
  | [] => rfl
  | x :: l => by
    simp only [List.map_cons, ntsOf, ntsOf_map l]
    rfl
def fJournal : List D → Option Out
  | [.arr _ ds] => (ntsOf ds).bind fun l => if (∀ x ∈ l, isNt x = true) ∧ l.length ≤ 1048576 then some (.ret [T (jT l 7)] []) else none
  | _ => none
@[reducible] def S_impl_journalText : FS := { pm := [.dat 2], rm := [.dat 0], f := fJournal }
set_option maxRecDepth 100000 in
theorem M_impl_journalText : Meets gl1 Tryz.prog 24 S_impl_journalText := by
  have he : ∀ args w, (callFunc 24 args).run Tryz.prog w = .ok (.enter 24 args) w := Go.Proofs.enters_of Tryz.func24 (by kernel_rfl) rfl
  refine meets_of_calls he fun ds rs us hd args w F ow hg ha hF _ => ?_
  obtain ⟨d, y, rfl, h2, h3⟩ := args_one ha
  replace hd : fJournal [d] = some (.ret rs us) := hd
  unfold fJournal at hd
  split at hd
  case h_2 => cases hd
  rename_i z ds e
  cases e
  obtain ⟨l, hl, hd⟩ := Option.bind_eq_some_iff.1 hd
  split at hd
  case isFalse => cases hd
  rename_i hz
  cases hd
  obtain rfl := ntsOf_some _ _ hl
  rcases h3 with h3 | h3
  · cases h3
  simp only [RepV, RepC] at h3
  obtain ⟨A, c, us, hy, hc, hr, _, hA⟩ := h3
  simp only [List.cons.injEq, and_true] at hy
  subst hy
  rw [rep_nts l us hr] at hA
  rw [size1 h2]
  rw [List.length_map] at hc ⊢
  refine (journalText_walk l hz.1 hz.2 A c hc w F (fun b hb => (hF b hb).1) hg (fun hne => ?_)).mono ?_
  · obtain ⟨b, o, rfl, h5, h6⟩ := hA (by simpa using hne)
    exact ⟨b, o, rfl, h5, cells_nts l o h6⟩
  · rintro e w' ⟨rfl, hB⟩
    refine ⟨_, rfl, F, _, [_], rfl, post_flat hB hF rfl rfl [_] [_] rfl rfl fun j d hj => ?_⟩
    match j, hj with
    | 0, hj =>
      simp only [List.getElem?_cons_zero, Option.some.injEq] at hj
      subst hj
      exact ⟨_, rfl, RepV_v.2 ⟨rfl, rfl⟩⟩
end Go.Proofs.YtfjkapnonljdeaaGreatDoor
