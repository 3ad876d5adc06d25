/-
  What the functions compute: their evaluated texts, printed.
-/
import Derived.Test.YtcnkgmbnmndahaaC2
namespace Go.Proofs.Ytcnkgmbnmndahaa
open Go Go.V
theorem t_spec_tyWord (x0 : D) : F_spec_tyWord [x0] =
  (callK (F_spec_tyLetters [x0, D.v (Value.int IntKind.i64 16)]) fun rs _u => some (Out.ret [sl rs 0] [])) := by kernel_rfl
theorem t_spec_l1Least (x0 x1 : D) : F_spec_l1Least [x0, x1] =
  ((bin BinOp.lss false [] x0 x1).bind fun z => ifD z (some (Out.ret [x0] [])) (some (Out.ret [x1] []))) := by kernel_rfl
theorem t_spec_tyFind (x0 x1 : D) : F_spec_tyFind [x0, x1] =
  ((lenD false x0).bind fun z => (loopC (fun s => (bin BinOp.lss false [] (sl s 3) (sl s 2)).bind fun z => ifD z ((Option.map D.ptr (elemD 2 (sl s 1) (sl s 3))).bind fun z => ((ldD true 2 z).bind chkV).bind fun z =>
 (stD 2 (D.agg [D.v (Value.string { data := { toList := [] } }), D.v (Value.int IntKind.i64 0)]) (D.ref 0 0) z).bind fun b => (liveD b (D.ref 0 0)).bind fun z => ((atD b z).bind (takeD false 1)).bind fun z =>
 (bin BinOp.eql false [] z (sl s 0)).bind fun z => ifD z (some (Out.ret [sl s 3] [])) ((bin BinOp.add false [] (sl s 3) (D.v (Value.int IntKind.i64 1))).bind fun z => some (Out.nrm [sl s 0, sl s 1, sl s 2, z])))
 (some (Out.ext 0 []))) [x1, x0, z, D.v (Value.int IntKind.i64 0)]).bind fun o => outK o (fun i _u => ifN (i.beq 0) (some (Out.ret [D.v (Value.int IntKind.i64 (-1))] [])) none) fun a b => some (Out.ret a b)) := by kernel_rfl
theorem t_spec_tySet (x0 x1 : D) : F_spec_tySet [x0, x1] =
  ((loopC (fun s => (lenD true (sl s 1)).bind fun z => (bin BinOp.lss false [] (sl s 3) z).bind fun z => ifD z ((lenD true (sl s 1)).bind fun z => (bin BinOp.sub false [] z (sl s 3)).bind fun z =>
 callK (F_spec_l1Least [D.v (Value.int IntKind.i64 3), z]) fun rs _u => (loopC (fun s => (bin BinOp.gtr false [] (sl s 5) (D.v (Value.int IntKind.i64 0))).bind fun z =>
 (gate (D.tup []) z true (some (sl s 4))).bind fun z_1 => (gate (D.tup []) z true (bin BinOp.lss false [] z_1 (D.v (Value.int IntKind.i64 0)))).bind fun z_2 => (pickD z z_2 (D.v (Value.bool false))).bind fun z => ifD z
 ((bin BinOp.add false [] (sl s 3) (sl s 5)).bind fun z => (sliceD true 0 (sl s 1) (sl s 3) z).bind fun z => callK (F_spec_tyFind [sl s 0, z]) fun rs _u =>
 (bin BinOp.sub false [] (sl s 5) (D.v (Value.int IntKind.i64 1))).bind fun z => some (Out.nrm [sl s 0, sl s 1, sl s 2, sl s 3, sl rs 0, z])) (some (Out.ext 2 [sl s 0, sl s 1, sl s 2, sl s 3, sl s 4])))
 [sl s 0, sl s 1, sl s 2, sl s 3, D.v (Value.int IntKind.i64 (-1)), sl rs 0]).bind fun o => outK o (fun i s => ifN (i.beq 2) ((bin BinOp.lss false [] (sl s 4) (D.v (Value.int IntKind.i64 0))).bind fun z =>
 ifD z (some (Out.ret [D.arr 1 [], D.v (Value.bool false)] [])) ((mkArr 1 [sl s 4]).bind fun a => (chkA a).bind fun b => (appD 1 8 (sl s 2) b).bind fun y => (Option.map D.ptr (elemD 2 (sl s 0) (sl s 4))).bind fun z =>
 (offD 0 z).bind fun z => ((ldD false 1 z).bind chkV).bind fun z => (lenD true z).bind fun z => (bin BinOp.add false [] (sl s 3) z).bind fun z => some (Out.nrm [sl s 0, sl s 1, y, z])))
 (ifN (i.beq 1) (some (Out.nrm [sl s 0, sl s 1, sl s 2, sl s 3])) (some (Out.ext i [sl s 2])))) fun a b => some (Out.ret a b)) (some (Out.ext 0 [sl s 2]))) [x0, x1, D.arr 1 [], D.v (Value.int IntKind.i64 0)]).bind fun o =>
 outK o (fun i s => ifN (i.beq 0) (some (Out.ret [sl s 0, D.v (Value.bool true)] [])) none) fun a b => some (Out.ret a b)) := by kernel_rfl
theorem t_spec_shCodes (x0 x1 : D) : F_spec_shCodes [x0, x1] =
  ((lenD false x0).bind fun z => (loopC (fun s => (bin BinOp.lss false [] (sl s 4) (sl s 3)).bind fun z => ifD z ((Option.map D.ptr (elemD 4 (sl s 2) (sl s 4))).bind fun z => ((ldD true 4 z).bind chkV).bind fun z => (stD 4
 (D.agg [D.v (Value.string { data := { toList := [] } }), D.v (Value.int IntKind.i64 0), D.v (Value.int IntKind.i64 0), D.v (Value.int IntKind.i64 0)]) (D.ref 0 0) z).bind fun b => (liveD b (D.ref 0 0)).bind fun z =>
 ((atD b z).bind (takeD false 1)).bind fun z => (bldD [(0, 1), (1, 1)] [D.v (Value.string { data := { toList := [] } }), D.v (Value.int IntKind.i64 0)] [z, D.v (Value.int IntKind.i64 1)]).bind fun z =>
 (mkArr 2 [z]).bind fun a => (chkA a).bind fun b => (appD 2 24 (sl s 1) b).bind fun y => (bin BinOp.add false [] (sl s 4) (D.v (Value.int IntKind.i64 1))).bind fun z => some (Out.nrm [sl s 0, y, sl s 2, sl s 3, z]))
 (some (Out.ext 0 [sl s 0, sl s 1]))) [x1, D.arr 2 [], x0, z, D.v (Value.int IntKind.i64 0)]).bind fun o => outK o (fun i s => ifN (i.beq 0) ((liveD (sl s 1) (D.ref 0 0)).bind fun z => (liveD z (sl s 1)).bind fun i =>
 callK (F_spec_tySet [i, sl s 0]) fun rs _u => (tupAt (D.tup rs) 0).bind fun y => (tupAt (tupCut (D.tup rs) 0) 1).bind fun z => (un UnOp.not z).bind fun z => ifD z (some (Out.ret [D.arr 1 [], D.v (Value.bool false)] []))
 ((lenD false y).bind fun z => (loopC (fun s => (bin BinOp.lss false [] (sl s 4) (sl s 3)).bind fun z => ifD z ((Option.map D.ptr (elemD 1 (sl s 2) (sl s 4))).bind fun z => ((ldD false 1 z).bind chkV).bind fun z =>
 (liveD (sl s 0) (D.ref 0 0)).bind fun z_1 => ((liveD z_1 (sl s 0)).bind fun b => refI 2 b z).bind fun z => (refAdd 0 z).bind fun z => ((atD (sl s 0) z).bind (takeD false 1)).bind fun z => (mkArr 1 [z]).bind fun a =>
 (chkA a).bind fun b => (appD 1 16 (sl s 1) b).bind fun y => (bin BinOp.add false [] (sl s 4) (D.v (Value.int IntKind.i64 1))).bind fun z => some (Out.nrm [sl s 0, y, sl s 2, sl s 3, z])) (some (Out.ext 2 [sl s 1])))
 [sl s 1, D.arr 1 [], y, z, D.v (Value.int IntKind.i64 0)]).bind fun o => outK o (fun i s => ifN (i.beq 2) (some (Out.ret [sl s 0, D.v (Value.bool true)] [])) none) fun a b => some (Out.ret a b))) none)
 fun a b => some (Out.ret a b)) := by kernel_rfl
theorem t_spec_caMove (x0 x1 x2 : D) : F_spec_caMove [x0, x1, x2] =
  ((mkArr 4 []).bind fun a => (chkA x0).bind fun b => (appD 4 40 a b).bind fun y => (lenD false x1).bind fun z => (loopC (fun s => (bin BinOp.lss false [] (sl s 4) (sl s 3)).bind fun z => ifD z
 ((Option.map D.ptr (elemD 1 (sl s 2) (sl s 4))).bind fun z => ((ldD false 1 z).bind chkV).bind fun z => (liveD (sl s 1) (D.ref 0 0)).bind fun z_1 => (liveD (sl s 1) (D.ref 0 0)).bind fun z_2 =>
 (liveD z_2 (sl s 1)).bind fun i => callK (F_spec_caFind [i, z]) fun rs _u => ((liveD z_1 (sl s 1)).bind fun b => refI 4 b (sl rs 0)).bind fun z => (refAdd 3 z).bind fun z =>
 ((atD (sl s 1) z).bind (takeD false 1)).bind fun z => (bin BinOp.add false [] z (sl s 0)).bind fun z => ((liveD z_1 (sl s 1)).bind fun b => refI 4 b (sl rs 0)).bind fun z_3 => (refAdd 3 z_3).bind fun z_4 =>
 (stD 1 (sl s 1) z_4 z).bind fun b => (bin BinOp.add false [] (sl s 4) (D.v (Value.int IntKind.i64 1))).bind fun z => some (Out.nrm [sl s 0, b, sl s 2, sl s 3, z])) (some (Out.ext 0 [sl s 1])))
 [x2, y, x1, z, D.v (Value.int IntKind.i64 0)]).bind fun o => outK o (fun i s => ifN (i.beq 0) ((liveD (sl s 0) (D.ref 0 0)).bind fun z => (liveD z (sl s 0)).bind fun i => callK (F_spec_caGood [i]) fun rs _u =>
 (un UnOp.not (sl rs 0)).bind fun z => ifD z (some (Out.ret [D.arr 4 [], D.v (Value.bool false)] [])) (some (Out.ret [sl s 0, D.v (Value.bool true)] []))) none) fun a b => some (Out.ret a b)) := by kernel_rfl
theorem t_spec_MayBeSet (x0 x1 : D) : F_spec_MayBeSet [x0, x1] =
  ((boxD 4 x0).bind fun y => (fldD true 4 0 y).bind fun z => callK (F_spec_shGood [z]) fun rs _u => (un UnOp.not (sl rs 0)).bind fun z => (gate (D.tup []) z false (some x1)).bind fun z_1 =>
 gateC z false (callK (F_spec_tyWord [z_1]) fun rs _u => some (Out.nrm [sl rs 0])) [D.tup []] fun outs => (gate (D.tup []) z false (un UnOp.not (sl outs 0))).bind fun z_2 =>
 (pickD z (D.v (Value.bool true)) z_2).bind fun z => ifD z (some (Out.ret [D.v (Value.bool false), D.v (Value.bool false)] [])) ((liveD y (D.ref 0 0)).bind fun z => ((atD y z).bind (takeD false 1)).bind fun z =>
 callK (F_spec_shCodes [z, x1]) fun rs _u => (tupAt (D.tup rs) 0).bind fun y_1 => (tupAt (tupCut (D.tup rs) 0) 1).bind fun z => (un UnOp.not z).bind fun z =>
 ifD z (some (Out.ret [D.v (Value.bool false), D.v (Value.bool true)] [])) ((liveD y (D.ref 0 0)).bind fun z => ((atD y z).bind (takeD false 1)).bind fun z =>
 callK (F_spec_caMove [z, y_1, D.v (Value.int IntKind.i64 (-1))]) fun rs _u => (tupAt (D.tup rs) 0).bind fun _u => (tupAt (tupCut (D.tup rs) 0) 1).bind fun z => some (Out.ret [z, D.v (Value.bool true)] [])))) := by kernel_rfl
theorem t_impl_isWord (x0 : D) : F_impl_isWord [x0] =
  (callK (F_impl_areLetters [x0, D.v (Value.int IntKind.i64 1), D.v (Value.int IntKind.i64 16)]) fun rs _u => some (Out.ret [sl rs 0] [])) := by kernel_rfl
theorem t_internal_stringslite_HasPrefix (x0 x1 : D) : F_internal_stringslite_HasPrefix [x0, x1] =
  ((lenD true x0).bind fun z => (lenD true x1).bind fun z_1 => (bin BinOp.geq false [] z z_1).bind fun z => (gate (D.tup []) z true (some x0)).bind fun z_2 => (gate (D.tup []) z true (some x1)).bind fun z_3 =>
 (gate (D.tup []) z true (lenD true z_3)).bind fun z_4 => (gate (D.tup []) z true (sliceD true 0 z_2 (D.v (Value.int IntKind.i64 0)) z_4)).bind fun z_5 => (gate (D.tup []) z true (some x1)).bind fun z_6 =>
 (gate (D.tup []) z true (bin BinOp.eql false [] z_5 z_6)).bind fun z_7 => (pickD z z_7 (D.v (Value.bool false))).bind fun z => some (Out.ret [z] [])) := by kernel_rfl
theorem t_strings_HasPrefix (x0 x1 : D) : F_strings_HasPrefix [x0, x1] =
  (callK (F_internal_stringslite_HasPrefix [x0, x1]) fun rs _u => some (Out.ret [sl rs 0] [])) := by kernel_rfl
theorem t_impl_sortsOf (x0 x1 : D) : F_impl_sortsOf [x0, x1] =
  ((mkArr 1 []).bind fun a => (loopC (fun s => (lenD true (sl s 1)).bind fun z => (bin BinOp.gtr false [] z (D.v (Value.int IntKind.i64 0))).bind fun z => ifD z ((lenD false (sl s 0)).bind fun z => (loopC (fun s =>
 (bin BinOp.lss false [] (sl s 6) (sl s 5)).bind fun z => ifD z ((Option.map D.ptr (elemD 2 (sl s 4) (sl s 6))).bind fun z => ((ldD true 2 z).bind chkV).bind fun z => (stD 2 (D.agg
 [D.v (Value.string { data := { toList := [] } }), D.v (Value.int IntKind.i64 0)]) (D.ref 0 0) z).bind fun b => (liveD b (D.ref 0 0)).bind fun z => ((atD b z).bind (takeD false 1)).bind fun z =>
 callK (F_strings_HasPrefix [sl s 1, z]) fun rs _u => (gate (D.tup []) (sl rs 0) true (some (sl s 3))).bind fun z => (gate (D.tup []) (sl rs 0) true (bin BinOp.lss false [] z (D.v (Value.int IntKind.i64 0)))).bind fun z =>
 (gate (D.tup []) (sl rs 0) true (some z)).bind fun z => (gate D.bad z false (liveD b (D.ref 0 0))).bind fun z_1 => (gate (D.tup []) z false ((atD b z_1).bind (takeD false 1))).bind fun z_2 =>
 (gate (D.tup []) z false (lenD true z_2)).bind fun z_3 => (gate (D.tup []) z false (some (sl s 0))).bind fun z_4 => (gate (D.tup []) z false (some (sl s 3))).bind fun z_5 => (gate (D.tup []) z false
 (Option.map D.ptr (elemD 2 z_4 z_5))).bind fun z_6 => (gate (D.tup []) z false (offD 0 z_6)).bind fun z_7 => (gate (D.tup []) z false ((ldD false 1 z_7).bind chkV)).bind fun z_8 =>
 (gate (D.tup []) z false (lenD true z_8)).bind fun z_9 => (gate (D.tup []) z false (bin BinOp.gtr false [] z_3 z_9)).bind fun z_10 => (gate (D.tup []) (sl rs 0) true (pickD z (D.v (Value.bool true)) z_10)).bind fun z =>
 (pickD (sl rs 0) z (D.v (Value.bool false))).bind fun z => ifD z ((bin BinOp.add false [] (sl s 6) (D.v (Value.int IntKind.i64 1))).bind fun z => some (Out.nrm [sl s 0, sl s 1, sl s 2, sl s 6, sl s 4, sl s 5, z]))
 ((bin BinOp.add false [] (sl s 6) (D.v (Value.int IntKind.i64 1))).bind fun z => some (Out.nrm [sl s 0, sl s 1, sl s 2, sl s 3, sl s 4, sl s 5, z]))) (some (Out.ext 2 [sl s 0, sl s 1, sl s 2, sl s 3])))
 [sl s 0, sl s 1, sl s 2, D.v (Value.int IntKind.i64 (-1)), sl s 0, z, D.v (Value.int IntKind.i64 0)]).bind fun o => outK o (fun i s => ifN (i.beq 2)
 ((bin BinOp.lss false [] (sl s 3) (D.v (Value.int IntKind.i64 0))).bind fun z => ifD z ((mkArr 1 []).bind fun a => some (Out.ret [a, D.v (Value.bool false)] [])) ((mkArr 1 [sl s 3]).bind fun a => (chkA a).bind fun b =>
 (appD 1 8 (sl s 2) b).bind fun y => (Option.map D.ptr (elemD 2 (sl s 0) (sl s 3))).bind fun z => (offD 0 z).bind fun z => ((ldD false 1 z).bind chkV).bind fun z => (lenD true z).bind fun z =>
 (sliceHi true 0 (sl s 1) z).bind fun z => some (Out.nrm [sl s 0, z, y]))) (ifN (i.beq 1) (some (Out.nrm [sl s 0, sl s 1, sl s 2])) (some (Out.ext i [sl s 2])))) fun a b => some (Out.ret a b)) (some (Out.ext 0 [sl s 2])))
 [x0, x1, a]).bind fun o => outK o (fun i s => ifN (i.beq 0) (some (Out.ret [sl s 0, D.v (Value.bool true)] [])) none) fun a b => some (Out.ret a b)) := by kernel_rfl
theorem t_impl_codesOf (x0 x1 : D) : F_impl_codesOf [x0, x1] =
  ((mkArr 2 []).bind fun a => (lenD false x0).bind fun z => (loopC (fun s => (bin BinOp.lss false [] (sl s 4) (sl s 3)).bind fun z => ifD z ((Option.map D.ptr (elemD 4 (sl s 2) (sl s 4))).bind fun z =>
 ((ldD true 4 z).bind chkV).bind fun z => (stD 4 (D.agg [D.v (Value.string { data := { toList := [] } }), D.v (Value.int IntKind.i64 0), D.v (Value.int IntKind.i64 0), D.v (Value.int IntKind.i64 0)]) (D.ref 0 0) z).bind
 fun b => (liveD b (D.ref 0 0)).bind fun z => ((atD b z).bind (takeD false 1)).bind fun z => (bldD [(0, 1), (1, 1)] [D.v (Value.string { data := { toList := [] } }), D.v (Value.int IntKind.i64 0)]
 [z, D.v (Value.int IntKind.i64 1)]).bind fun z => (mkArr 2 [z]).bind fun a => (chkA a).bind fun b => (appD 2 24 (sl s 1) b).bind fun y => (bin BinOp.add false [] (sl s 4) (D.v (Value.int IntKind.i64 1))).bind fun z =>
 some (Out.nrm [sl s 0, y, sl s 2, sl s 3, z])) (some (Out.ext 0 [sl s 0, sl s 1]))) [x1, a, x0, z, D.v (Value.int IntKind.i64 0)]).bind fun o => outK o (fun i s => ifN (i.beq 0) ((liveD (sl s 1) (D.ref 0 0)).bind fun z =>
 (liveD z (sl s 1)).bind fun i => callK (F_impl_sortsOf [i, sl s 0]) fun rs _u => (tupAt (D.tup rs) 0).bind fun y => (tupAt (tupCut (D.tup rs) 0) 1).bind fun z => (mkArr 1 []).bind fun a => (lenD false y).bind fun z_1 =>
 (loopC (fun s => (bin BinOp.lss false [] (sl s 5) (sl s 4)).bind fun z => ifD z ((Option.map D.ptr (elemD 1 (sl s 3) (sl s 5))).bind fun z => ((ldD false 1 z).bind chkV).bind fun z =>
 (liveD (sl s 0) (D.ref 0 0)).bind fun z_2 => ((liveD z_2 (sl s 0)).bind fun b => refI 2 b z).bind fun z => (refAdd 0 z).bind fun z => ((atD (sl s 0) z).bind (takeD false 1)).bind fun z => (mkArr 1 [z]).bind fun a =>
 (chkA a).bind fun b => (appD 1 16 (sl s 2) b).bind fun y => (bin BinOp.add false [] (sl s 5) (D.v (Value.int IntKind.i64 1))).bind fun z => some (Out.nrm [sl s 0, sl s 1, y, sl s 3, sl s 4, z]))
 (some (Out.ext 2 [sl s 1, sl s 2]))) [sl s 1, z, a, y, z_1, D.v (Value.int IntKind.i64 0)]).bind fun o => outK o (fun i s => ifN (i.beq 2) (some (Out.ret [sl s 1, sl s 0] [])) none) fun a b => some (Out.ret a b)) none)
 fun a b => some (Out.ret a b)) := by kernel_rfl
theorem t_impl_changed (x0 x1 x2 : D) : F_impl_changed [x0, x1, x2] =
  (callK (F_impl_areCodes [x0, x1]) fun rs _u => (un UnOp.not (sl rs 0)).bind fun z => ifD z ((mkArr 4 []).bind fun a => some (Out.ret [a, D.v (Value.bool false)] [])) ((mkArr 4 []).bind fun a => (chkA x0).bind fun b =>
 (appD 4 40 a b).bind fun y => (lenD false x1).bind fun z => (loopC (fun s => (bin BinOp.lss false [] (sl s 5) (sl s 4)).bind fun z => ifD z ((Option.map D.ptr (elemD 1 (sl s 3) (sl s 5))).bind fun z =>
 ((ldD false 1 z).bind chkV).bind fun z => (liveD (sl s 2) (D.ref 0 0)).bind fun z_1 => callK (F_impl_boxAt [sl s 0, z]) fun rs _u => ((liveD z_1 (sl s 2)).bind fun b => refI 4 b (sl rs 0)).bind fun z =>
 (refAdd 3 z).bind fun z => ((atD (sl s 2) z).bind (takeD false 1)).bind fun z => (bin BinOp.add false [] z (sl s 1)).bind fun z => ((liveD z_1 (sl s 2)).bind fun b => refI 4 b (sl rs 0)).bind fun z_2 =>
 (refAdd 3 z_2).bind fun z_3 => (stD 1 (sl s 2) z_3 z).bind fun b => (bin BinOp.add false [] (sl s 5) (D.v (Value.int IntKind.i64 1))).bind fun z => some (Out.nrm [sl s 0, sl s 1, b, sl s 3, sl s 4, z]))
 (some (Out.ext 0 [sl s 2]))) [x0, x2, y, x1, z, D.v (Value.int IntKind.i64 0)]).bind fun o => outK o (fun i s => ifN (i.beq 0) ((liveD (sl s 0) (D.ref 0 0)).bind fun z => (liveD z (sl s 0)).bind fun i =>
 callK (F_impl_IsCase [i]) fun rs _u => (un UnOp.not (sl rs 0)).bind fun z => ifD z ((mkArr 4 []).bind fun a => some (Out.ret [a, D.v (Value.bool false)] [])) (some (Out.ret [sl s 0, D.v (Value.bool true)] []))) none)
 fun a b => some (Out.ret a b))) := by kernel_rfl
theorem t_impl_TakeTypes (x0 x1 : D) : F_impl_TakeTypes [x0, x1] =
  (callK (F_impl_changed [x0, x1, D.v (Value.int IntKind.i64 (-1))]) fun rs _u => (tupAt (D.tup rs) 0).bind fun y => (tupAt (tupCut (D.tup rs) 0) 1).bind fun z => some (Out.ret [y, z] [])) := by kernel_rfl
theorem t_impl_MayBeSet (x0 x1 : D) : F_impl_MayBeSet [x0, x1] =
  ((boxD 4 x0).bind fun y => (fldD true 4 0 y).bind fun z => callK (F_impl_IsShop [z]) fun rs _u => (un UnOp.not (sl rs 0)).bind fun z => (gate (D.tup []) z false (some x1)).bind fun z_1 =>
 gateC z false (callK (F_impl_isWord [z_1]) fun rs _u => some (Out.nrm [sl rs 0])) [D.tup []] fun outs => (gate (D.tup []) z false (un UnOp.not (sl outs 0))).bind fun z_2 =>
 (pickD z (D.v (Value.bool true)) z_2).bind fun z => ifD z (some (Out.ret [D.v (Value.bool false), D.v (Value.bool false)] [])) ((liveD y (D.ref 0 0)).bind fun z => ((atD y z).bind (takeD false 1)).bind fun z =>
 callK (F_impl_codesOf [z, x1]) fun rs _u => (tupAt (D.tup rs) 0).bind fun y_1 => (tupAt (tupCut (D.tup rs) 0) 1).bind fun z => (un UnOp.not z).bind fun z =>
 ifD z (some (Out.ret [D.v (Value.bool false), D.v (Value.bool true)] [])) ((liveD y (D.ref 0 0)).bind fun z => ((atD y z).bind (takeD false 1)).bind fun z => callK (F_impl_TakeTypes [z, y_1]) fun rs _u =>
 (tupAt (D.tup rs) 0).bind fun _u => (tupAt (tupCut (D.tup rs) 0) 1).bind fun z => some (Out.ret [z, D.v (Value.bool true)] [])))) := by kernel_rfl
theorem t_laws_FnExactMayBeSet (x0 x1 : D) : F_laws_FnExactMayBeSet [x0, x1] =
  ((boxD 4 x0).bind fun y => (lenD true x1).bind fun z => (bin BinOp.gtr false [] z (D.v (Value.int IntKind.i64 1048576))).bind fun z => ifD z (some (Out.ret [D.v (Value.bool true)] [])) ((fldD true 4 0 y).bind fun z =>
 callK (F_laws_szShop [z, D.v (Value.int IntKind.i64 1048576)]) fun rs _u => (bin BinOp.lss false [] (sl rs 0) (D.v (Value.int IntKind.i64 0))).bind fun z => ifD z (some (Out.ret [D.v (Value.bool true)] []))
 ((fldD true 4 0 y).bind fun z => callK (F_laws_toShop [z]) fun rs _u => callK (F_spec_MayBeSet [sl rs 0, x1]) fun rs _u => (tupAt (D.tup rs) 0).bind fun z => (tupAt (D.tup rs) 1).bind fun z_1 =>
 (fldD true 4 0 y).bind fun z_2 => callK (F_laws_toShop [z_2]) fun rs _u => (stD 4 (D.agg [D.arr 4 [], D.arr 4 [], D.v (Value.int IntKind.i64 0), D.v (Value.int IntKind.i64 0)]) (D.ref 0 0) (sl rs 0)).bind fun b =>
 (fldD true 4 0 b).bind fun z_3 => callK (F_impl_MayBeSet [z_3, x1]) fun rs _u => (tupAt (D.tup rs) 0).bind fun z_4 => (tupAt (D.tup rs) 1).bind fun z_5 => (bin BinOp.neq true [] z_4 z).bind fun z =>
 (gate (D.tup []) z false (some z_5)).bind fun z_6 => (gate (D.tup []) z false (some z_1)).bind fun z_7 => (gate (D.tup []) z false (bin BinOp.neq true [] z_6 z_7)).bind fun z_8 =>
 (pickD z (D.v (Value.bool true)) z_8).bind fun z => ifD z (some (Out.ret [D.v (Value.bool false)] [])) ((fldD true 4 0 b).bind fun z => (fldD true 4 0 y).bind fun z_9 => callK (F_laws_toShop [z_9]) fun rs _u =>
 callK (F_laws_eqShop [z, sl rs 0]) fun rs _u => (un UnOp.not (sl rs 0)).bind fun z => ifD z (some (Out.ret [D.v (Value.bool false)] [])) (some (Out.ret [D.v (Value.bool true)] [])))))) := by kernel_rfl
end Go.Proofs.Ytcnkgmbnmndahaa
