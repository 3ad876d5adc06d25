/-
  What the functions compute: their evaluated texts, printed.
-/
import Derived.Test.YtankikbbdfgkbaaRows
import Derived.Test.YtankikbbdfgkbaaM7
import Derived.Deep.RegionHeld3
import Derived.Deep.DrawnRows
import Derived.Deep.AppendLies
namespace Go.Proofs.Ytankikbbdfgkbaa
open Go Go.V
theorem t_impl_PutTypes (x0 x1 : D) : F_impl_PutTypes [x0, x1] =
  (callK (F_impl_changed [x0, x1, D.v (Value.int IntKind.i64 1)]) fun rs _u => (tupAt (D.tup rs) 0).bind fun y => (tupAt (tupCut (D.tup rs) 0) 1).bind fun z => some (Out.ret [y, z] [])) := by kernel_rfl
theorem t_impl_Shop_formeAt (x0 x1 : D) : F_impl_Shop_formeAt [x0, x1] =
  ((boxD 4 x0).bind fun y => (loopC (fun s => (liveD (sl s 1) (D.ref 0 1)).bind fun z => ((atD (sl s 1) z).bind (takeD false 1)).bind fun z => (lenD false z).bind fun z => (bin BinOp.lss false [] (sl s 2) z).bind fun z =>
 (gate D.bad z true (liveD (sl s 1) (D.ref 0 1))).bind fun z_1 => (gate (D.tup []) z true ((atD (sl s 1) z_1).bind (takeD false 1))).bind fun z_2 => (gate (D.tup []) z true (some (sl s 2))).bind fun z_3 =>
 (gate (D.tup []) z true (Option.map D.ptr (elemD 4 z_2 z_3))).bind fun z_4 => (gate (D.tup []) z true (offD 0 z_4)).bind fun z_5 => (gate (D.tup []) z true ((ldD false 1 z_5).bind chkV)).bind fun z_6 =>
 (gate (D.tup []) z true (some (sl s 0))).bind fun z_7 => (gate (D.tup []) z true (bin BinOp.lss false [] z_6 z_7)).bind fun z_8 => (pickD z z_8 (D.v (Value.bool false))).bind fun z => ifD z
 ((bin BinOp.add false [] (sl s 2) (D.v (Value.int IntKind.i64 1))).bind fun z => some (Out.nrm [sl s 0, sl s 1, z])) (some (Out.ext 0 [sl s 0, sl s 1, sl s 2]))) [x1, y, D.v (Value.int IntKind.i64 0)]).bind fun o =>
 outK o (fun i s => ifN (i.beq 0) ((liveD (sl s 1) (D.ref 0 1)).bind fun z => ((atD (sl s 1) z).bind (takeD false 1)).bind fun z => (lenD false z).bind fun z => (bin BinOp.lss false [] (sl s 2) z).bind fun z =>
 (gate D.bad z true (liveD (sl s 1) (D.ref 0 1))).bind fun z_1 => (gate (D.tup []) z true ((atD (sl s 1) z_1).bind (takeD false 1))).bind fun z_2 => (gate (D.tup []) z true (some (sl s 2))).bind fun z_3 =>
 (gate (D.tup []) z true (Option.map D.ptr (elemD 4 z_2 z_3))).bind fun z_4 => (gate (D.tup []) z true (offD 0 z_4)).bind fun z_5 => (gate (D.tup []) z true ((ldD false 1 z_5).bind chkV)).bind fun z_6 =>
 (gate (D.tup []) z true (some (sl s 0))).bind fun z_7 => (gate (D.tup []) z true (bin BinOp.eql false [] z_6 z_7)).bind fun z_8 => (pickD z z_8 (D.v (Value.bool false))).bind fun z => some (Out.ret [sl s 2, z] [])) none)
 fun a b => some (Out.ret a b)) := by kernel_rfl
theorem t_impl_TakeTypes (x0 x1 : D) : F_impl_TakeTypes [x0, x1] =
  (callK (F_impl_changed [x0, x1, D.v (Value.int IntKind.i64 (-1))]) fun rs _u => (tupAt (D.tup rs) 0).bind fun y => (tupAt (tupCut (D.tup rs) 0) 1).bind fun z => some (Out.ret [y, z] [])) := by kernel_rfl
theorem t_impl_changed (x0 x1 x2 : D) : F_impl_changed [x0, x1, x2] =
  (callK (F_impl_areCodes [x0, x1]) fun rs _u => (un UnOp.not (sl rs 0)).bind fun z => ifD z ((mkArr 4 []).bind fun a => some (Out.ret [a, D.v (Value.bool false)] [])) ((mkArr 4 []).bind fun a => (chkA x0).bind fun b =>
 (appD 4 40 a b).bind fun y => (lenD false x1).bind fun z => (loopC (fun s => (bin BinOp.lss false [] (sl s 5) (sl s 4)).bind fun z => ifD z ((Option.map D.ptr (elemD 1 (sl s 3) (sl s 5))).bind fun z =>
 ((ldD false 1 z).bind chkV).bind fun z => (liveD (sl s 2) (D.ref 0 0)).bind fun z_1 => callK (F_impl_boxAt [sl s 0, z]) fun rs _u => ((liveD z_1 (sl s 2)).bind fun b => refI 4 b (sl rs 0)).bind fun z =>
 (refAdd 3 z).bind fun z => ((atD (sl s 2) z).bind (takeD false 1)).bind fun z => (bin BinOp.add false [] z (sl s 1)).bind fun z => ((liveD z_1 (sl s 2)).bind fun b => refI 4 b (sl rs 0)).bind fun z_2 =>
 (refAdd 3 z_2).bind fun z_3 => (stD 1 (sl s 2) z_3 z).bind fun b => (bin BinOp.add false [] (sl s 5) (D.v (Value.int IntKind.i64 1))).bind fun z => some (Out.nrm [sl s 0, sl s 1, b, sl s 3, sl s 4, z]))
 (some (Out.ext 0 [sl s 2]))) [x0, x2, y, x1, z, D.v (Value.int IntKind.i64 0)]).bind fun o => outK o (fun i s => ifN (i.beq 0) ((liveD (sl s 0) (D.ref 0 0)).bind fun z => (liveD z (sl s 0)).bind fun i =>
 callK (F_impl_IsCase [i]) fun rs _u => (un UnOp.not (sl rs 0)).bind fun z => ifD z ((mkArr 4 []).bind fun a => some (Out.ret [a, D.v (Value.bool false)] [])) (some (Out.ret [sl s 0, D.v (Value.bool true)] []))) none)
 fun a b => some (Out.ret a b))) := by kernel_rfl
theorem t_impl_codesOf (x0 x1 : D) : F_impl_codesOf [x0, x1] =
  ((mkArr 2 []).bind fun a => (lenD false x0).bind fun z => (loopC (fun s => (bin BinOp.lss false [] (sl s 4) (sl s 3)).bind fun z => ifD z ((Option.map D.ptr (elemD 4 (sl s 2) (sl s 4))).bind fun z =>
 ((ldD true 4 z).bind chkV).bind fun z => (stD 4 (D.agg [D.v (Value.string { data := { toList := [] } }), D.v (Value.int IntKind.i64 0), D.v (Value.int IntKind.i64 0), D.v (Value.int IntKind.i64 0)]) (D.ref 0 0) z).bind
 fun b => (liveD b (D.ref 0 0)).bind fun z => ((atD b z).bind (takeD false 1)).bind fun z => (bldD [(0, 1), (1, 1)] [D.v (Value.string { data := { toList := [] } }), D.v (Value.int IntKind.i64 0)]
 [z, D.v (Value.int IntKind.i64 1)]).bind fun z => (mkArr 2 [z]).bind fun a => (chkA a).bind fun b => (appD 2 24 (sl s 1) b).bind fun y => (bin BinOp.add false [] (sl s 4) (D.v (Value.int IntKind.i64 1))).bind fun z =>
 some (Out.nrm [sl s 0, y, sl s 2, sl s 3, z])) (some (Out.ext 0 [sl s 0, sl s 1]))) [x1, a, x0, z, D.v (Value.int IntKind.i64 0)]).bind fun o => outK o (fun i s => ifN (i.beq 0) ((liveD (sl s 1) (D.ref 0 0)).bind fun z =>
 (liveD z (sl s 1)).bind fun i => callK (F_impl_sortsOf [i, sl s 0]) fun rs _u => (tupAt (D.tup rs) 0).bind fun y => (tupAt (tupCut (D.tup rs) 0) 1).bind fun z => (mkArr 1 []).bind fun a => (lenD false y).bind fun z_1 =>
 (loopC (fun s => (bin BinOp.lss false [] (sl s 5) (sl s 4)).bind fun z => ifD z ((Option.map D.ptr (elemD 1 (sl s 3) (sl s 5))).bind fun z => ((ldD false 1 z).bind chkV).bind fun z =>
 (liveD (sl s 0) (D.ref 0 0)).bind fun z_2 => ((liveD z_2 (sl s 0)).bind fun b => refI 2 b z).bind fun z => (refAdd 0 z).bind fun z => ((atD (sl s 0) z).bind (takeD false 1)).bind fun z => (mkArr 1 [z]).bind fun a =>
 (chkA a).bind fun b => (appD 1 16 (sl s 2) b).bind fun y => (bin BinOp.add false [] (sl s 5) (D.v (Value.int IntKind.i64 1))).bind fun z => some (Out.nrm [sl s 0, sl s 1, y, sl s 3, sl s 4, z]))
 (some (Out.ext 2 [sl s 1, sl s 2]))) [sl s 1, z, a, y, z_1, D.v (Value.int IntKind.i64 0)]).bind fun o => outK o (fun i s => ifN (i.beq 2) (some (Out.ret [sl s 1, sl s 0] [])) none) fun a b => some (Out.ret a b)) none)
 fun a b => some (Out.ret a b)) := by kernel_rfl
theorem t_impl_isShopStep (x0 : D) : F_impl_isShopStep [x0] =
  ((boxD 4 x0).bind fun y => (liveD y (D.ref 0 1)).bind fun z => ((atD y z).bind (takeD false 1)).bind fun z => callK (F_impl_isFormeId [z]) fun rs _u => (un UnOp.not (sl rs 0)).bind fun z =>
 ifD z (some (Out.ret [D.v (Value.bool false)] [])) ((liveD y (D.ref 0 0)).bind fun z => ((atD y z).bind (takeD false 1)).bind fun z => (bin BinOp.eql false [] z (D.v (Value.int IntKind.i64 1))).bind fun z_1 => ifD z_1
 ((liveD y (D.ref 0 2)).bind fun z => ((atD y z).bind (takeD false 1)).bind fun z => callK (F_impl_isWord [z]) fun rs _u => (gate D.bad (sl rs 0) true (liveD y (D.ref 0 3))).bind fun z =>
 (gate (D.tup []) (sl rs 0) true ((atD y z).bind (takeD false 1))).bind fun z => (gate (D.tup []) (sl rs 0) true (bin BinOp.eql false [] z (D.v (Value.int IntKind.i64 0)))).bind fun z =>
 (pickD (sl rs 0) z (D.v (Value.bool false))).bind fun z => some (Out.ret [z] [])) ((bin BinOp.eql false [] z (D.v (Value.int IntKind.i64 3))).bind fun z_2 => ifD z_2 ((liveD y (D.ref 0 2)).bind fun z =>
 ((atD y z).bind (takeD false 1)).bind fun z => (bin BinOp.eql false [] z (D.v (Value.string { data := { toList := [] } }))).bind fun z => (gate D.bad z true (liveD y (D.ref 0 3))).bind fun z_3 =>
 (gate (D.tup []) z true ((atD y z_3).bind (takeD false 1))).bind fun z_4 => gateC z true (callK (F_impl_within [z_4, D.v (Value.int IntKind.i64 1), D.v (Value.int IntKind.i64 1000)]) fun rs _u => some (Out.nrm [sl rs 0]))
 [D.tup []] fun outs => (pickD z (sl outs 0) (D.v (Value.bool false))).bind fun z => some (Out.ret [z] [])) ((bin BinOp.eql false [] z (D.v (Value.int IntKind.i64 2))).bind fun z_3 => ifD z_3 (ifD z_3
 ((liveD y (D.ref 0 2)).bind fun z => ((atD y z).bind (takeD false 1)).bind fun z => (bin BinOp.eql false [] z (D.v (Value.string { data := { toList := [] } }))).bind fun z =>
 (gate D.bad z true (liveD y (D.ref 0 3))).bind fun z_4 => (gate (D.tup []) z true ((atD y z_4).bind (takeD false 1))).bind fun z_5 => (gate (D.tup []) z true
 (bin BinOp.eql false [] z_5 (D.v (Value.int IntKind.i64 0)))).bind fun z_6 => (pickD z z_6 (D.v (Value.bool false))).bind fun z => some (Out.ret [z] [])) (some (Out.ret [D.v (Value.bool false)] [])))
 ((bin BinOp.eql false [] z (D.v (Value.int IntKind.i64 4))).bind fun z_4 => ifD z_4 (ifD z_4 ((liveD y (D.ref 0 2)).bind fun z => ((atD y z).bind (takeD false 1)).bind fun z => (bin BinOp.eql false [] z
 (D.v (Value.string { data := { toList := [] } }))).bind fun z => (gate D.bad z true (liveD y (D.ref 0 3))).bind fun z_5 => (gate (D.tup []) z true ((atD y z_5).bind (takeD false 1))).bind fun z_6 =>
 (gate (D.tup []) z true (bin BinOp.eql false [] z_6 (D.v (Value.int IntKind.i64 0)))).bind fun z_7 => (pickD z z_7 (D.v (Value.bool false))).bind fun z => some (Out.ret [z] []))
 (some (Out.ret [D.v (Value.bool false)] []))) ((bin BinOp.eql false [] z (D.v (Value.int IntKind.i64 5))).bind fun z_5 => ifD z_5 (ifD z_5 ((liveD y (D.ref 0 2)).bind fun z =>
 ((atD y z).bind (takeD false 1)).bind fun z => (bin BinOp.eql false [] z (D.v (Value.string { data := { toList := [] } }))).bind fun z => (gate D.bad z true (liveD y (D.ref 0 3))).bind fun z_6 =>
 (gate (D.tup []) z true ((atD y z_6).bind (takeD false 1))).bind fun z_7 => (gate (D.tup []) z true (bin BinOp.eql false [] z_7 (D.v (Value.int IntKind.i64 0)))).bind fun z_8 =>
 (pickD z z_8 (D.v (Value.bool false))).bind fun z => some (Out.ret [z] [])) (some (Out.ret [D.v (Value.bool false)] []))) ((bin BinOp.eql false [] z (D.v (Value.int IntKind.i64 6))).bind fun z => ifD z
 ((liveD y (D.ref 0 2)).bind fun z => ((atD y z).bind (takeD false 1)).bind fun z => (bin BinOp.eql false [] z (D.v (Value.string { data := { toList := [] } }))).bind fun z =>
 (gate D.bad z true (liveD y (D.ref 0 3))).bind fun z_6 => (gate (D.tup []) z true ((atD y z_6).bind (takeD false 1))).bind fun z_7 => (gate (D.tup []) z true (bin BinOp.eql false [] z_7
 (D.v (Value.int IntKind.i64 0)))).bind fun z_8 => (pickD z z_8 (D.v (Value.bool false))).bind fun z => some (Out.ret [z] [])) (some (Out.ret [D.v (Value.bool false)] []))))))))) := by kernel_rfl
theorem t_impl_isWord (x0 : D) : F_impl_isWord [x0] =
  (callK (F_impl_areLetters [x0, D.v (Value.int IntKind.i64 1), D.v (Value.int IntKind.i64 16)]) fun rs _u => some (Out.ret [sl rs 0] [])) := by kernel_rfl
theorem t_impl_sortsOf (x0 x1 : D) : F_impl_sortsOf [x0, x1] =
  ((mkArr 1 []).bind fun a => (loopC (fun s => (lenD true (sl s 1)).bind fun z => (bin BinOp.gtr false [] z (D.v (Value.int IntKind.i64 0))).bind fun z => ifD z ((lenD false (sl s 0)).bind fun z => (loopC (fun s =>
 (bin BinOp.lss false [] (sl s 6) (sl s 5)).bind fun z => ifD z ((Option.map D.ptr (elemD 2 (sl s 4) (sl s 6))).bind fun z => ((ldD true 2 z).bind chkV).bind fun z => (stD 2 (D.agg
 [D.v (Value.string { data := { toList := [] } }), D.v (Value.int IntKind.i64 0)]) (D.ref 0 0) z).bind fun b => (liveD b (D.ref 0 0)).bind fun z => ((atD b z).bind (takeD false 1)).bind fun z =>
 callK (F_strings_HasPrefix [sl s 1, z]) fun rs _u => (gate (D.tup []) (sl rs 0) true (some (sl s 3))).bind fun z => (gate (D.tup []) (sl rs 0) true (bin BinOp.lss false [] z (D.v (Value.int IntKind.i64 0)))).bind fun z =>
 (gate (D.tup []) (sl rs 0) true (some z)).bind fun z => (gate D.bad z false (liveD b (D.ref 0 0))).bind fun z_1 => (gate (D.tup []) z false ((atD b z_1).bind (takeD false 1))).bind fun z_2 =>
 (gate (D.tup []) z false (lenD true z_2)).bind fun z_3 => (gate (D.tup []) z false (some (sl s 0))).bind fun z_4 => (gate (D.tup []) z false (some (sl s 3))).bind fun z_5 => (gate (D.tup []) z false
 (Option.map D.ptr (elemD 2 z_4 z_5))).bind fun z_6 => (gate (D.tup []) z false (offD 0 z_6)).bind fun z_7 => (gate (D.tup []) z false ((ldD false 1 z_7).bind chkV)).bind fun z_8 =>
 (gate (D.tup []) z false (lenD true z_8)).bind fun z_9 => (gate (D.tup []) z false (bin BinOp.gtr false [] z_3 z_9)).bind fun z_10 => (gate (D.tup []) (sl rs 0) true (pickD z (D.v (Value.bool true)) z_10)).bind fun z =>
 (pickD (sl rs 0) z (D.v (Value.bool false))).bind fun z => ifD z ((bin BinOp.add false [] (sl s 6) (D.v (Value.int IntKind.i64 1))).bind fun z => some (Out.nrm [sl s 0, sl s 1, sl s 2, sl s 6, sl s 4, sl s 5, z]))
 ((bin BinOp.add false [] (sl s 6) (D.v (Value.int IntKind.i64 1))).bind fun z => some (Out.nrm [sl s 0, sl s 1, sl s 2, sl s 3, sl s 4, sl s 5, z]))) (some (Out.ext 2 [sl s 0, sl s 1, sl s 2, sl s 3])))
 [sl s 0, sl s 1, sl s 2, D.v (Value.int IntKind.i64 (-1)), sl s 0, z, D.v (Value.int IntKind.i64 0)]).bind fun o => outK o (fun i s => ifN (i.beq 2)
 ((bin BinOp.lss false [] (sl s 3) (D.v (Value.int IntKind.i64 0))).bind fun z => ifD z ((mkArr 1 []).bind fun a => some (Out.ret [a, D.v (Value.bool false)] [])) ((mkArr 1 [sl s 3]).bind fun a => (chkA a).bind fun b =>
 (appD 1 8 (sl s 2) b).bind fun y => (Option.map D.ptr (elemD 2 (sl s 0) (sl s 3))).bind fun z => (offD 0 z).bind fun z => ((ldD false 1 z).bind chkV).bind fun z => (lenD true z).bind fun z =>
 (sliceHi true 0 (sl s 1) z).bind fun z => some (Out.nrm [sl s 0, z, y]))) (ifN (i.beq 1) (some (Out.nrm [sl s 0, sl s 1, sl s 2])) (some (Out.ext i [sl s 2])))) fun a b => some (Out.ret a b)) (some (Out.ext 0 [sl s 2])))
 [x0, x1, a]).bind fun o => outK o (fun i s => ifN (i.beq 0) (some (Out.ret [sl s 0, D.v (Value.bool true)] [])) none) fun a b => some (Out.ret a b)) := by kernel_rfl
theorem t_internal_stringslite_HasPrefix (x0 x1 : D) : F_internal_stringslite_HasPrefix [x0, x1] =
  ((lenD true x0).bind fun z => (lenD true x1).bind fun z_1 => (bin BinOp.geq false [] z z_1).bind fun z => (gate (D.tup []) z true (some x0)).bind fun z_2 => (gate (D.tup []) z true (some x1)).bind fun z_3 =>
 (gate (D.tup []) z true (lenD true z_3)).bind fun z_4 => (gate (D.tup []) z true (sliceD true 0 z_2 (D.v (Value.int IntKind.i64 0)) z_4)).bind fun z_5 => (gate (D.tup []) z true (some x1)).bind fun z_6 =>
 (gate (D.tup []) z true (bin BinOp.eql false [] z_5 z_6)).bind fun z_7 => (pickD z z_7 (D.v (Value.bool false))).bind fun z => some (Out.ret [z] [])) := by kernel_rfl
theorem t_laws_eqShopStep (x0 x1 : D) : F_laws_eqShopStep [x0, x1] =
  ((boxD 4 x0).bind fun y => (boxD 4 x1).bind fun y_1 => (liveD y (D.ref 0 0)).bind fun z => ((atD y z).bind (takeD false 1)).bind fun z => (liveD y_1 (D.ref 0 0)).bind fun z_1 =>
 ((atD y_1 z_1).bind (takeD false 1)).bind fun z_2 => (bin BinOp.neq false [] z z_2).bind fun z => ifD z (some (Out.ret [D.v (Value.bool false)] [])) ((liveD y (D.ref 0 1)).bind fun z =>
 ((atD y z).bind (takeD false 1)).bind fun z => (liveD y_1 (D.ref 0 1)).bind fun z_3 => ((atD y_1 z_3).bind (takeD false 1)).bind fun z_4 => (bin BinOp.neq false [] z z_4).bind fun z =>
 ifD z (some (Out.ret [D.v (Value.bool false)] [])) ((liveD y (D.ref 0 2)).bind fun z => ((atD y z).bind (takeD false 1)).bind fun z => (liveD y_1 (D.ref 0 2)).bind fun z_5 =>
 ((atD y_1 z_5).bind (takeD false 1)).bind fun z_6 => (bin BinOp.neq false [] z z_6).bind fun z => ifD z (some (Out.ret [D.v (Value.bool false)] [])) ((liveD y (D.ref 0 3)).bind fun z =>
 ((atD y z).bind (takeD false 1)).bind fun z => (liveD y_1 (D.ref 0 3)).bind fun z_7 => ((atD y_1 z_7).bind (takeD false 1)).bind fun z_8 => (bin BinOp.neq false [] z z_8).bind fun z =>
 ifD z (some (Out.ret [D.v (Value.bool false)] [])) (some (Out.ret [D.v (Value.bool true)] [])))))) := by kernel_rfl
theorem t_laws_eqShopStepS (x0 x1 : D) : F_laws_eqShopStepS [x0, x1] =
  ((lenD false x0).bind fun z => (lenD false x1).bind fun z_1 => (bin BinOp.neq false [] z z_1).bind fun z => ifD z (some (Out.ret [D.v (Value.bool false)] [])) ((loopC (fun s => (lenD false (sl s 0)).bind fun z =>
 (bin BinOp.lss false [] (sl s 2) z).bind fun z => ifD z ((Option.map D.ptr (elemD 4 (sl s 0) (sl s 2))).bind fun z => ((ldD true 4 z).bind chkV).bind fun z => (Option.map D.ptr (elemD 4 (sl s 1) (sl s 2))).bind fun z_2 =>
 ((ldD true 4 z_2).bind chkV).bind fun z_3 => callK (F_laws_eqShopStep [z, z_3]) fun rs _u => (un UnOp.not (sl rs 0)).bind fun z => ifD z (some (Out.ret [D.v (Value.bool false)] []))
 ((bin BinOp.add false [] (sl s 2) (D.v (Value.int IntKind.i64 1))).bind fun z => some (Out.nrm [sl s 0, sl s 1, z]))) (some (Out.ext 0 []))) [x0, x1, D.v (Value.int IntKind.i64 0)]).bind fun o =>
 outK o (fun i _u => ifN (i.beq 0) (some (Out.ret [D.v (Value.bool true)] [])) none) fun a b => some (Out.ret a b))) := by kernel_rfl
theorem t_laws_heldFormeS (x0 x1 : D) : F_laws_heldFormeS [x0, x1] =
  ((loopC (fun s => (lenD false (sl s 0)).bind fun z => (bin BinOp.lss false [] (sl s 2) z).bind fun z => ifD z ((Option.map D.ptr (elemD 4 (sl s 0) (sl s 2))).bind fun z => (offD 0 z).bind fun z =>
 ((ldD false 1 z).bind chkV).bind fun z => (bin BinOp.neq false [] z (sl s 1)).bind fun z => ifD z (some (Out.ret [D.v (Value.int IntKind.i64 (-1))] []))
 ((bin BinOp.add false [] (sl s 1) (D.v (Value.int IntKind.i64 1))).bind fun z => (Option.map D.ptr (elemD 4 (sl s 0) (sl s 2))).bind fun z_1 => (offD 1 z_1).bind fun z_2 => (ldD false 1 z_2).bind fun z_3 =>
 callK (F_laws_heldStringS [z_3, z]) fun rs _u => (bin BinOp.lss false [] (sl rs 0) (D.v (Value.int IntKind.i64 0))).bind fun z => ifD z (some (Out.ret [D.v (Value.int IntKind.i64 (-1))] []))
 ((Option.map D.ptr (elemD 4 (sl s 0) (sl s 2))).bind fun z => (offD 2 z).bind fun z => ((ldD false 1 z).bind chkV).bind fun z => (bin BinOp.rem false [] (sl rs 0) (D.v (Value.int IntKind.i64 3))).bind fun z_4 =>
 (bin BinOp.eql false [] z_4 (D.v (Value.int IntKind.i64 0))).bind fun z_5 => (bin BinOp.neq true [] z z_5).bind fun z => ifD z (some (Out.ret [D.v (Value.int IntKind.i64 (-1))] [])) ((bin BinOp.add false [] (sl rs 0)
 (D.v (Value.int IntKind.i64 1))).bind fun z => (Option.map D.ptr (elemD 4 (sl s 0) (sl s 2))).bind fun z_6 => (offD 3 z_6).bind fun z_7 => ((ldD false 1 z_7).bind chkV).bind fun z_8 =>
 (bin BinOp.neq false [] z_8 z).bind fun z_9 => ifD z_9 (some (Out.ret [D.v (Value.int IntKind.i64 (-1))] [])) ((bin BinOp.add false [] z (D.v (Value.int IntKind.i64 1))).bind fun z => (bin BinOp.add false [] (sl s 2)
 (D.v (Value.int IntKind.i64 1))).bind fun z_10 => some (Out.nrm [sl s 0, z, z_10])))))) (some (Out.ext 0 [sl s 1]))) [x0, x1, D.v (Value.int IntKind.i64 0)]).bind
 fun o => outK o (fun i s => ifN (i.beq 0) (some (Out.ret [sl s 0] [])) none) fun a b => some (Out.ret a b)) := by kernel_rfl
theorem t_laws_heldShop (x0 x1 : D) : F_laws_heldShop [x0, x1] =
  ((boxD 4 x0).bind fun y => (liveD y (D.ref 0 0)).bind fun z => ((atD y z).bind (takeD false 1)).bind fun z => callK (F_laws_heldBoxS [z, x1]) fun rs _u =>
 (bin BinOp.lss false [] (sl rs 0) (D.v (Value.int IntKind.i64 0))).bind fun z => ifD z (some (Out.ret [D.v (Value.int IntKind.i64 (-1))] [])) ((liveD y (D.ref 0 1)).bind fun z =>
 ((atD y z).bind (takeD false 1)).bind fun z => callK (F_laws_heldFormeS [z, sl rs 0]) fun rs _u => (bin BinOp.lss false [] (sl rs 0) (D.v (Value.int IntKind.i64 0))).bind fun z =>
 ifD z (some (Out.ret [D.v (Value.int IntKind.i64 (-1))] [])) (some (Out.ret [sl rs 0] [])))) := by kernel_rfl
theorem t_laws_markShopStepS (x0 x1 : D) : F_laws_markShopStepS [x0, x1] =
  ((loopC (fun s => (liveD (sl s 0) (D.ref 0 0)).bind fun z => ((liveD z (sl s 0)).bind (lenD false)).bind fun z => (bin BinOp.lss false [] (sl s 2) z).bind fun z => ifD z ((liveD (sl s 0) (D.ref 0 0)).bind fun z =>
 ((liveD z (sl s 0)).bind fun b => refI 4 b (sl s 2)).bind fun z => (refAdd 0 z).bind fun z => (stD 1 (sl s 0) z (sl s 1)).bind fun b => (bin BinOp.add false [] (sl s 1) (D.v (Value.int IntKind.i64 1))).bind fun z =>
 (liveD b (D.ref 0 0)).bind fun z_1 => ((liveD z_1 b).bind fun b => refI 4 b (sl s 2)).bind fun z_2 => (refAdd 1 z_2).bind fun z_3 => (stD 1 b z_3 z).bind fun b =>
 (bin BinOp.add false [] z (D.v (Value.int IntKind.i64 1))).bind fun z => (liveD b (D.ref 0 0)).bind fun z_4 => callK (F_laws_markText [z]) fun rs _u => ((liveD z_4 b).bind fun b => refI 4 b (sl s 2)).bind fun z_5 =>
 (refAdd 2 z_5).bind fun z_6 => (stD 1 b z_6 (sl rs 0)).bind fun b => (bin BinOp.add false [] z (D.v (Value.int IntKind.i64 1))).bind fun z => (liveD b (D.ref 0 0)).bind fun z_7 =>
 ((liveD z_7 b).bind fun b => refI 4 b (sl s 2)).bind fun z_8 => (refAdd 3 z_8).bind fun z_9 => (stD 1 b z_9 z).bind fun b => (bin BinOp.add false [] z (D.v (Value.int IntKind.i64 1))).bind fun z =>
 (bin BinOp.add false [] (sl s 2) (D.v (Value.int IntKind.i64 1))).bind fun z_10 => some (Out.nrm [b, z, z_10])) (some (Out.ext 0 [sl s 0, sl s 1]))) [x0, x1, D.v (Value.int IntKind.i64 0)]).bind fun o =>
 outK o (fun i s => ifN (i.beq 0) ((liveD (sl s 0) (sl s 0)).bind fun _u => some (Out.ret [sl s 1] [sl s 0])) none) fun a b => some (Out.ret a b)) := by kernel_rfl
theorem t_laws_szShopStep (x0 x1 : D) : F_laws_szShopStep [x0, x1] =
  ((boxD 4 x0).bind fun y => (liveD y (D.ref 0 2)).bind fun z => ((atD y z).bind (takeD false 1)).bind fun z => (lenD true z).bind fun z => (bin BinOp.sub false [] x1 z).bind fun z =>
 (bin BinOp.lss false [] z (D.v (Value.int IntKind.i64 0))).bind fun z_1 => ifD z_1 (some (Out.ret [D.v (Value.int IntKind.i64 (-1))] [])) (some (Out.ret [z] []))) := by kernel_rfl
theorem t_laws_szShopStepS (x0 x1 : D) : F_laws_szShopStepS [x0, x1] =
  ((lenD false x0).bind fun z => (bin BinOp.sub false [] x1 z).bind fun z => (bin BinOp.lss false [] z (D.v (Value.int IntKind.i64 0))).bind fun z_1 => ifD z_1 (some (Out.ret [D.v (Value.int IntKind.i64 (-1))] [])) ((loopC
 (fun s => (lenD false (sl s 0)).bind fun z => (bin BinOp.lss false [] (sl s 2) z).bind fun z => ifD z ((Option.map D.ptr (elemD 4 (sl s 0) (sl s 2))).bind fun z => ((ldD true 4 z).bind chkV).bind fun z =>
 callK (F_laws_szShopStep [z, sl s 1]) fun rs _u => (bin BinOp.lss false [] (sl rs 0) (D.v (Value.int IntKind.i64 0))).bind fun z => ifD z (some (Out.ret [D.v (Value.int IntKind.i64 (-1))] []))
 ((bin BinOp.add false [] (sl s 2) (D.v (Value.int IntKind.i64 1))).bind fun z => some (Out.nrm [sl s 0, sl rs 0, z]))) (some (Out.ext 0 [sl s 1]))) [x0, z, D.v (Value.int IntKind.i64 0)]).bind
 fun o => outK o (fun i s => ifN (i.beq 0) (some (Out.ret [sl s 0] [])) none) fun a b => some (Out.ret a b))) := by kernel_rfl
theorem t_laws_toShopStep (x0 : D) : F_laws_toShopStep [x0] =
  ((boxD 4 x0).bind fun y => (liveD y (D.ref 0 0)).bind fun z => ((atD y z).bind (takeD false 1)).bind fun z => (liveD (D.agg [D.v (Value.int IntKind.i64 0), D.v (Value.int IntKind.i64 0),
 D.v (Value.string { data := { toList := [] } }), D.v (Value.int IntKind.i64 0)]) (D.ref 0 0)).bind fun z_1 => (stD 1 (D.agg [D.v (Value.int IntKind.i64 0), D.v (Value.int IntKind.i64 0),
 D.v (Value.string { data := { toList := [] } }), D.v (Value.int IntKind.i64 0)]) z_1 z).bind fun b => (liveD y (D.ref 0 1)).bind fun z => ((atD y z).bind (takeD false 1)).bind fun z =>
 (liveD b (D.ref 0 1)).bind fun z_2 => (stD 1 b z_2 z).bind fun b => (liveD y (D.ref 0 2)).bind fun z => ((atD y z).bind (takeD false 1)).bind fun z => (liveD b (D.ref 0 2)).bind fun z_3 => (stD 1 b z_3 z).bind fun b =>
 (liveD y (D.ref 0 3)).bind fun z => ((atD y z).bind (takeD false 1)).bind fun z => (liveD b (D.ref 0 3)).bind fun z_4 => (stD 1 b z_4 z).bind fun b => (fldD true 4 0 b).bind fun z => (stD 4 (D.agg
 [D.v (Value.int IntKind.i64 0), D.v (Value.int IntKind.i64 0), D.v (Value.string { data := { toList := [] } }), D.v (Value.int IntKind.i64 0)]) (D.ref 0 0) z).bind
 fun b => (fldD true 4 0 b).bind fun y => some (Out.ret [y] [])) := by kernel_rfl
theorem t_laws_toShopStepS (x0 : D) : F_laws_toShopStepS [x0] =
  ((lenD false x0).bind fun z => (makD 4 40 (D.agg [D.v (Value.int IntKind.i64 0), D.v (Value.int IntKind.i64 0), D.v (Value.string { data := { toList := [] } }), D.v (Value.int IntKind.i64 0)]) z z).bind fun y => (loopC
 (fun s => (lenD false (sl s 0)).bind fun z => (bin BinOp.lss false [] (sl s 2) z).bind fun z => ifD z ((liveD (sl s 1) (D.ref 0 0)).bind fun z => (Option.map D.ptr (elemD 4 (sl s 0) (sl s 2))).bind fun z_1 =>
 ((ldD true 4 z_1).bind chkV).bind fun z_2 => callK (F_laws_toShopStep [z_2]) fun rs _u => ((liveD z (sl s 1)).bind fun b => refI 4 b (sl s 2)).bind fun z => (stD 4 (sl s 1) z (sl rs 0)).bind fun b =>
 (bin BinOp.add false [] (sl s 2) (D.v (Value.int IntKind.i64 1))).bind fun z => some (Out.nrm [sl s 0, b, z])) (some (Out.ext 0 [sl s 1]))) [x0, y, D.v (Value.int IntKind.i64 0)]).bind
 fun o => outK o (fun i s => ifN (i.beq 0) (some (Out.ret [sl s 0] [])) none) fun a b => some (Out.ret a b)) := by kernel_rfl
theorem t_spec_l1Least (x0 x1 : D) : F_spec_l1Least [x0, x1] =
  ((bin BinOp.lss false [] x0 x1).bind fun z => ifD z (some (Out.ret [x0] [])) (some (Out.ret [x1] []))) := by kernel_rfl
theorem t_spec_shCodes (x0 x1 : D) : F_spec_shCodes [x0, x1] =
  ((lenD false x0).bind fun z => (loopC (fun s => (bin BinOp.lss false [] (sl s 4) (sl s 3)).bind fun z => ifD z ((Option.map D.ptr (elemD 4 (sl s 2) (sl s 4))).bind fun z => ((ldD true 4 z).bind chkV).bind fun z => (stD 4
 (D.agg [D.v (Value.string { data := { toList := [] } }), D.v (Value.int IntKind.i64 0), D.v (Value.int IntKind.i64 0), D.v (Value.int IntKind.i64 0)]) (D.ref 0 0) z).bind fun b => (liveD b (D.ref 0 0)).bind fun z =>
 ((atD b z).bind (takeD false 1)).bind fun z => (bldD [(0, 1), (1, 1)] [D.v (Value.string { data := { toList := [] } }), D.v (Value.int IntKind.i64 0)] [z, D.v (Value.int IntKind.i64 1)]).bind fun z =>
 (mkArr 2 [z]).bind fun a => (chkA a).bind fun b => (appD 2 24 (sl s 1) b).bind fun y => (bin BinOp.add false [] (sl s 4) (D.v (Value.int IntKind.i64 1))).bind fun z => some (Out.nrm [sl s 0, y, sl s 2, sl s 3, z]))
 (some (Out.ext 0 [sl s 0, sl s 1]))) [x1, D.arr 2 [], x0, z, D.v (Value.int IntKind.i64 0)]).bind fun o => outK o (fun i s => ifN (i.beq 0) ((liveD (sl s 1) (D.ref 0 0)).bind fun z => (liveD z (sl s 1)).bind fun i =>
 callK (F_spec_tySet [i, sl s 0]) fun rs _u => (tupAt (D.tup rs) 0).bind fun y => (tupAt (tupCut (D.tup rs) 0) 1).bind fun z => (un UnOp.not z).bind fun z => ifD z (some (Out.ret [D.arr 1 [], D.v (Value.bool false)] []))
 ((lenD false y).bind fun z => (loopC (fun s => (bin BinOp.lss false [] (sl s 4) (sl s 3)).bind fun z => ifD z ((Option.map D.ptr (elemD 1 (sl s 2) (sl s 4))).bind fun z => ((ldD false 1 z).bind chkV).bind fun z =>
 (liveD (sl s 0) (D.ref 0 0)).bind fun z_1 => ((liveD z_1 (sl s 0)).bind fun b => refI 2 b z).bind fun z => (refAdd 0 z).bind fun z => ((atD (sl s 0) z).bind (takeD false 1)).bind fun z => (mkArr 1 [z]).bind fun a =>
 (chkA a).bind fun b => (appD 1 16 (sl s 1) b).bind fun y => (bin BinOp.add false [] (sl s 4) (D.v (Value.int IntKind.i64 1))).bind fun z => some (Out.nrm [sl s 0, y, sl s 2, sl s 3, z])) (some (Out.ext 2 [sl s 1])))
 [sl s 1, D.arr 1 [], y, z, D.v (Value.int IntKind.i64 0)]).bind fun o => outK o (fun i s => ifN (i.beq 2) (some (Out.ret [sl s 0, D.v (Value.bool true)] [])) none) fun a b => some (Out.ret a b))) none)
 fun a b => some (Out.ret a b)) := by kernel_rfl
theorem t_spec_shFind (x0 x1 : D) : F_spec_shFind [x0, x1] =
  ((boxD 4 x0).bind fun y => (liveD y (D.ref 0 1)).bind fun z => ((atD y z).bind (takeD false 1)).bind fun z => (lenD false z).bind fun z_1 => (loopC (fun s => (bin BinOp.lss false [] (sl s 3) (sl s 2)).bind fun z => ifD z
 ((Option.map D.ptr (elemD 4 (sl s 1) (sl s 3))).bind fun z => (ldD true 4 z).bind fun z => (stD 4 (D.agg [D.v (Value.int IntKind.i64 0), D.arr 1 [], D.v (Value.bool false), D.v (Value.int IntKind.i64 0)])
 (D.ref 0 0) z).bind fun b => (liveD b (D.ref 0 0)).bind fun z => (((atD b z).bind (takeD false 1)).bind chkV).bind fun z => (bin BinOp.eql false [] z (sl s 0)).bind fun z => ifD z (some (Out.ret [sl s 3] []))
 ((bin BinOp.add false [] (sl s 3) (D.v (Value.int IntKind.i64 1))).bind fun z => some (Out.nrm [sl s 0, sl s 1, sl s 2, z]))) (some (Out.ext 0 []))) [x1, z, z_1, D.v (Value.int IntKind.i64 0)]).bind fun o =>
 outK o (fun i _u => ifN (i.beq 0) (some (Out.ret [D.v (Value.int IntKind.i64 (-1))] [])) none) fun a b => some (Out.ret a b)) := by kernel_rfl
theorem t_spec_shStep (x0 : D) : F_spec_shStep [x0] =
  ((boxD 4 x0).bind fun y => (liveD y (D.ref 0 1)).bind fun z => ((atD y z).bind (takeD false 1)).bind fun z => callK (F_spec_l1In [z, D.v (Value.int IntKind.i64 1), D.v (Value.int IntKind.i64 99)]) fun rs _u =>
 (un UnOp.not (sl rs 0)).bind fun z => ifD z (some (Out.ret [D.v (Value.bool false)] [])) ((liveD y (D.ref 0 0)).bind fun z => ((atD y z).bind (takeD false 1)).bind fun z =>
 (bin BinOp.eql false [] z (D.v (Value.int IntKind.i64 1))).bind fun z_1 => ifD z_1 ((liveD y (D.ref 0 2)).bind fun z => ((atD y z).bind (takeD false 1)).bind fun z => callK (F_spec_tyWord [z]) fun rs _u =>
 (gate D.bad (sl rs 0) true (liveD y (D.ref 0 3))).bind fun z => (gate (D.tup []) (sl rs 0) true ((atD y z).bind (takeD false 1))).bind fun z => (gate (D.tup []) (sl rs 0) true
 (bin BinOp.eql false [] z (D.v (Value.int IntKind.i64 0)))).bind fun z => (pickD (sl rs 0) z (D.v (Value.bool false))).bind fun z => some (Out.ret [z] []))
 ((bin BinOp.eql false [] z (D.v (Value.int IntKind.i64 3))).bind fun z_2 => ifD z_2 ((liveD y (D.ref 0 2)).bind fun z => ((atD y z).bind (takeD false 1)).bind fun z =>
 (bin BinOp.eql false [] z (D.v (Value.string { data := { toList := [] } }))).bind fun z => (gate D.bad z true (liveD y (D.ref 0 3))).bind fun z_3 =>
 (gate (D.tup []) z true ((atD y z_3).bind (takeD false 1))).bind fun z_4 => gateC z true (callK (F_spec_l1In [z_4, D.v (Value.int IntKind.i64 1), D.v (Value.int IntKind.i64 1000)]) fun rs _u => some (Out.nrm [sl rs 0]))
 [D.tup []] fun outs => (pickD z (sl outs 0) (D.v (Value.bool false))).bind fun z => some (Out.ret [z] [])) ((bin BinOp.eql false [] z (D.v (Value.int IntKind.i64 2))).bind fun z_3 => ifD z_3 (ifD z_3
 ((liveD y (D.ref 0 2)).bind fun z => ((atD y z).bind (takeD false 1)).bind fun z => (bin BinOp.eql false [] z (D.v (Value.string { data := { toList := [] } }))).bind fun z =>
 (gate D.bad z true (liveD y (D.ref 0 3))).bind fun z_4 => (gate (D.tup []) z true ((atD y z_4).bind (takeD false 1))).bind fun z_5 => (gate (D.tup []) z true
 (bin BinOp.eql false [] z_5 (D.v (Value.int IntKind.i64 0)))).bind fun z_6 => (pickD z z_6 (D.v (Value.bool false))).bind fun z => some (Out.ret [z] [])) (some (Out.ret [D.v (Value.bool false)] [])))
 ((bin BinOp.eql false [] z (D.v (Value.int IntKind.i64 4))).bind fun z_4 => ifD z_4 (ifD z_4 ((liveD y (D.ref 0 2)).bind fun z => ((atD y z).bind (takeD false 1)).bind fun z => (bin BinOp.eql false [] z
 (D.v (Value.string { data := { toList := [] } }))).bind fun z => (gate D.bad z true (liveD y (D.ref 0 3))).bind fun z_5 => (gate (D.tup []) z true ((atD y z_5).bind (takeD false 1))).bind fun z_6 =>
 (gate (D.tup []) z true (bin BinOp.eql false [] z_6 (D.v (Value.int IntKind.i64 0)))).bind fun z_7 => (pickD z z_7 (D.v (Value.bool false))).bind fun z => some (Out.ret [z] []))
 (some (Out.ret [D.v (Value.bool false)] []))) ((bin BinOp.eql false [] z (D.v (Value.int IntKind.i64 5))).bind fun z_5 => ifD z_5 (ifD z_5 ((liveD y (D.ref 0 2)).bind fun z =>
 ((atD y z).bind (takeD false 1)).bind fun z => (bin BinOp.eql false [] z (D.v (Value.string { data := { toList := [] } }))).bind fun z => (gate D.bad z true (liveD y (D.ref 0 3))).bind fun z_6 =>
 (gate (D.tup []) z true ((atD y z_6).bind (takeD false 1))).bind fun z_7 => (gate (D.tup []) z true (bin BinOp.eql false [] z_7 (D.v (Value.int IntKind.i64 0)))).bind fun z_8 =>
 (pickD z z_8 (D.v (Value.bool false))).bind fun z => some (Out.ret [z] [])) (some (Out.ret [D.v (Value.bool false)] []))) ((bin BinOp.eql false [] z (D.v (Value.int IntKind.i64 6))).bind fun z => ifD z
 ((liveD y (D.ref 0 2)).bind fun z => ((atD y z).bind (takeD false 1)).bind fun z => (bin BinOp.eql false [] z (D.v (Value.string { data := { toList := [] } }))).bind fun z =>
 (gate D.bad z true (liveD y (D.ref 0 3))).bind fun z_6 => (gate (D.tup []) z true ((atD y z_6).bind (takeD false 1))).bind fun z_7 => (gate (D.tup []) z true (bin BinOp.eql false [] z_7
 (D.v (Value.int IntKind.i64 0)))).bind fun z_8 => (pickD z z_8 (D.v (Value.bool false))).bind fun z => some (Out.ret [z] [])) (some (Out.ret [D.v (Value.bool false)] []))))))))) := by kernel_rfl
theorem t_spec_tyFind (x0 x1 : D) : F_spec_tyFind [x0, x1] =
  ((lenD false x0).bind fun z => (loopC (fun s => (bin BinOp.lss false [] (sl s 3) (sl s 2)).bind fun z => ifD z ((Option.map D.ptr (elemD 2 (sl s 1) (sl s 3))).bind fun z => ((ldD true 2 z).bind chkV).bind fun z =>
 (stD 2 (D.agg [D.v (Value.string { data := { toList := [] } }), D.v (Value.int IntKind.i64 0)]) (D.ref 0 0) z).bind fun b => (liveD b (D.ref 0 0)).bind fun z => ((atD b z).bind (takeD false 1)).bind fun z =>
 (bin BinOp.eql false [] z (sl s 0)).bind fun z => ifD z (some (Out.ret [sl s 3] [])) ((bin BinOp.add false [] (sl s 3) (D.v (Value.int IntKind.i64 1))).bind fun z => some (Out.nrm [sl s 0, sl s 1, sl s 2, z])))
 (some (Out.ext 0 []))) [x1, x0, z, D.v (Value.int IntKind.i64 0)]).bind fun o => outK o (fun i _u => ifN (i.beq 0) (some (Out.ret [D.v (Value.int IntKind.i64 (-1))] [])) none) fun a b => some (Out.ret a b)) := by kernel_rfl
theorem t_spec_tySet (x0 x1 : D) : F_spec_tySet [x0, x1] =
  ((loopC (fun s => (lenD true (sl s 1)).bind fun z => (bin BinOp.lss false [] (sl s 3) z).bind fun z => ifD z ((lenD true (sl s 1)).bind fun z => (bin BinOp.sub false [] z (sl s 3)).bind fun z =>
 callK (F_spec_l1Least [D.v (Value.int IntKind.i64 3), z]) fun rs _u => (loopC (fun s => (bin BinOp.gtr false [] (sl s 5) (D.v (Value.int IntKind.i64 0))).bind fun z =>
 (gate (D.tup []) z true (some (sl s 4))).bind fun z_1 => (gate (D.tup []) z true (bin BinOp.lss false [] z_1 (D.v (Value.int IntKind.i64 0)))).bind fun z_2 => (pickD z z_2 (D.v (Value.bool false))).bind fun z => ifD z
 ((bin BinOp.add false [] (sl s 3) (sl s 5)).bind fun z => (sliceD true 0 (sl s 1) (sl s 3) z).bind fun z => callK (F_spec_tyFind [sl s 0, z]) fun rs _u =>
 (bin BinOp.sub false [] (sl s 5) (D.v (Value.int IntKind.i64 1))).bind fun z => some (Out.nrm [sl s 0, sl s 1, sl s 2, sl s 3, sl rs 0, z])) (some (Out.ext 2 [sl s 0, sl s 1, sl s 2, sl s 3, sl s 4])))
 [sl s 0, sl s 1, sl s 2, sl s 3, D.v (Value.int IntKind.i64 (-1)), sl rs 0]).bind fun o => outK o (fun i s => ifN (i.beq 2) ((bin BinOp.lss false [] (sl s 4) (D.v (Value.int IntKind.i64 0))).bind fun z =>
 ifD z (some (Out.ret [D.arr 1 [], D.v (Value.bool false)] [])) ((mkArr 1 [sl s 4]).bind fun a => (chkA a).bind fun b => (appD 1 8 (sl s 2) b).bind fun y => (Option.map D.ptr (elemD 2 (sl s 0) (sl s 4))).bind fun z =>
 (offD 0 z).bind fun z => ((ldD false 1 z).bind chkV).bind fun z => (lenD true z).bind fun z => (bin BinOp.add false [] (sl s 3) z).bind fun z => some (Out.nrm [sl s 0, sl s 1, y, z])))
 (ifN (i.beq 1) (some (Out.nrm [sl s 0, sl s 1, sl s 2, sl s 3])) (some (Out.ext i [sl s 2])))) fun a b => some (Out.ret a b)) (some (Out.ext 0 [sl s 2]))) [x0, x1, D.arr 1 [], D.v (Value.int IntKind.i64 0)]).bind fun o =>
 outK o (fun i s => ifN (i.beq 0) (some (Out.ret [sl s 0, D.v (Value.bool true)] [])) none) fun a b => some (Out.ret a b)) := by kernel_rfl
theorem t_spec_tyWord (x0 : D) : F_spec_tyWord [x0] =
  (callK (F_spec_tyLetters [x0, D.v (Value.int IntKind.i64 16)]) fun rs _u => some (Out.ret [sl rs 0] [])) := by kernel_rfl
theorem t_strings_HasPrefix (x0 x1 : D) : F_strings_HasPrefix [x0, x1] =
  (callK (F_internal_stringslite_HasPrefix [x0, x1]) fun rs _u => some (Out.ret [sl rs 0] [])) := by kernel_rfl
end Go.Proofs.Ytankikbbdfgkbaa
/-
  The types in a shop; its law.
-/
namespace Go.Proofs.Ytankikbbdfgkbaa
open Go Go.V
set_option linter.unusedSimpArgs false

/-- Sums along a list, as long as they are small. -/
theorem loop_sum {β : Type} {body : List D → Option Out} (l : List β) (st : Nat → Int → List D) (f : β → Int) (fin : Int → Out) (M a : Int) (hf : ∀ x ∈ l, 0 ≤ f x ∧ f x ≤ M) (hM : 0 ≤ M) (hb : 0 ≤ a) (hB : a + M * l.length < 9223372036854775808)
    (hs : ∀ (i : Nat) (a : Int) (hi : i < l.length), IntKind.i64.wrap (a + f l[i]) = a + f l[i] → body (st i a) = some (.nrm (st (i + 1) (a + f l[i])))) (he : ∀ a, body (st l.length a) = some (fin a)) (h1 : ∀ a, (fin a).ends = true) {s0 : List D} (h : s0 = st 0 a) :
    loopC body s0 = some (fin (a + (l.map f).sum)) := by
  have e : ∀ (m : List β) (i : Nat) (a : Int), foldI (fun _ a x => a + f x) i m a = a + (m.map f).sum := by
    intro m
    induction m with
    | nil => intro i a; simp [foldI]
    | cons x m ih => intro i a; simp only [foldI, ih, List.map_cons, List.sum_cons]; omega
  rw [← e l 0 a]
  refine loop_foldi l st (fun i b => 0 ≤ b ∧ b ≤ a + M * i) (fun _ a x => a + f x) fin a (fun i b hi hI => ?_) (fun a _ => he a) h1 ⟨hb, by simp⟩ h
  have hx := hf l[i] (List.getElem_mem hi)
  have h3 : M * (i : Int) + M ≤ M * l.length := by
    have : M * ((i : Int) + 1) ≤ M * l.length := Int.mul_le_mul_of_nonneg_left (by omega) hM
    rw [Int.mul_add, Int.mul_one] at this
    exact this
  have h4 : M * ((i + 1 : Nat) : Int) = M * (i : Int) + M := by
    rw [Int.natCast_add, Int.mul_add]
    simp
  exact ⟨hs i b hi (wrap_id (by omega) (by omega)), by omega, by rw [h4]; omega⟩
theorem sum_le {β : Type} {f : β → Int} {M : Int} : ∀ {l : List β}, (∀ x ∈ l, 0 ≤ f x ∧ f x ≤ M) → 0 ≤ (l.map f).sum ∧ (l.map f).sum ≤ M * l.length
  | [], _ => by simp
  | x :: l, h => by
    have h1 := h x (by simp)
    have h2 := sum_le (l := l) fun y hy => h y (by simp [hy])
    simp only [List.map_cons, List.sum_cons, List.length_cons, Int.natCast_add, Int.mul_add]
    simp only [Int.natCast_one, Int.mul_one]
    omega

theorem shopOk_parts {s : Sp} (h : shopOk s = true) : (∀ (j : Nat) (hj : j < s.2.1.length), isFm s.1 s.2.1[j] = true) ∧ goodC s.1 = true ∧ s.2.1.length ≤ 5 ∧ (0 ≤ s.2.2.1 ∧ s.2.2.1 ≤ 9999) := by
  simp only [shopOk, Bool.and_eq_true, decide_eq_true_eq] at h
  obtain ⟨⟨⟨⟨h1, h2⟩, h3⟩, h4⟩, _⟩ := h
  have key : ∀ (l : List Fm) (i : Nat), allI (pS s) i l = true → ∀ x ∈ l, isFm s.1 x = true := by
    intro l
    induction l with
    | nil => intro i _ x hx; simp at hx
    | cons y l ih =>
      intro i hp x hx
      simp only [allI, Bool.and_eq_true, pS] at hp
      rcases List.mem_cons.1 hx with rfl | hx
      · exact hp.1.1
      · exact ih (i + 1) (by simpa [pS] using hp.2) x hx
  exact ⟨fun j hj => key _ 0 h1 _ (List.getElem_mem hj), h2, by omega, h4⟩
theorem goodC_counts {l : List Bx} (h : goodC l = true) : l.length ≤ 32 ∧ ∀ x ∈ l, 0 ≤ x.2.2.2 ∧ x.2.2.2 ≤ 9999 := by
  simp only [goodC, Bool.and_eq_true, decide_eq_true_eq] at h
  refine ⟨by omega, ?_⟩
  have key : ∀ (m : List Bx) (i : Nat), allI (pBx l) i m = true → ∀ x ∈ m, 0 ≤ x.2.2.2 ∧ x.2.2.2 ≤ 9999 := by
    intro m
    induction m with
    | nil => intro i _ x hx; simp at hx
    | cons y m ih =>
      intro i hp x hx
      simp only [allI, Bool.and_eq_true] at hp
      rcases List.mem_cons.1 hx with rfl | hx
      · have := hp.1
        simp only [pBx, isBx, Bool.and_eq_true, decide_eq_true_eq] at this
        exact this.1.1.2
      · exact ih (i + 1) hp.2 x hx
  exact key l 0 h.1

def counts (l : List Bx) : Int := (l.map fun x => x.2.2.2).sum
def sets (l : List Fm) : Int := (l.map fun x => (x.2.1.length : Int)).sum
def typesIn (s : Sp) : Int := if shopOk s then counts s.1 + s.2.2.1 + sets s.2.1 else 0
theorem isFm_set {l : List Bx} {x : Fm} (h : isFm l x = true) : x.2.1.length ≤ 40 := by
  simp only [isFm, Bool.and_eq_true, Bool.not_eq_true', decide_eq_false_iff_not] at h
  omega
end Go.Proofs.Ytankikbbdfgkbaa
/-
  How a word is set: plain laws.
-/
namespace Go.Proofs.Ytankikbbdfgkbaa
open Go Go.V
set_option linter.unusedSimpArgs false

theorem foldI_inv {α β : Type} (f : Nat → α → β → α) (l : List β) (Inv : Nat → α → Prop) (hs : ∀ (i : Nat) (a : α) (hi : i < l.length), Inv i a → Inv (i + 1) (f i a l[i])) (a : α) (h0 : Inv 0 a) : Inv l.length (foldI f 0 l a) := by
  have key : ∀ (n i : Nat) (a : α), i + n = l.length → Inv i a → Inv l.length (foldI f i (l.drop i) a) := by
    intro n
    induction n with
    | zero =>
      intro i a hi hI
      have : i = l.length := by omega
      subst this
      rw [List.drop_length]
      exact hI
    | succ n ih =>
      intro i a hi hI
      have hlt : i < l.length := by omega
      rw [List.drop_eq_getElem_cons hlt]
      exact ih (i + 1) _ (by omega) (hs i a hlt hI)
  simpa using key l.length 0 a (by omega) h0

theorem chars_inj {a b : ByteArray} (h : chars a = chars b) : a = b := by
  cases a with | mk a => cases b with | mk b =>
    cases a with | mk a => cases b with | mk b =>
      simp [chars] at h
      rw [h]
theorem chars_extract (s : ByteArray) (i j : Nat) : chars (s.extract i j) = ((chars s).take j).drop i := by
  simp [chars, List.drop_take]
theorem sliceS {s : ByteArray} {z i j : Nat} (h1 : i ≤ j) (h2 : j ≤ s.size) : sliceD true z (T s) (I (i : Int)) (I (j : Int)) = some (T (s.extract i j)) := by
  simp only [sliceD, Int.toNat_natCast]
  rw [if_pos (by omega)]
theorem sliceHiS {s : ByteArray} {z i : Nat} (h : i ≤ s.size) : sliceHi true z (T s) (I (i : Int)) = some (T (s.extract i s.size)) := by
  simp only [sliceHi, Int.toNat_natCast]
  rw [if_pos (by omega)]

/-- Does a text begin with a code? -/
def Pre (c : ByteArray) (w : List UInt8) : Prop := w.take (chars c).length = chars c
instance (c : ByteArray) (w : List UInt8) : Decidable (Pre c w) := by unfold Pre; infer_instance
theorem Pre.len {c : ByteArray} {w : List UInt8} (h : Pre c w) : (chars c).length ≤ w.length := by
  have := congrArg List.length h
  rw [List.length_take] at this
  omega
theorem e_HasPrefix (s p : ByteArray) : F_strings_HasPrefix [T s, T p] = some (.ret [B (decide (Pre p (chars s)))] []) := by
  have e : F_internal_stringslite_HasPrefix [T s, T p] = some (.ret [B (decide (Pre p (chars s)))] []) := by
    rw [t_internal_stringslite_HasPrefix]
    by_cases h : p.size ≤ s.size
    · have hs := sliceS (z := 0) (Nat.zero_le p.size) h
      have hp : (s.extract 0 p.size = p) ↔ Pre p (chars s) := by
        constructor
        · intro h'
          have := congrArg chars h'
          rw [chars_extract, List.drop_zero] at this
          exact this
        · intro h'
          refine chars_inj ?_
          rw [chars_extract, List.drop_zero]
          exact h'
      have h0 : sliceD true 0 (T s) (D.v (.int .i64 0)) (I (p.size : Int)) = some (T (s.extract 0 p.size)) := hs
      by_cases hq : Pre p (chars s)
      · simp -implicitDefEqProofs [h, h0, hq, hp.2 hq]
      · have hq' : ¬ s.extract 0 p.size = p := fun e => hq (hp.1 e)
        simp -implicitDefEqProofs [h, h0, hq, hq']
    · have hq : ¬ Pre p (chars s) := fun h' => h h'.len
      simp -implicitDefEqProofs [h, hq]
  rw [t_strings_HasPrefix]
  simp -implicitDefEqProofs [e]

def Best (cs : List ByteArray) (w : List UInt8) (i : Nat) : Prop := ∃ h : i < cs.length, Pre cs[i] w ∧ ∀ (j : Nat) (hj : j < cs.length), Pre cs[j] w → (chars cs[j]).length ≤ (chars cs[i]).length
def NoneOf (cs : List ByteArray) (w : List UInt8) : Prop := ∀ (j : Nat) (hj : j < cs.length), ¬ Pre cs[j] w
/-- Codes: different ones, of one to three letters. -/
structure Codes (cs : List ByteArray) : Prop where
  len : ∀ (j : Nat) (hj : j < cs.length), 1 ≤ (chars cs[j]).length ∧ (chars cs[j]).length ≤ 3
  inj : ∀ (i j : Nat) (hi : i < cs.length) (hj : j < cs.length), cs[i] = cs[j] → i = j
theorem Best.uniq {cs : List ByteArray} {w : List UInt8} (hc : Codes cs) {i j : Nat} (hi : Best cs w i) (hj : Best cs w j) : i = j := by
  obtain ⟨h1, p1, m1⟩ := hi
  obtain ⟨h2, p2, m2⟩ := hj
  have e : (chars cs[i]).length = (chars cs[j]).length := Nat.le_antisymm (m2 i h1 p1) (m1 j h2 p2)
  refine hc.inj i j h1 h2 (chars_inj ?_)
  rw [← p1, ← p2, e]
/-- What a search for the best code gives. -/
def BN (cs : List ByteArray) (w : List UInt8) (b : Int) : Prop := (b = -1 ∧ NoneOf cs w) ∨ ∃ k : Nat, b = k ∧ Best cs w k
theorem BN.best {cs : List ByteArray} {w : List UInt8} (hc : Codes cs) {b : Int} (h : BN cs w b) {i : Nat} (hi : Best cs w i) : b = i := by
  rcases h with ⟨_, h⟩ | ⟨k, rfl, h⟩
  · exact absurd hi.2.1 (h i hi.1)
  · rw [h.uniq hc hi]
theorem BN.none {cs : List ByteArray} {w : List UInt8} {b : Int} (h : BN cs w b) (hi : NoneOf cs w) : b = -1 := by
  rcases h with ⟨h, _⟩ | ⟨k, rfl, h⟩
  · exact h
  · exact absurd h.2.1 (hi k h.1)

inductive Sets (cs : List ByteArray) : List UInt8 → List Nat → Option (List Nat) → Prop where
  | nil {acc : List Nat} : Sets cs [] acc (some acc)
  | fail {w : List UInt8} {acc : List Nat} : w ≠ [] → NoneOf cs w → Sets cs w acc none
  | step {w : List UInt8} {acc : List Nat} {i : Nat} {r : Option (List Nat)} : w ≠ [] → Best cs w i → Sets cs (w.drop (chars (cs.getD i ByteArray.empty)).length) (acc ++ [i]) r → Sets cs w acc r
theorem best_ex {cs : List ByteArray} {w : List UInt8} (h : ¬ NoneOf cs w) : ∃ i, Best cs w i := by
  have key : ∀ n, n ≤ cs.length → (∀ (j : Nat) (hj : j < cs.length), j < n → ¬ Pre cs[j] w) ∨ ∃ (i : Nat) (hi : i < cs.length), i < n ∧ Pre cs[i] w ∧ ∀ (j : Nat) (hj : j < cs.length), j < n → Pre cs[j] w → (chars cs[j]).length ≤ (chars cs[i]).length := by
    intro n
    induction n with
    | zero => exact fun _ => .inl fun j _ hj => absurd hj (by omega)
    | succ n ih =>
      intro hn
      by_cases hp : Pre cs[n] w
      · rcases ih (by omega) with h | ⟨i, hi, h1, h2, h3⟩
        · refine .inr ⟨n, by omega, by omega, hp, fun j hj hjn hpj => ?_⟩
          rcases Nat.lt_or_ge j n with h' | h'
          · exact absurd hpj (h j hj h')
          · have : j = n := by omega
            subst this
            exact Nat.le_refl _
        · by_cases hl : (chars cs[n]).length ≤ (chars cs[i]).length
          · refine .inr ⟨i, hi, by omega, h2, fun j hj hjn hpj => ?_⟩
            rcases Nat.lt_or_ge j n with h' | h'
            · exact h3 j hj h' hpj
            · have : j = n := by omega
              subst this
              exact hl
          · refine .inr ⟨n, by omega, by omega, hp, fun j hj hjn hpj => ?_⟩
            rcases Nat.lt_or_ge j n with h' | h'
            · exact Nat.le_trans (h3 j hj h' hpj) (by omega)
            · have : j = n := by omega
              subst this
              exact Nat.le_refl _
      · rcases ih (by omega) with h | ⟨i, hi, h1, h2, h3⟩
        · refine .inl fun j hj hjn hpj => ?_
          rcases Nat.lt_or_ge j n with h' | h'
          · exact h j hj h' hpj
          · have : j = n := by omega
            subst this
            exact hp hpj
        · refine .inr ⟨i, hi, by omega, h2, fun j hj hjn hpj => ?_⟩
          rcases Nat.lt_or_ge j n with h' | h'
          · exact h3 j hj h' hpj
          · have : j = n := by omega
            subst this
            exact absurd hpj hp
  rcases key cs.length (Nat.le_refl _) with h' | ⟨i, hi, _, h2, h3⟩
  · exact absurd (fun j hj => h' j hj hj) h
  · exact ⟨i, hi, h2, fun j hj => h3 j hj hj⟩
theorem getD_eq {cs : List ByteArray} {i : Nat} (h : i < cs.length) : cs.getD i ByteArray.empty = cs[i] := by
  simp [List.getD_eq_getElem?_getD, h]
theorem sets_total {cs : List ByteArray} (hc : Codes cs) : ∀ (n : Nat) (w : List UInt8) (acc : List Nat), w.length ≤ n → ∃ r, Sets cs w acc r
  | 0, w, acc, h => by
    have : w = [] := List.eq_nil_of_length_eq_zero (by omega)
    subst this
    exact ⟨_, .nil⟩
  | n + 1, w, acc, h => by
    by_cases hw : w = []
    · subst hw
      exact ⟨_, .nil⟩
    · by_cases hN : NoneOf cs w
      · exact ⟨_, .fail hw hN⟩
      · obtain ⟨i, hi⟩ := best_ex hN
        have h1 := hc.len i hi.1
        obtain ⟨r, hr⟩ := sets_total hc n (w.drop (chars (cs.getD i ByteArray.empty)).length) (acc ++ [i]) (by
          rw [getD_eq hi.1, List.length_drop]
          have : 0 < w.length := List.length_pos_iff.2 hw
          omega)
        exact ⟨r, .step hw hi hr⟩
theorem sets_lt {cs : List ByteArray} (hc : Codes cs) {w : List UInt8} {acc : List Nat} {r : Option (List Nat)} (h : Sets cs w acc r) : (∀ i ∈ acc, i < cs.length) → ∀ l, r = some l → (∀ i ∈ l, i < cs.length) ∧ l.length ≤ acc.length + w.length := by
  induction h with
  | nil =>
    intro h l e
    cases e
    exact ⟨h, by simp⟩
  | fail => intro _ l e; cases e
  | step hw hb _ ih =>
    rename_i w acc i r _
    intro h l e
    obtain ⟨h1, h2⟩ := ih (fun j hj => by
      rcases List.mem_append.1 hj with hj | hj
      · exact h j hj
      · simp at hj
        subst hj
        exact hb.1) l e
    refine ⟨h1, ?_⟩
    rw [List.length_append, List.length_singleton, List.length_drop, getD_eq hb.1] at h2
    have := hc.len i hb.1
    have := hb.2.1.len
    omega

theorem sets_runs {cs : List ByteArray} (hc : Codes cs) {body : List D → Option Out} (w : List UInt8) (st : Nat → List Nat → List D) (fin : Option (List Nat) → Out) (hfin : ∀ r, (fin r).ends = true)
    (h0 : ∀ acc, acc.length ≤ w.length → body (st w.length acc) = some (fin (some acc))) (hf : ∀ at_ acc, at_ < w.length → acc.length ≤ at_ → NoneOf cs (w.drop at_) → body (st at_ acc) = some (fin none))
    (hs : ∀ at_ acc i (hb : Best cs (w.drop at_) i), at_ < w.length → acc.length ≤ at_ → at_ + (chars (cs[i]'hb.1)).length ≤ w.length → body (st at_ acc) = some (.nrm (st (at_ + (chars (cs[i]'hb.1)).length) (acc ++ [i])))) {rest : List UInt8} {acc : List Nat} {r : Option (List Nat)} (h : Sets cs rest acc r) :
    ∀ at_, at_ ≤ w.length → acc.length ≤ at_ → rest = w.drop at_ → Runs body (st at_ acc) (fin r) := by
  induction h with
  | nil =>
    intro at_ h1 h2 h3
    have := congrArg List.length h3
    rw [List.length_drop, List.length_nil] at this
    have : at_ = w.length := by omega
    subst this
    exact Runs.one (h0 _ h2) (hfin _)
  | fail hw hN =>
    intro at_ h1 h2 h3
    subst h3
    have : at_ < w.length := by
      rcases Nat.lt_or_ge at_ w.length with h | h
      · exact h
      · exact absurd (List.drop_eq_nil_of_le h) hw
    exact Runs.one (hf at_ _ this h2 hN) (hfin _)
  | step hw hb _ ih =>
    rename_i w' acc i r _
    intro at_ h1 h2 h3
    subst h3
    have hlt : at_ < w.length := by
      rcases Nat.lt_or_ge at_ w.length with h | h
      · exact h
      · exact absurd (List.drop_eq_nil_of_le h) hw
    have hl := hb.2.1.len
    rw [List.length_drop] at hl
    have h1' := hc.len i hb.1
    rw [getD_eq hb.1] at ih
    refine .nrm (hs at_ acc i hb hlt h2 (by omega)) (ih _ (by omega) (by rw [List.length_append, List.length_singleton]; omega) ?_)
    rw [List.drop_drop]

end Go.Proofs.Ytankikbbdfgkbaa
/-
  How a word is set: what the functions compute.
-/
namespace Go.Proofs.Ytankikbbdfgkbaa
open Go Go.V
set_option linter.unusedSimpArgs false

abbrev so (c : ByteArray) : D := .agg [T c, I 1]
abbrev fD (cs : List ByteArray) : D := .arr 2 (cs.map so)
abbrev nats (l : List Nat) : D := .arr 1 (l.map fun (i : Nat) => I (i : Int))
theorem isV_so (c : ByteArray) : (so c).isV = true := rfl
theorem nats_app (l : List Nat) (i : Nat) (h : l.length ≤ 1048576) : appD 1 8 (nats l) (.arr 1 [I (i : Int)]) = some (nats (l ++ [i])) := by
  rw [appD_eq, if_pos (by simp only [List.length_map, List.length_singleton]; omega)]
  simp
theorem nats_one (i : Nat) : mkArr 1 [I (i : Int)] = some (.arr 1 [I (i : Int)]) := by simp [mkArr, lenOkD]
theorem nats_chk (i : Nat) : chkA (.arr 1 [I (i : Int)]) = some (.arr 1 [I (i : Int)]) := by simp [chkA, D.isV]

theorem findI_some {β : Type} {p : β → Bool} : ∀ {l : List β} {i j : Nat}, findI p i l = some j → i ≤ j ∧ ∃ h : j - i < l.length, p l[j - i] = true
  | [], i, j, h => by simp [findI] at h
  | x :: l, i, j, h => by
    simp only [findI] at h
    split at h
    · rename_i hp
      cases h
      exact ⟨Nat.le_refl _, by simp, by simpa using hp⟩
    · obtain ⟨h1, h2, h3⟩ := findI_some h
      refine ⟨by omega, by simp; omega, ?_⟩
      have : j - i = (j - (i + 1)) + 1 := by omega
      simp only [this, List.getElem_cons_succ]
      exact h3
theorem findI_none {β : Type} {p : β → Bool} : ∀ {l : List β} {i : Nat}, findI p i l = none → ∀ (j : Nat) (hj : j < l.length), p l[j] = false
  | [], i, _, j, hj => by simp at hj
  | x :: l, i, h, j, hj => by
    simp only [findI] at h
    split at h
    · cases h
    · rename_i hp
      cases j with
      | zero => simpa using hp
      | succ j => exact findI_none h j (by simpa using hj)
def fC (cs : List ByteArray) (c : ByteArray) : Int := (findI (fun b : ByteArray => decide (b = c)) 0 cs).elim (-1) fun j => (j : Int)
theorem e_spec_tyFind (cs : List ByteArray) (c : ByteArray) (h : cs.length ≤ 1048576) : F_spec_tyFind [fD cs, T c] = some (.ret [I (fC cs c)] []) := by
  rw [t_spec_tyFind]
  simp only [lenD_arr, List.length_map, Option.bind_some]
  refine loop_bind _ (loop_find cs (fun i => [T c, fD cs, I cs.length, I i]) (fun b : ByteArray => decide (b = c)) (fun j => .ret [I j] []) (.ext 0 []) (fun i hi => ?_) ?_ (fun _ => rfl) rfl rfl) ?_
  · have hw : IntKind.i64.wrap ((i : Int) + 1) = (i : Int) + 1 := wrap_id (by omega) (by omega)
    by_cases hc : cs[i] = c <;> simp -implicitDefEqProofs [hi, hw, hc]
  · simp
  · unfold fC
    cases findI (fun b : ByteArray => decide (b = c)) 0 cs <;> simp -implicitDefEqProofs
theorem fC_is {cs : List ByteArray} {c : ByteArray} : (fC cs c = -1 ∧ ∀ (j : Nat) (hj : j < cs.length), cs[j] ≠ c) ∨ ∃ (j : Nat) (hj : j < cs.length), fC cs c = j ∧ cs[j] = c := by
  unfold fC
  cases h : findI (fun b : ByteArray => decide (b = c)) 0 cs with
  | none => exact .inl ⟨rfl, fun j hj => by simpa using findI_none h j hj⟩
  | some j =>
    obtain ⟨_, h1, h2⟩ := findI_some h
    exact .inr ⟨j, by simpa using h1, rfl, by simpa using h2⟩
theorem e_spec_l1Least (a b : Int) : F_spec_l1Least [I a, I b] = some (.ret [I (if a < b then a else b)] []) := by
  rw [t_spec_l1Least]
  by_cases h : a < b <;> simp -implicitDefEqProofs [h]

/-- What is told of a word that is set. -/
def outS (r : Option (List Nat)) : Out := match r with
  | some l => .ext 0 [nats l]
  | none => .ret [nats [], B false] []
def setR (r : Option (List Nat)) : Option Out := some (.ret [nats (r.getD []), B r.isSome] [])
theorem tySet_inner {cs : List ByteArray} (hc : Codes cs) (hl : cs.length ≤ 1048576) (s : ByteArray) (hs : s.size ≤ 1000) (at_ : Nat) (acc : List Nat) (hlt' : at_ < s.size) : ∃ m : Nat, F_spec_l1Least [I 3, I ((s.size - at_ : Nat) : Int)] = some (.ret [I m] []) ∧
    ∀ (R : Option Out → Prop) (body : List D → Option Out) (K : Out → Option Out), (∀ (b : Int) (n : Nat), body [fD cs, T s, nats acc, I at_, I b, I n] = if 0 < n ∧ b < 0 then (((some (IntKind.i64.wrap ((at_ : Int) + n)) : Option Int).bind fun e => sliceD true 0 (T s) (I at_) (I e)).bind fun z => callK (F_spec_tyFind [fD cs, z]) fun rs _ => some (.nrm [fD cs, T s, nats acc, I at_, sl rs 0, I (IntKind.i64.wrap ((n : Int) - 1))])) else some (.ext 2 [fD cs, T s, nats acc, I at_, I b])) →
        (∀ b, BN cs ((chars s).drop at_) b → R (K (.ext 2 [fD cs, T s, nats acc, I at_, I b]))) → R ((loopC body [fD cs, T s, nats acc, I at_, I (-1), I m]).bind K) := by
  have hsz : s.size = (chars s).length := rfl
  obtain ⟨m, hm1, hm2, hm3⟩ : ∃ m : Nat, (if (3 : Int) < ((s.size - at_ : Nat) : Int) then (3 : Int) else ((s.size - at_ : Nat) : Int)) = m ∧ m ≤ 3 ∧ (at_ + m ≤ s.size ∧ (m = 3 ∨ at_ + m = s.size)) := by
    by_cases h3 : (3 : Int) < ((s.size - at_ : Nat) : Int)
    · exact ⟨3, by rw [if_pos h3]; rfl, by omega, by omega, .inl rfl⟩
    · exact ⟨s.size - at_, by rw [if_neg h3], by omega, by omega, .inr (by omega)⟩
  have el := e_spec_l1Least 3 ((s.size - at_ : Nat) : Int)
  rw [hm1] at el
  refine ⟨m, el, ?_⟩
  intro R body K hbody hK
  refine loop_wf_bind R (fun a : Int × Nat => [fD cs, T s, nats acc, I at_, I a.1, I a.2]) (fun a => a.2 ≤ 3 ∧ at_ + a.2 ≤ s.size ∧ ((a.1 = -1 ∧ ∀ (j : Nat) (hj : j < cs.length), Pre cs[j] ((chars s).drop at_) → (chars cs[j]).length ≤ a.2) ∨ ∃ k : Nat, a.1 = k ∧ Best cs ((chars s).drop at_) k)) (fun a => a.2)
    (fun o => ∃ b, o = .ext 2 [fD cs, T s, nats acc, I at_, I b] ∧ BN cs ((chars s).drop at_) b) (fun a hI => ?_) (-1, m) ⟨hm2, hm3.1, .inl ⟨rfl, fun j hj hp => ?_⟩⟩ rfl (fun o ho => ?_)
  · obtain ⟨b, n⟩ := a
    obtain ⟨i1, i2, i3⟩ := hI
    simp only at i1 i2 i3
    rw [hbody]
    by_cases hcond : 0 < n ∧ b < 0
    · rw [if_pos hcond]
      have hwn : IntKind.i64.wrap ((at_ : Int) + n) = ((at_ + n : Nat) : Int) := by rw [wrap_id (by omega) (by omega)]; omega
      have hwm : IntKind.i64.wrap ((n : Int) - 1) = ((n - 1 : Nat) : Int) := by rw [wrap_id (by omega) (by omega)]; omega
      have hsl := sliceS (s := s) (z := 0) (i := at_) (j := at_ + n) (by omega) (by omega)
      have hch : chars (s.extract at_ (at_ + n)) = ((chars s).drop at_).take n := by
        rw [chars_extract, List.drop_take]
        congr 1
        omega
      simp only [Option.bind_some, hwn, hwm, hsl, e_spec_tyFind cs _ hl, callK_ret, sl_zero]
      rcases i3 with ⟨rfl, hmax⟩ | ⟨k, rfl, _⟩
      · refine .inl ⟨(fC cs (s.extract at_ (at_ + n)), n - 1), rfl, ⟨by simp only; omega, by simp only; omega, ?_⟩, by simp only; omega⟩
        simp only
        rcases fC_is (cs := cs) (c := s.extract at_ (at_ + n)) with ⟨e1, e2⟩ | ⟨j, hj, e1, e2⟩
        · refine .inl ⟨e1, fun j hj hp => ?_⟩
          have h1 := hmax j hj hp
          rcases Nat.lt_or_ge (chars cs[j]).length n with h' | h'
          · omega
          · exfalso
            have : (chars cs[j]).length = n := by omega
            refine e2 j hj (chars_inj ?_)
            rw [hch, ← hp, this]
        · have hln : (chars cs[j]).length = n := by
            rw [e2, hch, List.length_take, List.length_drop]
            omega
          refine .inr ⟨j, e1, hj, ?_, fun j' hj' hp' => by rw [hln]; exact hmax j' hj' hp'⟩
          unfold Pre
          rw [hln, e2, hch]
      · omega
    · rw [if_neg hcond]
      refine .inr ⟨_, rfl, rfl, b, rfl, ?_⟩
      rcases i3 with ⟨rfl, hmax⟩ | ⟨k, rfl, hk⟩
      · refine .inl ⟨rfl, fun j hj hp => ?_⟩
        have h1 := hmax j hj hp
        have h2 := (hc.len j hj).1
        omega
      · exact .inr ⟨k, rfl, hk⟩
  · have h1 := (hc.len j hj).2
    have h2 := hp.len
    rw [List.length_drop] at h2
    simp only
    omega
  · obtain ⟨b, rfl, hb⟩ := ho
    exact hK b hb
theorem e_spec_tySet {cs : List ByteArray} (hc : Codes cs) (hl : cs.length ≤ 1048576) (s : ByteArray) (hs : s.size ≤ 1000) {r : Option (List Nat)} (h : Sets cs (chars s) [] r) : F_spec_tySet [fD cs, T s] = setR r := by
  rw [t_spec_tySet]
  have hsz : s.size = (chars s).length := rfl
  refine loop_bind (outS r) (Runs.loop (sets_runs hc (chars s) (fun at_ acc => [fD cs, T s, nats acc, I at_]) outS (fun r => by cases r <;> rfl) (fun acc ha => ?_) (fun at_ acc hlt ha hN => ?_) (fun at_ acc i hb hlt ha hle => ?_) h 0 (Nat.zero_le _) (by simp) (by simp))) ?_
  · simp -implicitDefEqProofs [hsz, outS]
  · have hw0 : IntKind.i64.wrap ((s.size : Int) - at_) = ((s.size - at_ : Nat) : Int) := by rw [wrap_id (by omega) (by omega)]; omega
    have hlt' : at_ < s.size := by omega
    obtain ⟨m, el, inner⟩ := tySet_inner hc hl s hs at_ acc hlt'
    simp -implicitDefEqProofs [hlt', hw0, el]
    refine inner (fun X => X = some (outS none)) _ _ (fun b n => ?_) (fun b hb => ?_)
    · by_cases h1 : 0 < n <;> by_cases h2 : b < 0 <;> simp -implicitDefEqProofs [h1, h2]
    · have := hb.none hN
      subst this
      simp -implicitDefEqProofs [outS]
  · have hw0 : IntKind.i64.wrap ((s.size : Int) - at_) = ((s.size - at_ : Nat) : Int) := by rw [wrap_id (by omega) (by omega)]; omega
    have hlt' : at_ < s.size := by omega
    obtain ⟨m, el, inner⟩ := tySet_inner hc hl s hs at_ acc hlt'
    simp -implicitDefEqProofs [hlt', hw0, el]
    refine inner (fun X => X = some (.nrm [fD cs, T s, nats (acc ++ [i]), I ((at_ + (chars (cs[i]'hb.1)).length : Nat) : Int)])) _ _ (fun b n => ?_) (fun b hb' => ?_)
    · by_cases h1 : 0 < n <;> by_cases h2 : b < 0 <;> simp -implicitDefEqProofs [h1, h2]
    · have := hb'.best hc hb
      subst this
      have hi := hb.1
      have hsl : (cs[i]).size = (chars cs[i]).length := rfl
      have hwa : IntKind.i64.wrap ((at_ : Int) + (chars cs[i]).length) = (at_ : Int) + (chars cs[i]).length := wrap_id (by omega) (by omega)
      simp -implicitDefEqProofs [nats_one, nats_chk, nats_app acc i (by omega), hi, hsl, hwa, -appD_eq]
  · cases r <;> simp -implicitDefEqProofs [outS, setR]

end Go.Proofs.Ytankikbbdfgkbaa
/-
  How a word is set: the program's functions.
-/
namespace Go.Proofs.Ytankikbbdfgkbaa
open Go Go.V
set_option linter.unusedSimpArgs false

/-- The best code so far. -/
def bestF (cs : List ByteArray) (w : List UInt8) (i : Nat) (b : Int) (c : ByteArray) : Int := if Pre c w ∧ (b < 0 ∨ (chars (cs.getD b.toNat ByteArray.empty)).length < (chars c).length) then i else b
theorem sortsOf_inner {cs : List ByteArray} (rest : ByteArray) (acc : List Nat) (hl : cs.length ≤ 1048576) : ∀ (R : Option Out → Prop) (body : List D → Option Out) (K : Out → Option Out),
    (∀ (i : Nat) (hi : i < cs.length) (b : Int), (b < 0 ∨ ∃ k : Nat, b = k ∧ k < cs.length) → IntKind.i64.wrap ((i : Int) + 1) = (i : Int) + 1 → body [fD cs, T rest, nats acc, I b, fD cs, I cs.length, I i] = some (.nrm [fD cs, T rest, nats acc, I (bestF cs (chars rest) i b cs[i]), fD cs, I cs.length, I ((i : Int) + 1)])) →
    (∀ b, body [fD cs, T rest, nats acc, I b, fD cs, I cs.length, I cs.length] = some (.ext 2 [fD cs, T rest, nats acc, I b])) →
    (∀ b, BN cs (chars rest) b → R (K (.ext 2 [fD cs, T rest, nats acc, I b]))) → R ((loopC body [fD cs, T rest, nats acc, I (-1), fD cs, I cs.length, I 0]).bind K) := by
  intro R body K h1 h2 h3
  have inv : ∀ (i : Nat) (b : Int) (hi : i < cs.length), ((b = -1 ∧ ∀ (j : Nat) (hj : j < cs.length), j < i → ¬ Pre cs[j] (chars rest)) ∨ ∃ (k : Nat) (hk : k < cs.length), b = k ∧ Pre cs[k] (chars rest) ∧ ∀ (j : Nat) (hj : j < cs.length), j < i → Pre cs[j] (chars rest) → (chars cs[j]).length ≤ (chars cs[k]).length) →
      ((bestF cs (chars rest) i b cs[i] = -1 ∧ ∀ (j : Nat) (hj : j < cs.length), j < i + 1 → ¬ Pre cs[j] (chars rest)) ∨ ∃ (k : Nat) (hk : k < cs.length), bestF cs (chars rest) i b cs[i] = k ∧ Pre cs[k] (chars rest) ∧ ∀ (j : Nat) (hj : j < cs.length), j < i + 1 → Pre cs[j] (chars rest) → (chars cs[j]).length ≤ (chars cs[k]).length) := by
    intro i b hi hI
    unfold bestF
    rcases hI with ⟨rfl, hN⟩ | ⟨k, hk, rfl, hp, hmax⟩
    · by_cases hpi : Pre cs[i] (chars rest)
      · rw [if_pos ⟨hpi, .inl (by omega)⟩]
        refine .inr ⟨i, hi, rfl, hpi, fun j hj hji hpj => ?_⟩
        rcases Nat.lt_or_ge j i with h | h
        · exact absurd hpj (hN j hj h)
        · have : j = i := by omega
          subst this
          exact Nat.le_refl _
      · rw [if_neg (fun h => hpi h.1)]
        refine .inl ⟨rfl, fun j hj hji hpj => ?_⟩
        rcases Nat.lt_or_ge j i with h | h
        · exact hN j hj h hpj
        · have : j = i := by omega
          subst this
          exact hpi hpj
    · rw [Int.toNat_natCast, getD_eq hk]
      by_cases hc : Pre cs[i] (chars rest) ∧ ((k : Int) < 0 ∨ (chars cs[k]).length < (chars cs[i]).length)
      · rw [if_pos hc]
        refine .inr ⟨i, hi, rfl, hc.1, fun j hj hji hpj => ?_⟩
        rcases Nat.lt_or_ge j i with h | h
        · have := hmax j hj h hpj
          omega
        · have : j = i := by omega
          subst this
          exact Nat.le_refl _
      · rw [if_neg hc]
        refine .inr ⟨k, hk, rfl, hp, fun j hj hji hpj => ?_⟩
        rcases Nat.lt_or_ge j i with h | h
        · exact hmax j hj h hpj
        · have : j = i := by omega
          subst this
          rcases Nat.lt_or_ge (chars cs[k]).length (chars cs[j]).length with h' | h'
          · exact absurd ⟨hpj, .inr h'⟩ hc
          · exact h'
  rw [loop_foldi (body := body) (s0 := [fD cs, T rest, nats acc, I (-1), fD cs, I cs.length, I 0]) cs (fun i b => [fD cs, T rest, nats acc, I b, fD cs, I cs.length, I i]) (fun i b => (b = -1 ∧ ∀ (j : Nat) (hj : j < cs.length), j < i → ¬ Pre cs[j] (chars rest)) ∨ ∃ (k : Nat) (hk : k < cs.length), b = k ∧ Pre cs[k] (chars rest) ∧ ∀ (j : Nat) (hj : j < cs.length), j < i → Pre cs[j] (chars rest) → (chars cs[j]).length ≤ (chars cs[k]).length)
    (fun i b c => bestF cs (chars rest) i b c) (fun b => .ext 2 [fD cs, T rest, nats acc, I b]) (-1) (fun i b hi hI => ⟨h1 i hi b (by
      rcases hI with ⟨rfl, _⟩ | ⟨k, hk, rfl, _⟩
      · exact .inl (by omega)
      · exact .inr ⟨k, rfl, hk⟩) (wrap_id (by omega) (by omega)), inv i b hi hI⟩) (fun b _ => h2 b) (fun _ => rfl) (.inl ⟨rfl, fun j _ hj => absurd hj (by omega)⟩) rfl]
  have hfin := foldI_inv (fun i b c => bestF cs (chars rest) i b c) cs (fun i b => (b = -1 ∧ ∀ (j : Nat) (hj : j < cs.length), j < i → ¬ Pre cs[j] (chars rest)) ∨ ∃ (k : Nat) (hk : k < cs.length), b = k ∧ Pre cs[k] (chars rest) ∧ ∀ (j : Nat) (hj : j < cs.length), j < i → Pre cs[j] (chars rest) → (chars cs[j]).length ≤ (chars cs[k]).length)
    (fun i b hi hI => inv i b hi hI) (-1) (.inl ⟨rfl, fun j _ hj => absurd hj (by omega)⟩)
  refine h3 _ ?_
  rcases hfin with ⟨e, hN⟩ | ⟨k, hk, e, hp, hmax⟩
  · exact .inl ⟨e, fun j hj => hN j hj hj⟩
  · exact .inr ⟨k, e, hk, hp, fun j hj => hmax j hj hj⟩

theorem extract_all (s : ByteArray) : s.extract 0 s.size = s := by
  refine chars_inj ?_
  rw [chars_extract, List.drop_zero]
  exact List.take_length
theorem chars_rest (s : ByteArray) (at_ : Nat) : chars (s.extract at_ s.size) = (chars s).drop at_ := by
  rw [chars_extract]
  congr 1
  exact List.take_length
theorem size_rest (s : ByteArray) (at_ : Nat) : (s.extract at_ s.size).size = s.size - at_ := by
  show (chars (s.extract at_ s.size)).length = (chars s).length - at_
  rw [chars_rest, List.length_drop]
theorem rest_rest (s : ByteArray) (at_ n : Nat) : (s.extract at_ s.size).extract n (s.extract at_ s.size).size = s.extract (at_ + n) s.size := by
  refine chars_inj ?_
  rw [chars_rest, chars_rest, chars_rest, List.drop_drop]

theorem e_impl_sortsOf {cs : List ByteArray} (hc : Codes cs) (hl : cs.length ≤ 1048576) (s : ByteArray) (hs : s.size ≤ 1000) {r : Option (List Nat)} (h : Sets cs (chars s) [] r) : F_impl_sortsOf [fD cs, T s] = setR r := by
  rw [t_impl_sortsOf]
  have hsz : s.size = (chars s).length := rfl
  simp only [mkArr_nil, Option.bind_some]
  refine loop_bind (outS r) (Runs.loop (sets_runs hc (chars s) (fun at_ acc => [fD cs, T (s.extract at_ s.size), nats acc]) outS (fun r => by cases r <;> rfl) (fun acc ha => ?_) (fun at_ acc hlt ha hN => ?_) (fun at_ acc i hb hlt ha hle => ?_) h 0 (Nat.zero_le _) (by simp) (by simp)) |> fun e => by rw [extract_all] at e; exact e) ?_
  · have h0 : (s.extract (chars s).length s.size).size = 0 := by rw [size_rest, hsz]; omega
    simp -implicitDefEqProofs [h0, outS]
  · have h0 := size_rest s at_
    have h0' : 0 < s.size - at_ := by omega
    simp -implicitDefEqProofs [h0']
    refine sortsOf_inner (s.extract at_ s.size) acc hl (fun X => X = some (outS none)) _ _ (fun i hi b hb hwi => ?_) (fun b => ?_) (fun b hb => ?_)
    · unfold bestF
      by_cases hp : Pre cs[i] (chars (s.extract at_ s.size))
      · rcases hb with hb | ⟨k, rfl, hk⟩
        · simp -implicitDefEqProofs [hi, hwi, e_HasPrefix, hp, hb]
        · have hk' : ¬ (k : Int) < 0 := by omega
          have z1 : cs[i].size = (chars cs[i]).length := rfl
          have z2 : cs[k].size = (chars cs[k]).length := rfl
          by_cases hlt2 : (chars cs[k]).length < (chars cs[i]).length <;> simp -implicitDefEqProofs [hi, hwi, e_HasPrefix, hp, hk, hk', z1, z2, hlt2]
      · simp -implicitDefEqProofs [hi, hwi, e_HasPrefix, hp]
    · simp -implicitDefEqProofs
    · rw [chars_rest] at hb
      have := hb.none hN
      subst this
      simp -implicitDefEqProofs [outS, mkArr_nil]
  · have h0 := size_rest s at_
    have h0' : 0 < s.size - at_ := by omega
    simp -implicitDefEqProofs [h0']
    refine sortsOf_inner (s.extract at_ s.size) acc hl (fun X => X = some (.nrm [fD cs, T (s.extract (at_ + (chars (cs[i]'hb.1)).length) s.size), nats (acc ++ [i])])) _ _ (fun i hi b hb hwi => ?_) (fun b => ?_) (fun b hb' => ?_)
    · unfold bestF
      by_cases hp : Pre cs[i] (chars (s.extract at_ s.size))
      · rcases hb with hb | ⟨k, rfl, hk⟩
        · simp -implicitDefEqProofs [hi, hwi, e_HasPrefix, hp, hb]
        · have hk' : ¬ (k : Int) < 0 := by omega
          have z1 : cs[i].size = (chars cs[i]).length := rfl
          have z2 : cs[k].size = (chars cs[k]).length := rfl
          by_cases hlt2 : (chars cs[k]).length < (chars cs[i]).length <;> simp -implicitDefEqProofs [hi, hwi, e_HasPrefix, hp, hk, hk', z1, z2, hlt2]
      · simp -implicitDefEqProofs [hi, hwi, e_HasPrefix, hp]
    · simp -implicitDefEqProofs
    · rw [chars_rest] at hb'
      have := hb'.best hc hb
      subst this
      have hi := hb.1
      have hz : (cs[i]).size = (chars cs[i]).length := rfl
      have hsl := sliceHiS (s := s.extract at_ s.size) (z := 0) (i := (chars cs[i]).length) (by omega)
      rw [rest_rest s at_ _] at hsl
      simp -implicitDefEqProofs [nats_one, nats_chk, nats_app acc i (by omega), hi, hz, hsl, -appD_eq]
  · cases r <;> simp -implicitDefEqProofs [outS, setR]

end Go.Proofs.Ytankikbbdfgkbaa
/-
  Codes of a word; types taken from a case; whether a word may be set.
-/
namespace Go.Proofs.Ytankikbbdfgkbaa
open Go Go.V
set_option linter.unusedSimpArgs false

theorem less_irrefl : ∀ x : List UInt8, Op.bytesLess x x = false
  | [] => rfl
  | a :: x => by
    simp only [Op.bytesLess, less_irrefl x, Bool.and_false, Bool.or_false, decide_eq_false_iff_not]
    exact UInt8.lt_irrefl a
theorem less_trans : ∀ x y z : List UInt8, Op.bytesLess x y = true → Op.bytesLess y z = true → Op.bytesLess x z = true
  | _, [], _, h, _ => by simp [Op.bytesLess] at h
  | _, _ :: _, [], _, h => by simp [Op.bytesLess] at h
  | [], _ :: _, _ :: _, _, _ => rfl
  | a :: x, b :: y, c :: z, h1, h2 => by
    simp only [Op.bytesLess, Bool.or_eq_true, decide_eq_true_eq, Bool.and_eq_true, beq_iff_eq] at h1 h2 ⊢
    rcases h1 with h1 | ⟨rfl, h1⟩
    · rcases h2 with h2 | ⟨rfl, _⟩
      · exact .inl (UInt8.lt_trans h1 h2)
      · exact .inl h1
    · rcases h2 with h2 | ⟨rfl, h2⟩
      · exact .inl h2
      · exact .inr ⟨rfl, less_trans x y z h1 h2⟩

abbrev cods (l : List Bx) : List ByteArray := l.map (·.1)
theorem allI_at {β : Type} {p : Nat → β → Bool} : ∀ {l : List β} {i : Nat}, allI p i l = true → ∀ (j : Nat) (hj : j < l.length), p (i + j) l[j] = true
  | [], _, _, j, hj => by simp at hj
  | x :: l, i, h, j, hj => by
    simp only [allI, Bool.and_eq_true] at h
    cases j with
    | zero => exact h.1
    | succ j =>
      have := allI_at h.2 j (by simpa using hj)
      rw [show i + (j + 1) = i + 1 + j from by omega]
      exact this
theorem goodC_codes {l : List Bx} (h : goodC l = true) : Codes (cods l) := by
  simp only [goodC, Bool.and_eq_true, decide_eq_true_eq] at h
  have hp : ∀ (j : Nat) (hj : j < l.length), pBx l j l[j] = true := fun j hj => by
    have := allI_at h.1 j hj
    rwa [Nat.zero_add] at this
  have asc : ∀ (d i : Nat) (hj : i + d + 1 < l.length), Op.bytesLess (l[i]'(by omega)).1.toList l[i + d + 1].1.toList = true := by
    intro d
    have one : ∀ (i : Nat) (hj : i + 1 < l.length), Op.bytesLess (l[i]'(by omega)).1.toList l[i + 1].1.toList = true := fun i hj => by
      have := hp (i + 1) hj
      simp only [pBx, Bool.and_eq_true, Bool.not_eq_true', Bool.and_eq_false_iff, decide_eq_false_iff_not, Bool.not_eq_false'] at this
      have h2 := this.1.2.resolve_left (by omega)
      rw [Nat.add_sub_cancel, List.getD_eq_getElem?_getD, List.getElem?_eq_getElem (by omega)] at h2
      exact h2
    induction d with
    | zero => exact fun i hj => one i hj
    | succ d ih => exact fun i hj => less_trans _ _ _ (ih i (by omega)) (one (i + d + 1) (by omega))
  refine ⟨fun j hj => ?_, fun i j hi hj e => ?_⟩
  · have hj' : j < l.length := by simpa using hj
    have := hp j hj'
    simp only [pBx, isBx, letters, Bool.and_eq_true, decide_eq_true_eq] at this
    have h2 := this.1.1.1.1.1.2
    simp only [List.getElem_map]
    show 1 ≤ (l[j].1).size ∧ (l[j].1).size ≤ 3
    omega
  · have hi' : i < l.length := by simpa using hi
    have hj' : j < l.length := by simpa using hj
    simp only [List.getElem_map] at e
    rcases Nat.lt_trichotomy i j with h | h | h
    · have := asc (j - i - 1) i (by omega)
      simp only [show i + (j - i - 1) + 1 = j from by omega] at this
      rw [e, less_irrefl] at this
      cases this
    · exact h
    · have := asc (i - j - 1) j (by omega)
      simp only [show j + (i - j - 1) + 1 = i from by omega] at this
      rw [e, less_irrefl] at this
      cases this
theorem fB_eq (l : List Bx) (c : ByteArray) : fB l c = fC (cods l) c := by
  unfold fB fC
  congr 1
  have : ∀ (m : List Bx) (i : Nat), findI (fun b : Bx => decide (b.1 = c)) i m = findI (fun b : ByteArray => decide (b = c)) i (m.map (·.1)) := by
    intro m
    induction m with
    | nil => intro i; rfl
    | cons x m ih =>
      intro i
      simp only [List.map_cons, findI, ih]
  exact this l 0

/-! ### codes -/
theorem bldSo (c : ByteArray) : bldD [(0, 1), (1, 1)] [T ⟨#[]⟩, I 0] [T c, I 1] = some (so c) := by simp [bldD, fillD]
theorem so_one (c : ByteArray) : mkArr 2 [so c] = some (fD [c]) := by simp [mkArr, lenOkD]
theorem so_app (l : List ByteArray) (c : ByteArray) (h : l.length ≤ 1048576) : appD 2 24 (fD l) (fD [c]) = some (fD (l ++ [c])) := by
  rw [appD_eq, if_pos (by simp only [List.length_map, List.length_singleton]; omega)]
  simp
theorem so_chk (c : ByteArray) : chkA (fD [c]) = some (fD [c]) := chkA_map isV_so
theorem tx_one (c : ByteArray) : mkArr 1 [T c] = some (txs [c]) := by simp [mkArr, lenOkD]
theorem tx_app (l : List ByteArray) (c : ByteArray) (h : l.length ≤ 1048576) : appD 1 16 (txs l) (txs [c]) = some (txs (l ++ [c])) := by
  rw [appD_eq, if_pos (by simp only [List.length_map, List.length_singleton]; omega)]
  simp
theorem tx_chk (c : ByteArray) : chkA (txs [c]) = some (txs [c]) := by simp [chkA, D.isV]
def codesOut (cs : List ByteArray) (r : List Nat) : List ByteArray := r.map fun i => cs.getD i ByteArray.empty
theorem take_snoc {α : Type} {l : List α} {i : Nat} (h : i < l.length) : l.take (i + 1) = l.take i ++ [l[i]] := List.take_succ_eq_append_getElem h
theorem e_spec_shCodes (l : List Bx) (hc : Codes (cods l)) (hl : l.length ≤ 1048576) (s : ByteArray) (hs : s.size ≤ 1000) {r : Option (List Nat)} (h : Sets (cods l) (chars s) [] r) : F_spec_shCodes [bxs l, T s] = some (.ret [txs (codesOut (cods l) (r.getD [])), B r.isSome] []) := by
  rw [t_spec_shCodes]
  have et := e_spec_tySet hc (by simpa using hl) s hs h
  have hr := sets_lt hc h (by simp)
  simp only [lenD_arr, List.length_map, Option.bind_some]
  refine loop_bind (.ext 0 [T s, fD (cods l)]) (loop_for l.length (fun i => [T s, fD (cods (l.take i)), bxs l, I l.length, I i]) _ (fun i hi => ?_) ?_ rfl rfl) ?_
  · have hw : IntKind.i64.wrap ((i : Int) + 1) = (i : Int) + 1 := wrap_id (by omega) (by omega)
    have ha := so_app (cods (l.take i)) l[i].1 (by simp; omega)
    have hb := bldSo l[i].1
    have h1 := so_one l[i].1
    have h2 := so_chk l[i].1
    have e : cods (l.take (i + 1)) = cods (l.take i) ++ [l[i].1] := by
      unfold cods
      rw [take_snoc hi, List.map_append]
      rfl
    rw [e]
    generalize cods (l.take i) = q at ha
    simp -implicitDefEqProofs [hi, hw, hb, h1, h2, ha, -appD_eq]
  · simp -implicitDefEqProofs
  · cases r with
    | none => simp -implicitDefEqProofs [et, setR, codesOut]
    | some r =>
      obtain ⟨q1, q2⟩ := hr r rfl
      have hsz : s.size = (chars s).length := rfl
      simp -implicitDefEqProofs [et, setR]
      refine loop_bind (.ext 2 [txs (codesOut (cods l) r)]) (loop_for r.length (fun i => [fD (cods l), txs (codesOut (cods l) (r.take i)), nats r, I r.length, I i]) _ (fun i hi => ?_) ?_ rfl rfl) ?_
      · have hrl : r.length ≤ 1000 := by simp at q2; omega
        have hw : IntKind.i64.wrap ((i : Int) + 1) = (i : Int) + 1 := wrap_id (by omega) (by omega)
        have hk := q1 r[i] (List.getElem_mem hi)
        have ha := tx_app (codesOut (cods l) (r.take i)) ((cods l)[r[i]]) (by simp [codesOut]; omega)
        have h1 := tx_one ((cods l)[r[i]])
        have h2 := tx_chk ((cods l)[r[i]])
        have e : codesOut (cods l) (r.take (i + 1)) = codesOut (cods l) (r.take i) ++ [(cods l)[r[i]]] := by
          unfold codesOut
          rw [take_snoc hi, List.map_append, List.map_cons, List.map_nil, getD_eq hk]
        rw [e]
        generalize codesOut (cods l) (r.take i) = q at ha
        generalize cods l = cs at hk ha h1 h2
        simp -implicitDefEqProofs [hi, hk, hw, h1, h2, ha, -appD_eq]
      · simp -implicitDefEqProofs
      · simp -implicitDefEqProofs
theorem e_impl_codesOf (l : List Bx) (hc : Codes (cods l)) (hl : l.length ≤ 1048576) (s : ByteArray) (hs : s.size ≤ 1000) {r : Option (List Nat)} (h : Sets (cods l) (chars s) [] r) : F_impl_codesOf [bxs l, T s] = some (.ret [txs (codesOut (cods l) (r.getD [])), B r.isSome] []) := by
  rw [t_impl_codesOf]
  have et := e_impl_sortsOf hc (by simpa using hl) s hs h
  have hr := sets_lt hc h (by simp)
  have hsz : s.size = (chars s).length := rfl
  obtain ⟨q, ok, hq, q1, q2, he⟩ : ∃ (q : List Nat) (ok : Bool), r.getD [] = q ∧ (∀ i ∈ q, i < (cods l).length) ∧ q.length ≤ 1000 ∧ F_impl_sortsOf [fD (cods l), T s] = some (.ret [nats q, B ok] []) ∧ r.isSome = ok := by
    cases r with
    | none => exact ⟨[], false, rfl, by simp, by simp, et, rfl⟩
    | some r =>
      obtain ⟨q1, q2⟩ := hr r rfl
      exact ⟨r, true, rfl, q1, by simp at q2; omega, et, rfl⟩
  rw [hq, he.2]
  simp only [mkArr_nil, lenD_arr, List.length_map, Option.bind_some]
  refine loop_bind (.ext 0 [T s, fD (cods l)]) (loop_for l.length (fun i => [T s, fD (cods (l.take i)), bxs l, I l.length, I i]) _ (fun i hi => ?_) ?_ rfl rfl) ?_
  · have hw : IntKind.i64.wrap ((i : Int) + 1) = (i : Int) + 1 := wrap_id (by omega) (by omega)
    have ha := so_app (cods (l.take i)) l[i].1 (by simp; omega)
    have hb := bldSo l[i].1
    have h1 := so_one l[i].1
    have h2 := so_chk l[i].1
    have e : cods (l.take (i + 1)) = cods (l.take i) ++ [l[i].1] := by
      unfold cods
      rw [take_snoc hi, List.map_append]
      rfl
    rw [e]
    generalize cods (l.take i) = q at ha
    simp -implicitDefEqProofs [hi, hw, hb, h1, h2, ha, -appD_eq]
  · simp -implicitDefEqProofs
  · simp -implicitDefEqProofs [he.1, mkArr_nil]
    refine loop_bind (.ext 2 [B ok, txs (codesOut (cods l) q)]) (loop_for q.length (fun i => [fD (cods l), B ok, txs (codesOut (cods l) (q.take i)), nats q, I q.length, I i]) _ (fun i hi => ?_) ?_ rfl rfl) ?_
    · have hw : IntKind.i64.wrap ((i : Int) + 1) = (i : Int) + 1 := wrap_id (by omega) (by omega)
      have hk := q1 q[i] (List.getElem_mem hi)
      have ha := tx_app (codesOut (cods l) (q.take i)) ((cods l)[q[i]]) (by simp [codesOut]; omega)
      have h1 := tx_one ((cods l)[q[i]])
      have h2 := tx_chk ((cods l)[q[i]])
      have e : codesOut (cods l) (q.take (i + 1)) = codesOut (cods l) (q.take i) ++ [(cods l)[q[i]]] := by
        unfold codesOut
        rw [take_snoc hi, List.map_append, List.map_cons, List.map_nil, getD_eq hk]
      rw [e]
      generalize codesOut (cods l) (q.take i) = qq at ha
      generalize cods l = cs at hk ha h1 h2
      simp -implicitDefEqProofs [hi, hk, hw, h1, h2, ha, -appD_eq]
    · simp -implicitDefEqProofs
    · simp -implicitDefEqProofs

end Go.Proofs.Ytankikbbdfgkbaa
/-
  Types taken from a case; whether a word may be set; the law.
-/
namespace Go.Proofs.Ytankikbbdfgkbaa
open Go Go.V
set_option linter.unusedSimpArgs false

/-- A case with some types more of a code. -/
def updF (cs : List ByteArray) (by_ : Int) (l : List Bx) (c : ByteArray) : List Bx :=
  l.set (fC cs c).toNat ((l.getD (fC cs c).toNat (ByteArray.empty, 0, 0, 0)).1, (l.getD (fC cs c).toNat (ByteArray.empty, 0, 0, 0)).2.1, (l.getD (fC cs c).toNat (ByteArray.empty, 0, 0, 0)).2.2.1, IntKind.i64.wrap ((l.getD (fC cs c).toNat (ByteArray.empty, 0, 0, 0)).2.2.2 + by_))
theorem updF_cods (cs : List ByteArray) (by_ : Int) (l : List Bx) (c : ByteArray) : cods (updF cs by_ l c) = cods l := by
  unfold updF cods
  rw [List.map_set]
  refine List.ext_getElem? fun i => ?_
  rw [List.getElem?_set]
  split
  · rename_i h
    subst h
    simp only [List.length_map, List.getElem?_map, List.getD_eq_getElem?_getD]
    split
    · rename_i h
      rw [List.getElem?_eq_getElem h]
      rfl
    · rename_i h
      rw [List.getElem?_eq_none (by omega)]
      rfl
  · rfl
def moveC (cs : List ByteArray) (by_ : Int) (l : List Bx) (codes : List ByteArray) : List Bx := codes.foldl (updF cs by_) l
theorem moveC_cods (cs : List ByteArray) (by_ : Int) : ∀ (codes : List ByteArray) (l : List Bx), cods (moveC cs by_ l codes) = cods l
  | [], l => rfl
  | c :: codes, l => by
    show cods (moveC cs by_ (updF cs by_ l c) codes) = cods l
    rw [moveC_cods cs by_ codes, updF_cods]
theorem okBx_cods {l m : List Bx} (h : okBx l) (e : cods m = cods l) : okBx m := by
  have hl : m.length = l.length := by
    have := congrArg List.length e
    simpa using this
  refine ⟨by rw [hl]; exact h.1, fun x hx => ?_⟩
  have : x.1 ∈ cods m := List.mem_map_of_mem hx
  rw [e] at this
  obtain ⟨y, hy, hy'⟩ := List.mem_map.1 this
  rw [← hy']
  exact h.2 y hy
theorem moveC_snoc (cs : List ByteArray) (by_ : Int) (l : List Bx) (codes : List ByteArray) {i : Nat} (hi : i < codes.length) : moveC cs by_ l (codes.take (i + 1)) = updF cs by_ (moveC cs by_ l (codes.take i)) codes[i] := by
  unfold moveC
  rw [take_snoc hi, List.foldl_append]
  rfl
theorem bxs_copy (l : List Bx) (h : l.length ≤ 1048576) : (((mkArr 4 []).bind fun a => (chkA (bxs l)).bind fun b => appD 4 40 a b) = some (bxs l)) := by
  rw [mkArr_nil, Option.bind_some, chkA_map isV_bx, Option.bind_some, appD_eq, if_pos (by simp only [List.length_nil, List.length_map]; omega)]
  rfl
theorem upd_run (cs : List ByteArray) (by_ : Int) (m : List Bx) (c : ByteArray) (k : Nat) (hk : fC cs c = k) (hm : k < m.length) : stD 1 (bxs m) (.ref k 3) (.v (.int .i64 (IntKind.i64.wrap (m[k].2.2.2 + by_)))) = some (bxs (updF cs by_ m c)) := by
  rw [stD_part (c := [T m[k].1, I m[k].2.1, I m[k].2.2.1, I m[k].2.2.2]) (by simp [hm]) (by simp)]
  unfold updF
  rw [hk, Int.toNat_natCast, List.getD_eq_getElem?_getD, List.getElem?_eq_getElem hm]
  simp [List.map_set]

theorem e_spec_caMove (l : List Bx) (codes : List ByteArray) (by_ : Int) (h : okBx l) (hl : codes.length ≤ 1048576) (hc : ∀ c ∈ codes, ∃ k : Nat, fC (cods l) c = k ∧ k < l.length) :
    F_spec_caMove [bxs l, txs codes, I by_] = some (.ret [if goodC (moveC (cods l) by_ l codes) = true then bxs (moveC (cods l) by_ l codes) else .arr 4 [], B (goodC (moveC (cods l) by_ l codes))] []) := by
  rw [t_spec_caMove]
  have h0 := h.1
  have ha : appD 4 40 (.arr 4 []) (bxs l) = some (bxs l) := by
    rw [appD_eq, if_pos (by simp only [List.length_nil, List.length_map]; omega)]
    rfl
  simp only [mkArr_nil, Option.bind_some, chkA_map isV_bx, ha, lenD_arr, List.length_map]
  refine loop_bind (.ext 0 [bxs (moveC (cods l) by_ l codes)]) (loop_for codes.length (fun i => [I by_, bxs (moveC (cods l) by_ l (codes.take i)), txs codes, I codes.length, I i]) _ (fun i hi => ?_) ?_ rfl rfl) ?_
  · have hw : IntKind.i64.wrap ((i : Int) + 1) = (i : Int) + 1 := wrap_id (by omega) (by omega)
    have hm := moveC_cods (cods l) by_ (codes.take i) l
    obtain ⟨k, hk1, hk2⟩ := hc codes[i] (List.getElem_mem hi)
    rw [moveC_snoc _ _ _ _ hi]
    generalize moveC (cods l) by_ l (codes.take i) = m at hm
    have hml : m.length = l.length := by
      have := congrArg List.length hm
      simpa using this
    have ef := e_spec_caFind m codes[i] (by omega)
    rw [fB_eq, hm, hk1] at ef
    have hkm : k < m.length := by omega
    have eu := upd_run (cods l) by_ m codes[i] k hk1 hkm
    simp -implicitDefEqProofs [hi, hw, ef, hkm, eu]
  · simp -implicitDefEqProofs
  · have eg := e_spec_caGood _ (okBx_cods h (moveC_cods (cods l) by_ codes l))
    cases hg : goodC (moveC (cods l) by_ l codes) <;> rw [hg] at eg <;> simp -implicitDefEqProofs [eg]
theorem e_impl_changed (l : List Bx) (codes : List ByteArray) (by_ : Int) (h : okBx l) (hl : codes.length ≤ 60) (hg : goodC l = true) (hc : ∀ c ∈ codes, ∃ k : Nat, fC (cods l) c = k ∧ k < l.length) :
    F_impl_changed [bxs l, txs codes, I by_] = some (.ret [if goodC (moveC (cods l) by_ l codes) = true then bxs (moveC (cods l) by_ l codes) else .arr 4 [], B (goodC (moveC (cods l) by_ l codes))] []) := by
  rw [t_impl_changed]
  have h0 := h.1
  have ha : appD 4 40 (.arr 4 []) (bxs l) = some (bxs l) := by
    rw [appD_eq, if_pos (by simp only [List.length_nil, List.length_map]; omega)]
    rfl
  have hall : hasAll l codes = true := by
    have key : ∀ (m : List ByteArray) (i : Nat), (∀ c ∈ m, ∃ k : Nat, fC (cods l) c = k ∧ k < l.length) → allI (fun _ c => !decide (fB l c < 0)) i m = true := by
      intro m
      induction m with
      | nil => intro i _; rfl
      | cons c m ih =>
        intro i hm
        obtain ⟨k, hk, _⟩ := hm c (by simp)
        have hk0 : ¬ fB l c < 0 := by rw [fB_eq, hk]; omega
        simp [allI, ih (i + 1) (fun d hd => hm d (by simp [hd])), hk0]
    exact key codes 0 hc
  have ea := e_impl_areCodes l codes h (by omega)
  rw [hall, hg] at ea
  have h60 : (codes.length : Int) ≤ 60 := by omega
  simp -implicitDefEqProofs only [ea, h60, decide_true, Bool.and_self, Bool.not_true, callK_ret, sl_zero, un_not, ifD_B, Bool.false_eq_true, if_false, mkArr_nil, Option.bind_some, chkA_map isV_bx, ha, lenD_arr, List.length_map]
  refine loop_bind (.ext 0 [bxs (moveC (cods l) by_ l codes)]) (loop_for codes.length (fun i => [bxs l, I by_, bxs (moveC (cods l) by_ l (codes.take i)), txs codes, I codes.length, I i]) _ (fun i hi => ?_) ?_ rfl rfl) ?_
  · have hw : IntKind.i64.wrap ((i : Int) + 1) = (i : Int) + 1 := wrap_id (by omega) (by omega)
    have hm := moveC_cods (cods l) by_ (codes.take i) l
    obtain ⟨k, hk1, hk2⟩ := hc codes[i] (List.getElem_mem hi)
    rw [moveC_snoc _ _ _ _ hi]
    generalize moveC (cods l) by_ l (codes.take i) = m at hm
    have hml : m.length = l.length := by
      have := congrArg List.length hm
      simpa using this
    have ef := e_impl_boxAt l codes[i] (by omega)
    rw [fB_eq, hk1] at ef
    have hkm : k < m.length := by omega
    have eu := upd_run (cods l) by_ m codes[i] k hk1 hkm
    simp -implicitDefEqProofs [hi, hw, ef, hkm, eu]
  · simp -implicitDefEqProofs
  · have eg := e_impl_IsCase _ (okBx_cods h (moveC_cods (cods l) by_ codes l))
    cases hg : goodC (moveC (cods l) by_ l codes) <;> rw [hg] at eg <;> simp -implicitDefEqProofs [eg, mkArr_nil]
theorem e_impl_TakeTypes (l : List Bx) (codes : List ByteArray) (h : okBx l) (hl : codes.length ≤ 60) (hg : goodC l = true) (hc : ∀ c ∈ codes, ∃ k : Nat, fC (cods l) c = k ∧ k < l.length) :
    F_impl_TakeTypes [bxs l, txs codes] = some (.ret [if goodC (moveC (cods l) (-1) l codes) = true then bxs (moveC (cods l) (-1) l codes) else .arr 4 [], B (goodC (moveC (cods l) (-1) l codes))] []) := by
  rw [t_impl_TakeTypes]
  have e := e_impl_changed l codes (-1) h hl hg hc
  cases hq : goodC (moveC (cods l) (-1) l codes) <;> rw [hq] at e <;> simp -implicitDefEqProofs at e <;> simp -implicitDefEqProofs [e]

theorem e_spec_tyWord (s : ByteArray) (h : s.size ≤ 9223372036854775807) : F_spec_tyWord [T s] = some (.ret [B (letters s 1 16)] []) := by
  rw [t_spec_tyWord]
  simp [e_spec_tyLetters s 16 h]
theorem e_impl_isWord (s : ByteArray) (h : s.size ≤ 9223372036854775807) : F_impl_isWord [T s] = some (.ret [B (letters s 1 16)] []) := by
  rw [t_impl_isWord]
  simp [e_impl_areLetters s 1 16 h]
theorem codesOut_in {l : List Bx} {r : List Nat} (hr : ∀ i ∈ r, i < (cods l).length) : ∀ c ∈ codesOut (cods l) r, ∃ k : Nat, fC (cods l) c = k ∧ k < l.length := by
  intro c hcm
  obtain ⟨i, hi, rfl⟩ := List.mem_map.1 hcm
  have hi' := hr i hi
  rw [getD_eq hi']
  rcases fC_is (cs := cods l) (c := (cods l)[i]) with ⟨_, e⟩ | ⟨j, hj, e1, e2⟩
  · exact absurd rfl (e i hi')
  · exact ⟨j, e1, by simpa using hj⟩
end Go.Proofs.Ytankikbbdfgkbaa
/-
  Calls of what the shop's functions call; types put and taken.
-/
namespace Go.Proofs.Ytankikbbdfgkbaa
open Go Go.Proofs Go.V Go.RowKit
set_option linter.unusedSimpArgs false
set_option linter.unusedVariables false

/-- What a call answers that returns a row of its own and a value. -/
def OutB (w : World) (z : Nat) (d : D) (b : Value) (e : Ending) (w' : World) : Prop := ∃ A n c, e = .returned (.tuple #[.slice A n c, b]) ∧ OwnV w' (fun _ => False) (ownB (.slice A n c)) z d (.slice A n c) ∧ (∀ b, ownB (.slice A n c) b → w.heap.size ≤ b ∧ b < w'.heap.size) ∧ Below w.heap.size w w'
theorem calls_ownB {f : Nat} {z : Nat} {pm : List Kd} {ff : List D → Option Out} {ds : List D} {d : D} {b : Value} {args : Array Value} (he : ∀ args w, (callFunc f args).run Try.prog w = .ok (.enter f args) w) (hm : Meets gl0 Try.prog f { pm := pm, rm := [.own z 0 false, .dat 0], f := ff }) (hd : ff ds = some (.ret [d, .v b] [])) (hbad : d ≠ .bad) {w : World} {F : Nat → Prop}
    (ha : ArgsOk w F (fun _ => none) 0 pm ds args.toList) (hF : ∀ b, F b → b < w.heap.size) :
    Calls Try.prog f args w (OutB w z d b) := by
  refine (calls_of_meets' (ow := fun _ => none) (F := F) (ds := ds) (rs := [d, .v b]) (us := []) (args := args) he hm hd gOk_nil ha (fun b hb => ⟨hF b hb, rfl⟩) (fun b i h => by cases h)).mono ?_
  rintro e w' ⟨v, rfl, F', R, vs, rfl, hp⟩
  have hl := hp.len
  obtain ⟨u, u2, rfl⟩ := len_two (hl.trans rfl)
  have h0 := hp.res 0
  have h1 := hp.res 1
  rcases h0 with h0 | h0
  · exact absurd h0 hbad
  rcases h1 with h1 | h1
  · cases h1
  obtain ⟨hu2, _⟩ := RepV_v.1 h1
  have hu2' : u2 = b := hu2
  subst hu2'
  obtain ⟨m, e1, h2, h3⟩ := h0
  have hB : Below w.heap.size w w' := ⟨hp.os, hp.tape, hp.output, hp.size, fun b hb => hp.keep b hb rfl⟩
  rcases h3 with ⟨h3, h30⟩ | ⟨g, o, c, us, cs, e, h4, h5, h6, h7, h8, h9, _, h11⟩
  · have h3' : u = .slice none 0 0 := h3
    subst h3'
    exact ⟨_, _, _, rfl, ⟨m, e1, h2, .inl ⟨rfl, h30⟩⟩, (fun b hb => by cases hb), hB⟩
  · have h4' : u = .slice (some ⟨g, o, none⟩) m.length c := h4
    subst h4'
    refine ⟨_, _, _, rfl, ⟨m, e1, h2, .inr ⟨g, o, c, us, cs, e, rfl, h5, h6, h7, RepL_mono (fun b hb => hb.elim) (fun b hb => hb.elim) _ _ h8, h9, rfl⟩⟩, fun b hb => ?_, hB⟩
    have hb' : g = b := Option.some.inj hb
    subst hb'
    exact ⟨h11, (Array.getElem?_eq_some_iff.1 h6).1⟩
/-- The case after types were put (1) or taken (-1): nothing if it is none. -/
def mvd (l : List Bx) (cs : List ByteArray) (by_ : Int) : List Bx := if goodC (moveC (cods l) by_ l cs) = true then moveC (cods l) by_ l cs else []
theorem mvd_D (l : List Bx) (cs : List ByteArray) (by_ : Int) : (if goodC (moveC (cods l) by_ l cs) = true then bxs (moveC (cods l) by_ l cs) else .arr 4 []) = bxs (mvd l cs by_) := by
  unfold mvd
  split <;> rfl
theorem e_impl_PutTypes (l : List Bx) (codes : List ByteArray) (h : okBx l) (hl : codes.length ≤ 60) (hg : goodC l = true) (hc : ∀ c ∈ codes, ∃ k : Nat, fC (cods l) c = k ∧ k < l.length) :
    F_impl_PutTypes [bxs l, txs codes] = some (.ret [if goodC (moveC (cods l) 1 l codes) = true then bxs (moveC (cods l) 1 l codes) else .arr 4 [], B (goodC (moveC (cods l) 1 l codes))] []) := by
  rw [t_impl_PutTypes]
  have e := e_impl_changed l codes 1 h hl hg hc
  cases hq : goodC (moveC (cods l) 1 l codes) <;> rw [hq] at e <;> simp -implicitDefEqProofs at e <;> simp -implicitDefEqProofs [e]
set_option maxRecDepth 100000 in
theorem call_PutTypes (l : List Bx) (codes : List ByteArray) (h : okBx l) (hl : codes.length ≤ 60) (hg : goodC l = true) (hc : ∀ c ∈ codes, ∃ k : Nat, fC (cods l) c = k ∧ k < l.length) {w : World} {F F' : Nat → Prop} {y y' : Value} (hr : RepV w F (bxs l) y) (hF : ∀ b, F b → b < w.heap.size) (hr' : RepV w F' (txs codes) y') (hF' : ∀ b, F' b → b < w.heap.size) :
    Calls Try.prog 42 #[y, y'] w (OutB w 4 (bxs (mvd l codes 1)) (.bool (goodC (moveC (cods l) 1 l codes)))) :=
  calls_ownB (ds := [bxs l, txs codes]) (F := fun b => F b ∨ F' b) (Go.Proofs.enters_of Try.func42 (by kernel_rfl) rfl) M_impl_PutTypes (by rw [← mvd_D]; exact e_impl_PutTypes l codes h hl hg hc) (by simp)
    (show ArgOk w (fun b => F b ∨ F' b) _ (.dat 2) (bxs l) y ∧ ArgOk w _ _ (.dat 2) (txs codes) y' ∧ True from ⟨.inr (RepV_mono (fun _ h => .inl h) (fun _ _ => rfl) hr), .inr (RepV_mono (fun _ h => .inr h) (fun _ _ => rfl) hr'), trivial⟩) (fun b hb => hb.elim (hF b) (hF' b))
set_option maxRecDepth 100000 in
theorem call_TakeTypes (l : List Bx) (codes : List ByteArray) (h : okBx l) (hl : codes.length ≤ 60) (hg : goodC l = true) (hc : ∀ c ∈ codes, ∃ k : Nat, fC (cods l) c = k ∧ k < l.length) {w : World} {F F' : Nat → Prop} {y y' : Value} (hr : RepV w F (bxs l) y) (hF : ∀ b, F b → b < w.heap.size) (hr' : RepV w F' (txs codes) y') (hF' : ∀ b, F' b → b < w.heap.size) :
    Calls Try.prog 87 #[y, y'] w (OutB w 4 (bxs (mvd l codes (-1))) (.bool (goodC (moveC (cods l) (-1) l codes)))) :=
  calls_ownB (ds := [bxs l, txs codes]) (F := fun b => F b ∨ F' b) (Go.Proofs.enters_of Try.func87 (by kernel_rfl) rfl) M_impl_TakeTypes (by rw [← mvd_D]; exact e_impl_TakeTypes l codes h hl hg hc) (by simp)
    (show ArgOk w (fun b => F b ∨ F' b) _ (.dat 2) (bxs l) y ∧ ArgOk w _ _ (.dat 2) (txs codes) y' ∧ True from ⟨.inr (RepV_mono (fun _ h => .inl h) (fun _ _ => rfl) hr), .inr (RepV_mono (fun _ h => .inr h) (fun _ _ => rfl) hr'), trivial⟩) (fun b hb => hb.elim (hF b) (hF' b))
set_option maxRecDepth 100000 in
theorem call_caMove (l : List Bx) (codes : List ByteArray) (by_ : Int) (h : okBx l) (hl : codes.length ≤ 1048576) (hc : ∀ c ∈ codes, ∃ k : Nat, fC (cods l) c = k ∧ k < l.length) {w : World} {F F' : Nat → Prop} {y y' : Value} (hr : RepV w F (bxs l) y) (hF : ∀ b, F b → b < w.heap.size) (hr' : RepV w F' (txs codes) y') (hF' : ∀ b, F' b → b < w.heap.size) :
    Calls Try.prog 40 #[y, y', .int .i64 by_] w (OutB w 4 (bxs (mvd l codes by_)) (.bool (goodC (moveC (cods l) by_ l codes)))) :=
  calls_ownB (ds := [bxs l, txs codes, I by_]) (F := fun b => F b ∨ F' b) (Go.Proofs.enters_of Try.func40 (by kernel_rfl) rfl) M_spec_caMove (by rw [← mvd_D]; exact e_spec_caMove l codes by_ h hl hc) (by simp)
    (show ArgOk w (fun b => F b ∨ F' b) _ (.dat 2) (bxs l) y ∧ ArgOk w _ _ (.dat 2) (txs codes) y' ∧ ArgOk w _ _ (.dat 0) (I by_) (.int .i64 by_) ∧ True from ⟨.inr (RepV_mono (fun _ h => .inl h) (fun _ _ => rfl) hr), .inr (RepV_mono (fun _ h => .inr h) (fun _ _ => rfl) hr'), .inr (RepV_v.2 ⟨rfl, rfl⟩), trivial⟩) (fun b hb => hb.elim (hF b) (hF' b))
theorem calls_datF {f : Nat} {ff : List D → Option Out} {a : D} {b : Value} (he : ∀ args w, (callFunc f args).run Try.prog w = .ok (.enter f args) w) (hm : Meets gl0 Try.prog f { pm := [.dat 2], rm := [.dat 0], f := ff }) (hd : ff [a] = some (.ret [.v b] [])) {w : World} {F : Nat → Prop} {y : Value} (hr : RepV w F a y) (hF : ∀ b, F b → b < w.heap.size) :
    Calls Try.prog f #[y] w fun e w' => e = .returned b ∧ Below w.heap.size w w' :=
  calls_flat1 he hm ff rfl hd rfl gOk_nil (show ArgOk w F _ (.dat 2) a y ∧ True from ⟨.inr hr, trivial⟩) hF
set_option maxRecDepth 100000 in
theorem call_shGood (s : Sp) (h : okSp s) {w : World} {F : Nat → Prop} {y : Value} (hr : RepV w F (sp s) y) (hF : ∀ b, F b → b < w.heap.size) :
    Calls Try.prog 31 #[y] w fun e w' => e = .returned (.bool (shopOk s)) ∧ Below w.heap.size w w' :=
  calls_datF (Go.Proofs.enters_of Try.func31 (by kernel_rfl) rfl) M_spec_shGood (e_spec_shGood s h) hr hF
set_option maxRecDepth 100000 in
theorem call_IsShop (s : Sp) (h : okSp s) {w : World} {F : Nat → Prop} {y : Value} (hr : RepV w F (sp s) y) (hF : ∀ b, F b → b < w.heap.size) :
    Calls Try.prog 34 #[y] w fun e w' => e = .returned (.bool (shopOk s)) ∧ Below w.heap.size w w' :=
  calls_datF (Go.Proofs.enters_of Try.func34 (by kernel_rfl) rfl) M_impl_IsShop (e_impl_IsShop s h) hr hF
theorem isFm_in {l : List Bx} {x : Fm} (h : isFm l x = true) : ∀ c ∈ x.2.1, ∃ k : Nat, fC (cods l) c = k ∧ k < l.length := by
  intro c hc
  unfold isFm at h
  simp only [Bool.and_eq_true] at h
  have h1 := h.2
  unfold hasAll at h1
  obtain ⟨j, hj, rfl⟩ := List.mem_iff_getElem.1 hc
  have h2 := allI_at h1 j hj
  simp only [Bool.not_eq_true', decide_eq_false_iff_not, fB_eq] at h2
  rcases fC_is (cs := cods l) (c := x.2.1[j]) with ⟨e, _⟩ | ⟨k, hk, e1, _⟩
  · rw [e] at h2
    omega
  · exact ⟨k, e1, by simpa using hk⟩
/-- The boxes after the types of some formes were put back. -/
def mvs (l : List Bx) (fs : List Fm) : List Bx := fs.foldl (fun m f => moveC (cods m) 1 m f.2.1) l
theorem mvs_cods : ∀ (fs : List Fm) (l : List Bx), cods (mvs l fs) = cods l
  | [], _ => rfl
  | f :: fs, l => by
    show cods (mvs (moveC (cods l) 1 l f.2.1) fs) = cods l
    rw [mvs_cods fs, moveC_cods]
theorem mvs_snoc (l : List Bx) (fs : List Fm) (f : Fm) : mvs l (fs ++ [f]) = moveC (cods (mvs l fs)) 1 (mvs l fs) f.2.1 := by
  unfold mvs
  rw [List.foldl_append]
  rfl
theorem mvs_len (l : List Bx) (fs : List Fm) : (mvs l fs).length = l.length := by
  have := congrArg List.length (mvs_cods fs l)
  simpa using this
/-- All types can be put back. -/
def retG (s : Sp) : Prop := shopOk s = true ∧ ∀ j, j < s.2.1.length → goodC (mvs s.1 (s.2.1.take (j + 1))) = true
open Classical in
noncomputable def retB (s : Sp) : Bool := decide (retG s)
open Classical in
noncomputable def retS (s : Sp) : Sp := if retG s then (mvs s.1 s.2.1, [], s.2.2.1, s.2.2.2) else ([], [], 0, 0)
theorem ret_no {s : Sp} (h : ¬ retG s) : retB s = false ∧ retS s = ([], [], 0, 0) := ⟨by simp [retB, h], by simp [retS, h]⟩
theorem ret_yes {s : Sp} (h : retG s) : retB s = true ∧ retS s = (mvs s.1 s.2.1, [], s.2.2.1, s.2.2.2) := ⟨by simp [retB, h], by simp [retS, h]⟩
theorem shop_zero (w : World) (B : Nat) : ShopV w B (.agg #[.slice none 0 0, .slice none 0 0, .int .i64 0, .int .i64 0]) ([], [], 0, 0) :=
  ⟨_, _, [], rfl, own_nil _ _ _ _, (fun b hb => by cases hb), FmsAt_nil _ _, (fun b hb => by cases hb)⟩
/-- A shop under way in a box: its boxes lie in memory of their own. -/
def BoxB (w : World) (p B : Nat) (X : Nat → Prop) (Vf : Value) (x y : Int) (l : List Bx) : Prop :=
  ∃ A n c, w.heap[p]? = some (.cells #[.slice A n c, Vf, .int .i64 x, .int .i64 y] 33 (0, 0)) ∧ OwnV w (fun _ => False) (ownB (.slice A n c)) 4 (bxs l) (.slice A n c) ∧ ∀ b, ownB (.slice A n c) b → B ≤ b ∧ ¬ X b
end Go.Proofs.Ytankikbbdfgkbaa
/-
  impl.ReturnedShop, walked by hand.
-/
namespace Go.Proofs.Ytankikbbdfgkbaa
open Go Go.Proofs Go.V Go.RowKit
set_option linter.unusedSimpArgs false
set_option linter.unusedVariables false

def Gd (s : Sp) (i : Nat) : Prop := ∀ j, j < i → goodC (mvs s.1 (s.2.1.take (j + 1))) = true
theorem mvs_succ (s : Sp) {i : Nat} (hi : i < s.2.1.length) : mvs s.1 (s.2.1.take (i + 1)) = moveC (cods (mvs s.1 (s.2.1.take i))) 1 (mvs s.1 (s.2.1.take i)) s.2.1[i].2.1 := by
  rw [List.take_succ_eq_append_getElem hi, mvs_snoc]
theorem put_pre {s : Sp} (hs : okSp s) (hok : shopOk s = true) {i : Nat} (hi : i < s.2.1.length) (hg : Gd s i) : okBx (mvs s.1 (s.2.1.take i)) ∧ s.2.1[i].2.1.length ≤ 60 ∧ goodC (mvs s.1 (s.2.1.take i)) = true ∧ ∀ c ∈ s.2.1[i].2.1, ∃ k : Nat, fC (cods (mvs s.1 (s.2.1.take i))) c = k ∧ k < (mvs s.1 (s.2.1.take i)).length := by
  obtain ⟨h1, h2, _⟩ := shopOk_parts hok
  have hf := h1 i hi
  refine ⟨okBx_cods hs.1 (mvs_cods _ _), by have := isFm_set hf; omega, ?_, ?_⟩
  · match i, hg with
    | 0, _ => exact h2
    | i + 1, hg => exact hg i (by omega)
  · rw [mvs_cods, mvs_len]
    exact isFm_in hf
theorem Gd.succ {s : Sp} {i : Nat} (h : Gd s i) (h1 : goodC (mvs s.1 (s.2.1.take (i + 1))) = true) : Gd s (i + 1) := fun j hj => by
  by_cases e : j = i
  · subst e
    exact h1
  · exact h j (by omega)
theorem shop_of_box {w : World} {B : Nat} {A A' : Option Addr} {n c n' c' : Nat} {l : List Bx} {ys : List Value} {fs : List Fm} {x y : Int} (h1 : OwnV w (fun _ => False) (ownB (.slice A n c)) 4 (bxs l) (.slice A n c)) (h2 : ∀ b, ownB (.slice A n c) b → B ≤ b ∧ ¬ FmS (.slice A' n' c') ys b)
    (h3 : FmsAt w B (.slice A' n' c') ys fs) : ShopAt w B (.agg #[.slice A n c, .slice A' n' c', .int .i64 x, .int .i64 y]) (.slice A n c) (.slice A' n' c') ys (l, fs, x, y) :=
  ⟨rfl, h1, fun b hb => (h2 b hb).1, h3, fun b hb => (h2 b hb).2⟩
set_option maxHeartbeats 8000000 in
set_option maxRecDepth 1000000 in
theorem impl_ReturnedShop_walk (s : Sp) (hs : okSp s) (v0 : Value) (w : World) (F : Nat → Prop) (hr : RepV w F (sp s) v0) (hF : ∀ b, F b → b < w.heap.size) :
    Calls Try.prog 17 #[v0] w fun e w' => ∃ v, e = .returned (.tuple #[v, .bool (retB s)]) ∧ ShopV w' w.heap.size v (retS s) ∧ Below w.heap.size w w' := by
  obtain ⟨A, n, c, A', n', c', rfl, hb, hf⟩ := shop_parts hr
  obtain ⟨us, hn, -, -, -, -, -⟩ := src_row hb bx_kind
  obtain ⟨us2, hn2, hul2, hus2, _, _, huA2⟩ := src_row hf fm_kind
  rw [List.length_map] at hn hn2
  subst hn hn2
  clear hb hf us
  go_enter Try.func17, Try.ntmps17
  have hb2 : ∀ a b, Below w.heap.size w ((w.alloc a).alloc b) := fun a b => ((Below.refl _ w).alloc (Nat.le_refl _) _).alloc (by simp) _
  have rep : ∀ {W : World}, Below w.heap.size w W → RepV W F (sp s) (.agg #[.slice A s.1.length c, .slice A' s.2.1.length c', .int .i64 s.2.2.1, .int .i64 s.2.2.2]) := fun {W} h => RepV_mono (fun _ h => h) (fun b hb => h.block b (hF b hb)) hr
  have hFW : ∀ {W : World}, Below w.heap.size w W → ∀ b, F b → b < W.heap.size := fun {W} h b hb => Nat.lt_of_lt_of_le (hF b hb) h.size
  have hc1 := fun a b => call_IsShop s hs (rep (hb2 a b)) (hFW (hb2 a b))
  go_wp2_with (go_at_call 34; refine (hc1 _ _).mono ?_)
  rintro e w2 ⟨rfl, b2⟩
  have H1 : w2.heap[w.heap.size]? = some (.cells #[.slice A s.1.length c, .slice A' s.2.1.length c', .int .i64 s.2.2.1, .int .i64 s.2.2.2] 33 (0, 0)) := Below.some b2 (past_alloc _ (at_alloc _ rfl))
  have H2 : w2.heap[w.heap.size + 1]? = some (.cells #[.slice none 0 0, .slice none 0 0, .int .i64 0, .int .i64 0] 33 (0, 0)) := Below.some b2 (at_alloc _ (by simp))
  have B2 : Below w.heap.size w w2 := bel_on (hb2 _ _) b2 (by simp; omega)
  have hl2 := some_lt H2
  clear hc1 b2
  cases hok : shopOk s
  · have hno : ¬ retG s := fun h => by
      have h1 : shopOk s = true := h.1
      rw [hok] at h1
      cases h1
    obtain ⟨eB, eS⟩ := ret_no hno
    obtain ⟨e0, e1, e2, e3⟩ := cells4 H2
    obtain ⟨g0, g1, g2, g3⟩ := froz4 H2
    go_wp2
    obtain ⟨d0, d1, d2, d3⟩ := cells4 (set4_same (.slice none 0 0) (.slice none 0 0) (.int .i64 0) (.int .i64 0) H2)
    refine bodyPost_ret (by simp [results, Try.results17, go_sem, d0, d1, d2, d3]; try rfl) rfl ?_
    (try rw [eB])
    (try rw [eS])
    exact ⟨_, rfl, shop_zero _ _, set4_below _ _ _ _ B2 (by omega)⟩
  obtain ⟨cb0, cb1, cb2, cb3⟩ := cells4 H1
  have hc3 := cloneShop_walk s hs _ w2 F (rep B2) (hFW B2)
  go_wp2_with (go_at_call 41; refine hc3.mono ?_)
  rintro e w3 ⟨v3, rfl, ⟨Vb, Vf, ys, sa⟩, b3⟩
  obtain rfl := sa.val
  have B3 := bel_on B2 b3 B2.size
  replace H1 := Below.some b3 H1
  replace H2 := Below.some b3 H2
  have ownb := sa.box
  have hblt := own_lt ownb
  have hbge := sa.bge
  obtain ⟨bA, bn, bc, rfl⟩ := own_slice ownb
  obtain ⟨fA, fn, fc, rfl⟩ := row_slice sa.fms.own
  have hl3 := some_lt H2
  have hs23 := b3.size
  clear sa b3 hc3 cb0 cb1 cb2 cb3
  have H5 : ((w3.alloc (.cells #[.slice bA bn bc, .slice (some ⟨w3.heap.size + 1, 0, none⟩) 0 0, .int .i64 s.2.2.1, .int .i64 s.2.2.2] 33)).alloc (.cells #[] 63)).heap[w3.heap.size]? = some (.cells #[.slice bA bn bc, .slice (some ⟨w3.heap.size + 1, 0, none⟩) 0 0, .int .i64 s.2.2.1, .int .i64 s.2.2.2] 33 (0, 0)) := past_alloc _ (at_alloc _ rfl)
  have H1' : ((w3.alloc (.cells #[.slice bA bn bc, .slice (some ⟨w3.heap.size + 1, 0, none⟩) 0 0, .int .i64 s.2.2.1, .int .i64 s.2.2.2] 33)).alloc (.cells #[] 63)).heap[w.heap.size]? = _ := past_alloc _ (past_alloc _ H1)
  have H2' : ((w3.alloc (.cells #[.slice bA bn bc, .slice (some ⟨w3.heap.size + 1, 0, none⟩) 0 0, .int .i64 s.2.2.1, .int .i64 s.2.2.2] 33)).alloc (.cells #[] 63)).heap[w.heap.size + 1]? = _ := past_alloc _ (past_alloc _ H2)
  have HE : ((w3.alloc (.cells #[.slice bA bn bc, .slice (some ⟨w3.heap.size + 1, 0, none⟩) 0 0, .int .i64 s.2.2.1, .int .i64 s.2.2.2] 33)).alloc (.cells #[] 63)).heap[w3.heap.size + 1]? = some (.cells #[] 63 (0, 0)) := at_alloc _ (by simp)
  have B5 : Below w.heap.size w ((w3.alloc (.cells #[.slice bA bn bc, .slice (some ⟨w3.heap.size + 1, 0, none⟩) 0 0, .int .i64 s.2.2.1, .int .i64 s.2.2.2] 33)).alloc (.cells #[] 63)) := (B3.alloc B3.size _).alloc (by simp; omega) _
  have own5 := own_keep (w' := (w3.alloc (.cells #[.slice bA bn bc, .slice (some ⟨w3.heap.size + 1, 0, none⟩) 0 0, .int .i64 s.2.2.1, .int .i64 s.2.2.2] 33)).alloc (.cells #[] 63)) ownb fun b hb => by
    have := hblt b hb
    rw [alloc_lt _ (by simp; omega), alloc_lt _ (by omega)]
  have S5 : ((w3.alloc (.cells #[.slice bA bn bc, .slice (some ⟨w3.heap.size + 1, 0, none⟩) 0 0, .int .i64 s.2.2.1, .int .i64 s.2.2.2] 33)).alloc (.cells #[] 63)).heap.size = w3.heap.size + 2 := by simp
  have cq1 := (cells4 H1').2.1
  go_wp2
  generalize (w3.alloc (.cells #[.slice bA bn bc, .slice (some ⟨w3.heap.size + 1, 0, none⟩) 0 0, .int .i64 s.2.2.1, .int .i64 s.2.2.2] 33)).alloc (.cells #[] 63) = W5 at *
  have S5a : w3.heap.size + 2 ≤ W5.heap.size := by omega
  have S5b : W5.heap.size ≤ w3.heap.size + 2 := by omega
  clear S5 cq1 H1 H2
  have hX : ∀ b, ownB (.slice bA bn bc) b → w.heap.size + 2 ≤ b ∧ ¬ (b = w3.heap.size ∨ b = w3.heap.size + 1) := fun b hb => by
    have h1 := hblt b hb
    have h2 := hbge b hb
    omega
  have hln := hs.2.1
  go_loopw [20] (fun vi wr => ∃ i : Nat, vi = .int .i64 i ∧ i ≤ s.2.1.length ∧ Gd s i ∧ BoxB wr w3.heap.size (w.heap.size + 2) (fun b => b = w3.heap.size ∨ b = w3.heap.size + 1) (.slice (some ⟨w3.heap.size + 1, 0, none⟩) 0 0) s.2.2.1 s.2.2.2 (mvs s.1 (s.2.1.take i)) ∧ KeptX (fun b => b = w3.heap.size) W5 wr) (fun vi _ => s.2.1.length - (intOf vi).toNat)
  case atStart =>
    exact ⟨0, rfl, Nat.zero_le _, (fun j hj => by omega), ⟨_, _, _, H5, own5, hX⟩, KeptX.refl _ _⟩
  case round =>
    obtain ⟨i, rfl, hin, hgd, ⟨Vg, Vn, Vc, H5r, ownr, hXr⟩, hK⟩ := hrel
    have hsz := hK.size
    have hBw : Below w.heap.size w wr := B5.trans (hK.below (B := w.heap.size) (fun b hb => by omega) (by omega))
    have H2r := (hK.block (w.heap.size + 1) (by omega) (by omega)).trans H2'
    by_cases hp : i < s.2.1.length
    · have hpi : (i : Int) < (s.2.1.length : Int) := by omega
      obtain ⟨b, o, rfl, hFb, hcell⟩ := huA2 (by omega)
      obtain ⟨Ax, nx, cx, u0, u1, u2, u3, hry⟩ := fm_cells hus2 hp
      have hcb : ∀ {k : Nat} {u : Value}, us2[k]? = some u → wr.cell? ⟨b, o + k, none⟩ = some u := fun {k u} hu => (World.cell?_of_block (w := w) (hBw.block b (hF b hFb))).trans (hcell k u hu)
      have k0 := hcb u0
      have k1 := hcb u1
      have k2 := hcb u2
      have k3 := hcb u3
      simp only [← Nat.add_assoc] at k1 k2 k3
      have hpre := put_pre hs hok hp hgd
      have hmv := mvs_succ s hp
      generalize s.2.1[i] = x at *
      have hBa : ∀ q, Below w.heap.size w (wr.alloc q) := fun q => hBw.alloc (by omega) _
      have ownq : ∀ q, OwnV (wr.alloc q) (fun _ => False) (ownB (.slice Vg Vn Vc)) 4 (bxs (mvs s.1 (s.2.1.take i))) (.slice Vg Vn Vc) := fun q => OwnV.below ownr (below_alloc wr q)
      have hcall := fun q => call_PutTypes (mvs s.1 (s.2.1.take i)) x.2.1 hpre.1 hpre.2.1 hpre.2.2.1 hpre.2.2.2 (w := wr.alloc q) (own_rep' (ownq q)) (own_lt (ownq q)) (RepV_mono (fun _ h => h) (fun b hb => (hBa q).block b (hF b hb)) hry) (fun b hb => Nat.lt_of_lt_of_le (hF b hb) (hBa q).size)
      rw [← hmv] at hcall
      have hmv' : Hid (mvs s.1 (s.2.1.take (i + 1)) = moveC (cods (mvs s.1 (s.2.1.take i))) 1 (mvs s.1 (s.2.1.take i)) x.2.1) := hmv
      clear hmv
      have m0 := fun q => (cells4 (past_alloc q H5r)).1
      go_wp2_with (go_at_call 42; refine (hcall _).mono ?_)
      intro e w6 hout
      obtain ⟨A6, n6, c6, rfl, own6, hv6, b6⟩ := hout
      have b6' : Below wr.heap.size wr w6 := bel_on (below_alloc _ _) b6 (by simp)
      have H26 := Below.some b6' H2r
      have H56 := Below.some b6' H5r
      have hsz6 := b6'.size
      cases hgo : goodC (mvs s.1 (s.2.1.take (i + 1)))
      · have hno : ¬ retG s := fun h => by
          have h1 := h.2 i hp
          rw [hgo] at h1
          cases h1
        obtain ⟨eB, eS⟩ := ret_no hno
        obtain ⟨e0, e1, e2, e3⟩ := cells4 H26
        obtain ⟨g0, g1, g2, g3⟩ := froz4 H26
        go_wp2
        obtain ⟨d0, d1, d2, d3⟩ := cells4 (set4_same (.slice none 0 0) (.slice none 0 0) (.int .i64 0) (.int .i64 0) H26)
        refine bodyPost_ret (by simp [results, Try.results17, go_sem, d0, d1, d2, d3]; try rfl) rfl ?_
        (try rw [eB])
        (try rw [eS])
        exact ⟨_, rfl, shop_zero _ _, set4_below _ _ _ _ (hBw.trans (b6'.mono (by omega))) (by omega)⟩
      · have em : mvd (mvs s.1 (s.2.1.take i)) x.2.1 1 = mvs s.1 (s.2.1.take (i + 1)) := by
          unfold mvd
          rw [← hmv'.out, if_pos hgo]
        rw [em] at own6
        have m56 := (cells4 H56).1
        have f56 := (froz4 H56).1
        have H57 := heap_setCell_same _ _ 0 _ _ (.slice A6 n6 c6) H56
        simp only [List.setIfInBounds_toArray, List.set_cons_zero, List.set_cons_succ] at H57
        have hv6' : ∀ b, ownB (.slice A6 n6 c6) b → wr.heap.size < b := fun b hb => by
          have := (hv6 b hb).1
          simp at this
          omega
        have own7 := own_keep (w' := w6.setCell ⟨w3.heap.size, 0, none⟩ (.slice A6 n6 c6)) own6 fun b hb => heap_setCell_other _ _ _ _ (by have := hv6' b hb; simp; omega)
        have hK7 : KeptX (fun b => b = w3.heap.size) W5 (w6.setCell ⟨w3.heap.size, 0, none⟩ (.slice A6 n6 c6)) := (hK.trans ⟨b6'.os, b6'.tape, b6'.output, b6'.size, fun b hb _ => b6'.block b hb⟩).set _ _ rfl
        have hX7 : ∀ b, ownB (.slice A6 n6 c6) b → w.heap.size + 2 ≤ b ∧ ¬ (b = w3.heap.size ∨ b = w3.heap.size + 1) := fun b hb => by
          have := hv6' b hb
          omega
        go_wp2
        refine ⟨⟨i + 1, congrArg (Value.int .i64) (by omega), by omega, hgd.succ hgo, ⟨_, _, _, H57, own7, hX7⟩, hK7⟩, ?_⟩
        show s.2.1.length - ((i : Int) + 1).toNat < s.2.1.length - (i : Int).toNat
        omega
    · have hpi : ¬ (i : Int) < (s.2.1.length : Int) := by omega
      have hie : i = s.2.1.length := by omega
      subst hie
      rw [List.take_length] at ownr
      obtain ⟨eB, eS⟩ := ret_yes (s := s) ⟨hok, hgd⟩
      obtain ⟨m0, m1, m2, m3⟩ := cells4 H5r
      obtain ⟨e0, e1, e2, e3⟩ := cells4 H2r
      obtain ⟨g0, g1, g2, g3⟩ := froz4 H2r
      have HEr := (hK.block (w3.heap.size + 1) (by omega) (by omega)).trans HE
      have hS := shop_of_box (x := s.2.2.1) (y := s.2.2.2) ownr (fun b hb => ⟨by have := (hXr b hb).1; omega, fun h => by
        rcases h with h | ⟨y, h, _⟩
        · have : w3.heap.size + 1 = b := Option.some.inj h
          exact (hXr b hb).2 (.inr this.symm)
        · simp at h⟩) (FmsAt_empty HEr (B := w.heap.size) (by omega))
      have hL := hS.lt
      go_wp2
      obtain ⟨d0, d1, d2, d3⟩ := cells4 (set4_same (.slice Vg Vn Vc) (.slice (some ⟨w3.heap.size + 1, 0, none⟩) 0 0) (.int .i64 s.2.2.1) (.int .i64 s.2.2.2) H2r)
      refine bodyPost_ret (by simp [results, Try.results17, go_sem, d0, d1, d2, d3]; try rfl) rfl ?_
      (try rw [eB])
      (try rw [eS])
      refine ⟨_, rfl, ⟨_, _, _, hS.set4 _ _ _ _ fun b hb => ?_⟩, set4_below _ _ _ _ hBw (by omega)⟩
      rcases hb with hb | hb
      · have := (hXr b hb).1
        omega
      · rcases hb with hb | ⟨y, hb, _⟩
        · have : w3.heap.size + 1 = b := Option.some.inj hb
          omega
        · simp at hb
end Go.Proofs.Ytankikbbdfgkbaa
/-
  spec.shOwn, walked by hand.
-/
namespace Go.Proofs.Ytankikbbdfgkbaa
open Go Go.Proofs Go.V Go.RowKit
set_option linter.unusedSimpArgs false
set_option linter.unusedVariables false
attribute [local go_sem ↓] Go.wp_at_zero Go.wp_at_succ

theorem wp_append_anyA {P : Program} (w : World) {o : Oper} {a : Act} {K : Act → World → Prop} {Q : Exit → Act → World → Prop} (s x : Operand) (t : TypeId)
    (ho : o.op = .call { callee := .builtin .append, args := #[s, x], argTypes := #[t, t] })
    (base : Nat) (e : TypeId) (i : TypeInfo) (z : Value) (size bytes : Nat) (ht : P.underlying t = some (.slice e)) (hi : P.info? e = some i) (hz : i.zero = some z)
    (hsize : i.size = size) (hby : i.bytes = bytes) (hzs : z.cells.size = size) (hsz : 0 < size)
    (v : Value) (n : Nat) (xs : List Value) (hs : a.eval s = v) (hown : w.ownsRow base e size v n xs)
    (A : Option Addr) (m c : Nat) (news : List Value) (hx : a.eval x = .slice A m c) (hl : news.length = m * size) (hA : m ≠ 0 → ∃ g o, A = some ⟨g, o, none⟩ ∧ ∀ j u, news[j]? = some u → w.cell? ⟨g, o + j, none⟩ = some u) (h1 : ∀ u ∈ news, u.oneCell' = true)
    (h63 : n + m ≤ maxLen) (hbytes : (n + m) * bytes ≤ 140737488355328) (hbase : base ≤ w.heap.size)
    (h : ∀ v' w', w'.ownsRow base e size v' (n + m) (xs ++ news) → w.grownBy w' v.ownBlock → (v'.ownBlock = v.ownBlock ∨ v'.ownBlock = some w.heap.size) → K (a.put o.dst v') w') : o.wp P a w K Q := by
  cases A with
  | some ad =>
    have hn : ∀ j u, news[j]? = some u → w.cell? (ad.add j) = some u := fun j u hj => by
      have hm : m ≠ 0 := by
        rintro rfl
        have : news = [] := List.eq_nil_of_length_eq_zero (by simpa using hl)
        subst this
        simp at hj
      obtain ⟨g, o, e1, h2⟩ := hA hm
      cases e1
      rw [show (⟨g, o, none⟩ : Addr).add j = ⟨g, o + j, none⟩ by cases j <;> simp [Addr.add]]
      exact h2 j u hj
    obtain ⟨v', w', hr, h2, h3, _, h5⟩ := run_append_own_at (P := P) w base t o.type e i z size bytes ht hi hz hsize hby hzs hsz v n xs hown ad m c news hl hn h1 h63 hbytes hbase
    unfold Oper.wp execOp
    simp only [ho, resolve, invoke, builtin, Sem.run_bind, Sem.run_pure, Result.andThen_ok, List.map_toArray, List.map_cons, List.map_nil, hs, hx, hr]
    exact h v' w' h2 h3 h5
  | none =>
    have hm : m = 0 := Classical.byContradiction fun hm => by
      obtain ⟨_, _, e1, _⟩ := hA hm
      cases e1
    subst hm
    have hnews : news = [] := List.eq_nil_of_length_eq_zero (by simpa using hl)
    subst hnews
    have hrun := run_append_owned_c (P := P) w base t o.type e i size c ht hi v n xs hown
    unfold Oper.wp
    simp [execOp, ho, resolve, invoke, builtin, hs, hx, hrun, Result.andThen]
    exact h v w (by simpa using hown) (World.grownBy.refl _ _) (.inl rfl)
theorem step_append_anyA {P : Program} (w : World) {ops : Array Oper} {o : Oper} {a : Act} {K : Act → World → Prop} {Q : Exit → Act → World → Prop} {E : Prop} (hgd : o.guard = none) (s x : Operand) (t : TypeId)
    (ho : o.op = .call { callee := .builtin .append, args := #[s, x], argTypes := #[t, t] })
    (base : Nat) (e : TypeId) (i : TypeInfo) (z : Value) (size bytes : Nat) (ht : P.underlying t = some (.slice e)) (hi : P.info? e = some i) (hz : i.zero = some z)
    (hsize : i.size = size) (hby : i.bytes = bytes) (hzs : z.cells.size = size) (hsz : 0 < size)
    (v : Value) (n : Nat) (xs : List Value) (hs : a.eval s = v) (hown : w.ownsRow base e size v n xs)
    (A : Option Addr) (m c : Nat) (news : List Value) (hx : a.eval x = .slice A m c) (hl : news.length = m * size) (hA : m ≠ 0 → ∃ g o, A = some ⟨g, o, none⟩ ∧ ∀ j u, news[j]? = some u → w.cell? ⟨g, o + j, none⟩ = some u) (h1 : ∀ u ∈ news, u.oneCell' = true)
    (h63 : n + m ≤ maxLen) (hbytes : (n + m) * bytes ≤ 140737488355328) (hbase : base ≤ w.heap.size)
    (h : ∀ v' w', w'.ownsRow base e size v' (n + m) (xs ++ news) → w.grownBy w' v.ownBlock → (v'.ownBlock = v.ownBlock ∨ v'.ownBlock = some w.heap.size) → K (a.put o.dst v') w') :
    if Region.wanted o (yielded ops a.tmps) = true then Oper.wp P o a w K Q else E := by
  have hw : Region.wanted o (yielded ops a.tmps) = true := by simp [Region.wanted, hgd]
  rw [if_pos hw]
  exact wp_append_anyA w s x t ho base e i z size bytes ht hi hz hsize hby hzs hsz v n xs hs hown A m c news hx hl hA h1 h63 hbytes hbase h
theorem e_spec_l1OwnS (l : List ByteArray) (h : l.length ≤ 1048576) : F_spec_l1OwnS [txs l] = some (.ret [txs l] []) := by
  rw [t_spec_l1OwnS]
  have hk : chkA (txs l) = some (txs l) := chkA_map fun _ => rfl
  rw [mkArr_nil, hk]
  simp only [Option.bind_some]
  rw [appD_eq, if_pos (by simp only [List.length_map, true_or, true_and, List.length_nil]; omega)]
  rfl
set_option maxRecDepth 100000 in
theorem call_l1OwnS (l : List ByteArray) (h : l.length ≤ 1048576) {w : World} {F : Nat → Prop} {y : Value} (hr : RepV w F (txs l) y) (hF : ∀ b, F b → b < w.heap.size) :
    Calls Try.prog 63 #[y] w fun e w' => ∃ A n c, e = .returned (.slice A n c) ∧ OwnV w' (fun _ => False) (ownB (.slice A n c)) 1 (txs l) (.slice A n c) ∧ (∀ b, ownB (.slice A n c) b → w.heap.size ≤ b ∧ b < w'.heap.size) ∧ Below w.heap.size w w' :=
  calls_to (Go.Proofs.enters_of Try.func63 (by kernel_rfl) rfl) M_spec_l1OwnS (e_spec_l1OwnS l h) (by simp) hr hF
theorem cells023 {w' : World} {b : Nat} {x0 x1 x2 x3 : Value} {t : TypeId} (h : w'.heap[b]? = some (.cells #[x0, x1, x2, x3] t (0, 0))) : w'.cell? ⟨b, 0, none⟩ = some x0 ∧ w'.cell? ⟨b, 2, none⟩ = some x2 ∧ w'.cell? ⟨b, 3, none⟩ = some x3 := ⟨(cells4 h).1, (cells4 h).2.2.1, (cells4 h).2.2.2⟩
theorem set4_other {w' : World} {b g : Nat} {o : Obj} (x0 x1 x2 x3 : Value) (hg : g ≠ b) (h : w'.heap[b]? = some o) : ((((w'.setCell ⟨g, 0, none⟩ x0).setCell ⟨g, 1, none⟩ x1).setCell ⟨g, 2, none⟩ x2).setCell ⟨g, 3, none⟩ x3).heap[b]? = some o := by
  rw [heap_setCell_other _ _ _ _ (by simp; omega), heap_setCell_other _ _ _ _ (by simp; omega), heap_setCell_other _ _ _ _ (by simp; omega), heap_setCell_other _ _ _ _ (by simp; omega)]
  exact h
theorem some_drew {w : World} {b : Nat} {o : Obj} (h : w.heap[b]? = some o) : w.drew.heap[b]? = some o := h
theorem set4_own {w' : World} {g : Nat} {z : Nat} {d : D} {y : Value} (x0 x1 x2 x3 : Value) (h : OwnV w' (fun _ => False) (ownB y) z d y) (hg : ∀ b, ownB y b → g ≠ b) : OwnV ((((w'.setCell ⟨g, 0, none⟩ x0).setCell ⟨g, 1, none⟩ x1).setCell ⟨g, 2, none⟩ x2).setCell ⟨g, 3, none⟩ x3) (fun _ => False) (ownB y) z d y :=
  own_keep h fun b hb => by
    have := hg b hb
    rw [heap_setCell_other _ _ _ _ (by simp; omega), heap_setCell_other _ _ _ _ (by simp; omega), heap_setCell_other _ _ _ _ (by simp; omega), heap_setCell_other _ _ _ _ (by simp; omega)]
/-- A shop under way in a box: its formes lie in memory of their own. -/
def BoxF (w : World) (p B : Nat) (Vb : Value) (x y : Int) (l : List Fm) : Prop := ∃ A n c ys, w.heap[p]? = some (.cells #[Vb, .slice A n c, .int .i64 x, .int .i64 y] 33 (0, 0)) ∧ FmsAt w B (.slice A n c) ys l
set_option maxHeartbeats 4000000 in
set_option maxRecDepth 1000000 in
theorem shOwn_walk (s : Sp) (hs : okSp s) (v0 : Value) (w : World) (F : Nat → Prop) (hr : RepV w F (sp s) v0) (hF : ∀ b, F b → b < w.heap.size) :
    Calls Try.prog 39 #[v0] w fun e w' => ∃ v, e = .returned v ∧ ShopV w' w.heap.size v s ∧ Below w.heap.size w w' := by
  obtain ⟨A, n, c, A', n', c', rfl, hb, hf⟩ := shop_parts hr
  obtain ⟨i0, hi0, hz0, hz1, hz2⟩ := info_parts info_Box
  obtain ⟨us, hn, hul, hus, huw, hu1, huA⟩ := src_row hb bx_kind
  obtain ⟨us2, hn2, hul2, hus2, _, _, huA2⟩ := src_row hf fm_kind
  rw [List.length_map] at hn hn2
  subst hn hn2
  have hbl := hs.1.1
  go_enter Try.func39, Try.ntmps39
  go_wp2
  have hb2 : ∀ a b, Below w.heap.size w ((w.alloc a).alloc b) := fun a b => ((Below.refl _ w).alloc (Nat.le_refl _) _).alloc (by simp) _
  have B2 := hb2 (.cells #[.slice A s.1.length c, .slice A' s.2.1.length c', .int .i64 s.2.2.1, .int .i64 s.2.2.2] 33) (.cells #[.slice none 0 0, .slice none 0 0, .int .i64 0, .int .i64 0] 33)
  have H1 : ((w.alloc (.cells #[.slice A s.1.length c, .slice A' s.2.1.length c', .int .i64 s.2.2.1, .int .i64 s.2.2.2] 33)).alloc (.cells #[.slice none 0 0, .slice none 0 0, .int .i64 0, .int .i64 0] 33)).heap[w.heap.size]? = some (.cells #[.slice A s.1.length c, .slice A' s.2.1.length c', .int .i64 s.2.2.1, .int .i64 s.2.2.2] 33 (0, 0)) := past_alloc _ (at_alloc _ rfl)
  have H2 : ((w.alloc (.cells #[.slice A s.1.length c, .slice A' s.2.1.length c', .int .i64 s.2.2.1, .int .i64 s.2.2.2] 33)).alloc (.cells #[.slice none 0 0, .slice none 0 0, .int .i64 0, .int .i64 0] 33)).heap[w.heap.size + 1]? = some (.cells #[.slice none 0 0, .slice none 0 0, .int .i64 0, .int .i64 0] 33 (0, 0)) := at_alloc _ (by simp)
  have S2 : ((w.alloc (.cells #[.slice A s.1.length c, .slice A' s.2.1.length c', .int .i64 s.2.2.1, .int .i64 s.2.2.2] 33)).alloc (.cells #[.slice none 0 0, .slice none 0 0, .int .i64 0, .int .i64 0] 33)).heap.size = w.heap.size + 2 := by simp
  generalize (w.alloc (.cells #[.slice A s.1.length c, .slice A' s.2.1.length c', .int .i64 s.2.2.1, .int .i64 s.2.2.2] 33)).alloc (.cells #[.slice none 0 0, .slice none 0 0, .int .i64 0, .int .i64 0] 33) = W at *
  clear hb2
  have S2a : w.heap.size + 2 ≤ W.heap.size := by omega
  have S2b : W.heap.size ≤ w.heap.size + 2 := by omega
  clear S2
  rename_i K hK
  have hrest : Hid (∀ (u6 u7 u8 u9 u10 u11 u12 u13 u14 : Value) (p : Nat) (A1 : Option Addr) (n1 c1 : Nat) (W' : World), w.heap.size + 1 < p → W'.heap[p]? = some (.cells #[.slice A1 n1 c1, .slice none 0 0, .int .i64 s.2.2.1, .int .i64 s.2.2.2] 33 (0, 0)) →
      OwnV W' (fun _ => False) (ownB (.slice A1 n1 c1)) 4 (bxs s.1) (.slice A1 n1 c1) → (∀ b, ownB (.slice A1 n1 c1) b → w.heap.size + 1 < b ∧ b ≠ p) → Below W.heap.size W W' →
      K { tmps := #[.agg #[.slice A s.1.length c, .slice A' s.2.1.length c', .int .i64 s.2.2.1, .int .i64 s.2.2.2], .pointer (some ⟨w.heap.size, 0, none⟩), .pointer (some ⟨w.heap.size + 1, 0, none⟩), .pointer (some ⟨p, 0, none⟩), undef, undef, u6, u7, u8, u9, u10, u11, u12, u13, u14,
        undef, undef, undef, undef, undef, undef, undef, undef, undef, undef, undef, undef, undef, undef, undef, undef, undef, undef, undef], defers := [] } W') := by
    intro u6 u7 u8 u9 u10 u11 u12 u13 u14 p A1 n1 c1 W' hp0 H3 own1 hv1 hW
    refine hK _ _ ?_
    have H1' := Below.some hW H1
    have H2' := Below.some hW H2
    have hpl := some_lt H3
    have c11 := (cells4 H1').2.1
    go_wp2
    obtain ⟨i2, hi2, hx0, hx1, hx2⟩ := info_parts info_Forme
    have hln := hs.2.1
    have hsW := hW.size
    have hp1 : p ≠ w.heap.size := by omega
    have hp2 : p ≠ w.heap.size + 1 := by omega
    go_loopw [18] (fun vi wr => ∃ i : Nat, vi = .int .i64 i ∧ i ≤ s.2.1.length ∧ BoxF wr p W'.heap.size (.slice A1 n1 c1) s.2.2.1 s.2.2.2 (s.2.1.take i) ∧ KeptX (fun b => b = p) W' wr) (fun vi _ => s.2.1.length - (intOf vi).toNat)
    case atStart =>
      exact ⟨0, rfl, Nat.zero_le _, ⟨_, _, _, [], H3, by simpa using FmsAt_nil _ _⟩, KeptX.refl _ _⟩
    case round =>
      obtain ⟨i, rfl, hin, ⟨Vg, Vn, Vc, ys, H3r, hFr⟩, hX⟩ := hrel
      have hsz := hX.size
      have hBw : Below w.heap.size w wr := (B2.trans (hW.mono (by omega))).trans (hX.below (B := w.heap.size) (fun b hb => by omega) (by omega))
      have hFlt := hFr.lt
      by_cases hp : i < s.2.1.length
      · have hpi : (i : Int) < (s.2.1.length : Int) := by omega
        obtain ⟨b, o, rfl, hFb, hcell⟩ := huA2 (by omega)
        obtain ⟨Ax, nx, cx, u0, u1, u2, u3, hry⟩ := fm_cells hus2 hp
        have hcb : ∀ {k : Nat} {u : Value}, us2[k]? = some u → wr.cell? ⟨b, o + k, none⟩ = some u := fun {k u} hu => (World.cell?_of_block (w := w) (hBw.block b (hF b hFb))).trans (hcell k u hu)
        have k0 := hcb u0
        have k1 := hcb u1
        have k2 := hcb u2
        have k3 := hcb u3
        simp only [← Nat.add_assoc] at k1 k2 k3
        have hxl := hs.2.2 s.2.1[i] (List.getElem_mem hp)
        have htk := List.take_succ_eq_append_getElem hp
        generalize s.2.1[i] = x at *
        have hBa : ∀ q, Below w.heap.size w (wr.alloc q) := fun q => hBw.alloc (by omega) _
        have hcall := fun q => call_l1OwnS x.2.1 hxl (w := wr.alloc q) (RepV_mono (fun _ h => h) (fun b hb => (hBa q).block b (hF b hb)) hry) (fun b hb => Nat.lt_of_lt_of_le (hF b hb) (hBa q).size)
        go_wp2_with (go_at_call 63; refine (hcall _).mono ?_)
        rintro e w6 ⟨A2, n2, c2, rfl, own2, hv2, b6'⟩
        have G1 : w6.heap[wr.heap.size]? = some (.cells #[.int .i64 x.1, .slice Ax nx cx, .bool x.2.2.1, .int .i64 x.2.2.2] 63 (0, 0)) := Below.some b6' (at_alloc _ rfl)
        have S6 : wr.heap.size < w6.heap.size := some_lt G1
        replace hv2 : ∀ b, ownB (.slice A2 n2 c2) b → wr.heap.size < b ∧ b < w6.heap.size := fun b hb => by
          have := hv2 b hb
          simp at this
          omega
        have b6 : Below wr.heap.size wr w6 := bel_on (below_alloc _ _) b6' (by simp)
        have H36 := (b6.block p (by omega)).trans H3r
        have fg1 := Lib.frozen_of_heap G1 1
        have cg1 := (cells4 G1).2.1
        have G2 : (w6.setCell ⟨wr.heap.size, 1, none⟩ (.slice A2 n2 c2)).heap[wr.heap.size]? = some (.cells #[.int .i64 x.1, .slice A2 n2 c2, .bool x.2.2.1, .int .i64 x.2.2.2] 63 (0, 0)) := heap_setCell_same _ _ 1 _ _ (.slice A2 n2 c2) G1
        obtain ⟨e0, e1, e2, e3⟩ := cells4 G2
        have H37 : (w6.setCell ⟨wr.heap.size, 1, none⟩ (.slice A2 n2 c2)).heap[p]? = some (.cells #[.slice A1 n1 c1, .slice Vg Vn Vc, .int .i64 s.2.2.1, .int .i64 s.2.2.2] 33 (0, 0)) := (heap_setCell_other _ _ _ _ (by simp; omega)).trans H36
        have cp1 := (cells4 H37).2.1
        have b8 : Below wr.heap.size wr ((w6.setCell ⟨wr.heap.size, 1, none⟩ (.slice A2 n2 c2)).alloc (.cells #[.int .i64 x.1, .slice A2 n2 c2, .bool x.2.2.1, .int .i64 x.2.2.2] 63)) := (b6.setCell (Nat.le_refl _) _).alloc (by simp [World.setCell]; omega) _
        have hF8 := hFr.keep (w' := (w6.setCell ⟨wr.heap.size, 1, none⟩ (.slice A2 n2 c2)).alloc (.cells #[.int .i64 x.1, .slice A2 n2 c2, .bool x.2.2.1, .int .i64 x.2.2.2] 63)) fun b hb => b8.block b (hFlt b hb).2
        have own8 := own_keep (w' := (w6.setCell ⟨wr.heap.size, 1, none⟩ (.slice A2 n2 c2)).alloc (.cells #[.int .i64 x.1, .slice A2 n2 c2, .bool x.2.2.1, .int .i64 x.2.2.2] 63)) own2 fun b hb => by
          have := hv2 b hb
          rw [alloc_lt _ (by simp [World.setCell]; omega), heap_setCell_other _ _ _ _ (by simp; omega)]
        have hl8 : (s.2.1.take i).length = i := by rw [List.length_take]; omega
        have S8 : W'.heap.size ≤ ((w6.setCell ⟨wr.heap.size, 1, none⟩ (.slice A2 n2 c2)).alloc (.cells #[.int .i64 x.1, .slice A2 n2 c2, .bool x.2.2.1, .int .i64 x.2.2.2] 63)).heap.size := by simp [World.setCell]; omega
        have H38 := past_alloc (.cells #[.int .i64 x.1, .slice A2 n2 c2, .bool x.2.2.1, .int .i64 x.2.2.2] 63) H37
        go_wp2_with (at_builtin; refine wpList_append_anyA _ rfl _ _ 31 rfl W'.heap.size 63 i2 (.agg #[.int .i64 0, .slice none 0 0, .bool false, .int .i64 0]) 4 48 Try.underlying31 hi2 hx0 hx1 hx2 rfl (by decide) (.slice Vg Vn Vc) _ _ rfl hF8.own (some ⟨w6.heap.size, 0, none⟩) 1 1 [.int .i64 x.1, .slice A2 n2 c2, .bool x.2.2.1, .int .i64 x.2.2.2] (by simp [go_sem]) rfl (fun _ => ⟨_, _, rfl, cells4_new (at_alloc _ (by simp [World.setCell]))⟩) (by intro u hu; simp at hu; rcases hu with rfl | rfl | rfl | rfl <;> rfl) (by unfold maxLen; omega) (by omega) S8 ?_)
        intro v3 w9 hown9 hg9 hat9
        have hF9 := FmsAt_snoc (x := x) (y := .slice A2 n2 c2) hF8 S8 (by rw [hl8]; exact hown9) hg9 (by simpa [World.setCell] using hat9) own8 (fun b hb => ⟨by have := (hv2 b hb).1; omega, fun h => by have := (hv2 b hb).1; have := (hFlt b h).2; omega⟩)
        rw [← htk] at hF9
        have hX9 : KeptX (fun b => b = p) W' w9 := by
          have h1 : Below W'.heap.size W' W' := Below.refl _ _
          have h2 : Below wr.heap.size wr w9 ∨ True := .inr trivial
          refine ⟨hg9.os.trans (b8.os.trans hX.os), hg9.tape.trans (b8.tape.trans hX.tape), hg9.output.trans (b8.output.trans hX.output), Nat.le_trans S8 hg9.size, fun b hb hne => ?_⟩
          rw [hg9.block b (by omega) (fun e => by have := (hFlt b (.inl e.symm)).1; omega), b8.block b (by omega), hX.block b hb hne]
        have H39 := (hg9.block p (by omega) (fun e => by have := (hFlt p (.inl e.symm)).1; omega)).trans H38
        have cq1 := (cells4 H39).2.1
        have fq1 := Lib.frozen_of_heap H39 1
        obtain ⟨A3, n3, c3, rfl⟩ := row_slice hF9.own
        have H40 : (w9.setCell ⟨p, 1, none⟩ (.slice A3 n3 c3)).heap[p]? = some (.cells #[.slice A1 n1 c1, .slice A3 n3 c3, .int .i64 s.2.2.1, .int .i64 s.2.2.2] 33 (0, 0)) := heap_setCell_same _ _ 1 _ _ (.slice A3 n3 c3) H39
        have hF9lt := hF9.lt
        have hF10 := hF9.keep (w' := w9.setCell ⟨p, 1, none⟩ (.slice A3 n3 c3)) fun b hb => heap_setCell_other _ _ _ _ (by have := (hF9lt b hb).1; simp; omega)
        go_wp2
        refine ⟨⟨i + 1, congrArg (Value.int .i64) (by omega), by omega, ⟨_, _, _, _, H40, hF10⟩, hX9.set _ _ rfl⟩, ?_⟩
        show s.2.1.length - ((i : Int) + 1).toNat < s.2.1.length - (i : Int).toNat
        omega
      · have hpi : ¬ (i : Int) < (s.2.1.length : Int) := by omega
        have hie : i = s.2.1.length := by omega
        subst hie
        rw [List.take_length] at hFr
        have K2 := (hX.block _ (by omega) (fun e => hp2 e.symm)).trans H2'
        obtain ⟨d0, d1, d2, d3⟩ := cells4 H3r
        obtain ⟨e0, e1, e2, e3⟩ := cells4 K2
        have g0 := Lib.frozen_of_heap K2 0
        have g1 := Lib.frozen_of_heap K2 1
        have g2 := Lib.frozen_of_heap K2 2
        have g3 := Lib.frozen_of_heap K2 3
        have own9 := own_keep (w' := wr) own1 fun b hb => hX.block b (own_lt own1 b hb) (hv1 b hb).2
        have hS1 : ShopAt wr w.heap.size (.agg #[.slice A1 n1 c1, .slice Vg Vn Vc, .int .i64 s.2.2.1, .int .i64 s.2.2.2]) (.slice A1 n1 c1) (.slice Vg Vn Vc) ys s :=
          ⟨rfl, own9, fun b hb => by have := (hv1 b hb).1; omega, hFr.base (by omega), fun b hb h => by have := own_lt own1 b hb; have := (hFlt b h).1; omega⟩
        have hL : ∀ b, ShS (.slice A1 n1 c1) (.slice Vg Vn Vc) ys b → w.heap.size + 1 < b := fun b hb => by
          rcases hb with hb | hb
          · exact (hv1 b hb).1
          · have := (hFlt b hb).1
            omega
        go_wp2
        have H11 : ((((wr.setCell ⟨w.heap.size + 1, 0, none⟩ (.slice A1 n1 c1)).setCell ⟨w.heap.size + 1, 1, none⟩ (.slice Vg Vn Vc)).setCell ⟨w.heap.size + 1, 2, none⟩ (.int .i64 s.2.2.1)).setCell ⟨w.heap.size + 1, 3, none⟩ (.int .i64 s.2.2.2)).heap[w.heap.size + 1]? = some (.cells #[.slice A1 n1 c1, .slice Vg Vn Vc, .int .i64 s.2.2.1, .int .i64 s.2.2.2] 33 (0, 0)) := by
          rw [heap_setCell_same _ _ _ _ _ _ (heap_setCell_same _ _ _ _ _ _ (heap_setCell_same _ _ _ _ _ _ (heap_setCell_same _ _ _ _ _ _ K2)))]
          rfl
        obtain ⟨d0, d1, d2, d3⟩ := cells4 H11
        refine bodyPost_ret (by simp [results, Try.results39, go_sem, d0, d1, d2, d3]; try rfl) rfl ?_
        refine ⟨_, rfl, ⟨_, _, ys, hS1.keep fun b hb => ?_⟩, (((hBw.setCell (by simp) _).setCell (by simp) _).setCell (by simp) _).setCell (by simp) _⟩
        have := hL b hb
        rw [heap_setCell_other _ _ _ _ (by simp; omega), heap_setCell_other _ _ _ _ (by simp; omega), heap_setCell_other _ _ _ _ (by simp; omega), heap_setCell_other _ _ _ _ (by simp; omega)]
  have H1d := Below.some (below_drew W) H1
  have H2d := Below.some (below_drew W) H2
  have B2d : Below w.heap.size w W.drew := bel_on B2 (below_drew W) B2.size
  have hBx : Hid (∀ q, Below w.heap.size w (W.alloc q).drew) := fun q => bel_on (B2.alloc B2.size q) (below_drew _) (by simp; omega)
  have hBy : Hid (∀ q r, Below w.heap.size w ((W.alloc q).alloc r).drew) := fun q r => bel_on ((B2.alloc B2.size q).alloc (by simp; omega) r) (below_drew _) (by simp; omega)
  obtain ⟨a0, a1, a2, a3⟩ := cells4 H1d
  have hWx : Hid (∀ q, Below W.heap.size W (W.alloc q).drew) := fun q => bel_on (below_alloc W q) (below_drew _) (by simp)
  have hWy : Hid (∀ q r, Below W.heap.size W ((W.alloc q).alloc r).drew) := fun q r => bel_on ((below_alloc W q).alloc (by simp) r) (below_drew _) (by simp; omega)
  have hmk : Hid (∀ (W4 : World) (v : Value), W4.ownsRow (w.heap.size + 2) 85 4 v s.1.length us → OwnV W4 (fun _ => False) (ownB v) 4 (bxs s.1) v) := fun W4 v h => own_of_row h (by simp) huw hus bx_isV
  clear hf hus2 hul2 huA2 hr hb hs hK H2 H2d a1 hus huw B2d B2
  go_region_held3 (fun w' => w'.cell? ⟨w.heap.size, 0, none⟩ = some (.slice A s.1.length c) ∧ w'.cell? ⟨w.heap.size, 2, none⟩ = some (.int .i64 s.2.2.1) ∧ w'.cell? ⟨w.heap.size, 3, none⟩ = some (.int .i64 s.2.2.2)) (first | (refine ⟨?_, ?_, ?_⟩ <;> assumption) | (refine cells023 (x1 := .slice A' s.2.1.length c') (t := 33) ?_; first | with_reducible exact H14 | with_reducible exact past_alloc _ H14 | with_reducible exact set4_other _ _ _ _ (by omega) H14 | with_reducible exact set4_other _ _ _ _ (by omega) (past_alloc _ H14) | with_reducible exact some_drew (past_alloc _ H1) | with_reducible exact some_drew (past_alloc _ (past_alloc _ H1)) | with_reducible exact past_alloc _ (some_drew H1) | with_reducible exact past_alloc _ (past_alloc _ (some_drew H1))))
    (first
      | (refine step_append_anyA _ rfl _ _ 30 rfl (w.heap.size + 2) 85 i0 (.agg #[.string ⟨#[]⟩, .int .i64 0, .int .i64 0, .int .i64 0]) 4 40 Try.underlying30 hi0 hz0 hz1 hz2 rfl (by decide) (.slice (some ⟨W.heap.size, 0, none⟩) 0 0) 0 [] (by simp [go_sem]; done) (row_empty (by first | exact at_alloc _ rfl | exact past_alloc _ (at_alloc _ rfl) | exact at_alloc _ (by simp [World.drew])) (by omega)) A s.1.length c us (by simp [go_sem]) hul (fun h0 => by
          obtain ⟨g, o, e, hFg, h1⟩ := huA h0
          exact ⟨g, o, e, fun j u hj => (World.cell?_of_block (w := w) ((hBx.out _).block g (hF g hFg))).trans (h1 j u hj)⟩) hu1 (by unfold maxLen; omega) (by omega) (by simp [World.drew]; omega) ?_
         intro v1 w4 hown1 hg1 hat1
         obtain ⟨A1, n1, c1, rfl⟩ := row_slice hown1
         have H14 : w4.heap[w.heap.size]? = some (.cells #[.slice A s.1.length c, .slice A' s.2.1.length c', .int .i64 s.2.2.1, .int .i64 s.2.2.2] 33 (0, 0)) := (hg1.block _ (by simp [World.drew]; omega) (by simp [Value.ownBlock]; omega)).trans (past_alloc _ H1)
         have hB14 : Below W.heap.size W w4 := (hWx.out _).grown hg1 (by simp [World.drew]; try omega) (fun k hk => by have : W.heap.size = k := Option.some.inj hk; omega))
      | (refine step_append_anyA _ rfl _ _ 30 rfl (w.heap.size + 2) 85 i0 (.agg #[.string ⟨#[]⟩, .int .i64 0, .int .i64 0, .int .i64 0]) 4 40 Try.underlying30 hi0 hz0 hz1 hz2 rfl (by decide) (.slice (some ⟨W.heap.size + 1, 0, none⟩) 0 0) 0 [] (by simp [go_sem]; done) (row_empty (by first | exact at_alloc _ rfl | exact past_alloc _ (at_alloc _ rfl) | exact at_alloc _ (by simp [World.drew])) (by omega)) A s.1.length c us (by simp [go_sem]) hul (fun h0 => by
          obtain ⟨g, o, e, hFg, h1⟩ := huA h0
          exact ⟨g, o, e, fun j u hj => (World.cell?_of_block (w := w) ((hBy.out _ _).block g (hF g hFg))).trans (h1 j u hj)⟩) hu1 (by unfold maxLen; omega) (by omega) (by simp [World.drew]; omega) ?_
         intro v1 w4 hown1 hg1 hat1
         obtain ⟨A1, n1, c1, rfl⟩ := row_slice hown1
         have H14 : w4.heap[w.heap.size]? = some (.cells #[.slice A s.1.length c, .slice A' s.2.1.length c', .int .i64 s.2.2.1, .int .i64 s.2.2.2] 33 (0, 0)) := (hg1.block _ (by simp [World.drew]; omega) (by simp [Value.ownBlock]; omega)).trans (past_alloc _ (past_alloc _ H1))
         have hB14 : Below W.heap.size W w4 := (hWy.out _ _).grown hg1 (by simp [World.drew]; try omega) (fun k hk => by have : W.heap.size + 1 = k := Option.some.inj hk; omega)
         have hz : w4.heap[W.heap.size]? = some (.cells #[.slice none 0 0, .slice none 0 0, .int .i64 0, .int .i64 0] 33 (0, 0)) := (hg1.block _ (by simp [World.drew]; try omega) (by simp [Value.ownBlock])).trans (past_alloc _ (at_alloc _ rfl))
         obtain ⟨q0, q1, q2, q3⟩ := cells4 hz
         have r0 := Lib.frozen_of_heap hz 0
         have r1 := Lib.frozen_of_heap hz 1
         have r2 := Lib.frozen_of_heap hz 2
         have r3 := Lib.frozen_of_heap hz 3)
      | (refine step_append_anyA _ rfl _ _ 30 rfl (w.heap.size + 2) 85 i0 (.agg #[.string ⟨#[]⟩, .int .i64 0, .int .i64 0, .int .i64 0]) 4 40 Try.underlying30 hi0 hz0 hz1 hz2 rfl (by decide) (.slice (some ⟨W.heap.size, 0, none⟩) 0 0) 0 [] (by simp [go_sem]; done) (row_empty (by first | exact at_alloc _ rfl | exact past_alloc _ (at_alloc _ rfl) | exact at_alloc _ (by simp [World.drew])) (by omega)) A s.1.length c us (by simp [go_sem]) hul (fun h0 => by
          obtain ⟨g, o, e, hFg, h1⟩ := huA h0
          exact ⟨g, o, e, fun j u hj => (World.cell?_of_block (w := w) ((hBy.out _ _).block g (hF g hFg))).trans (h1 j u hj)⟩) hu1 (by unfold maxLen; omega) (by omega) (by simp [World.drew]; omega) ?_
         intro v1 w4 hown1 hg1 hat1
         obtain ⟨A1, n1, c1, rfl⟩ := row_slice hown1
         have H14 : w4.heap[w.heap.size]? = some (.cells #[.slice A s.1.length c, .slice A' s.2.1.length c', .int .i64 s.2.2.1, .int .i64 s.2.2.2] 33 (0, 0)) := (hg1.block _ (by simp [World.drew]; omega) (by simp [Value.ownBlock]; omega)).trans (past_alloc _ (past_alloc _ H1))
         have hB14 : Below W.heap.size W w4 := (hWy.out _ _).grown hg1 (by simp [World.drew]; try omega) (fun k hk => by have : W.heap.size = k := Option.some.inj hk; omega)
         have hz : w4.heap[W.heap.size + 1]? = some (.cells #[.slice none 0 0, .slice none 0 0, .int .i64 0, .int .i64 0] 33 (0, 0)) := (hg1.block _ (by simp [World.drew]; try omega) (by simp [Value.ownBlock])).trans (at_alloc _ (by simp [World.drew]))
         obtain ⟨q0, q1, q2, q3⟩ := cells4 hz
         have r0 := Lib.frozen_of_heap hz 0
         have r1 := Lib.frozen_of_heap hz 1
         have r2 := Lib.frozen_of_heap hz 2
         have r3 := Lib.frozen_of_heap hz 3))
  · show K _ _
    have own1 := hmk.out _ _ (by simpa using hown1)
    have hlt := row_lt hown1
    have hsz := hB14.size
    exact hrest.out _ _ _ _ _ _ _ _ _ w4.heap.size A1 n1 c1 _ (by omega) (at_alloc _ rfl) (own_keep own1 fun b hb => alloc_lt _ (own_lt own1 b hb)) (fun b hb => by have := hlt b hb; omega) (hB14.alloc hB14.size _)
  · show K _ _
    have own1 := hmk.out _ _ (by simpa using hown1)
    have hlt := row_lt hown1
    have hne : ∀ b, ownB (.slice A1 n1 c1) b → W.heap.size + 1 ≠ b := fun b hb => by
      rcases hat1 with h | h
      · have h2 : some b = some (W.heap.size) := hb.symm.trans h
        have := Option.some.inj h2
        omega
      · have h2 := hb.symm.trans h
        simp [World.drew] at h2
        omega
    exact hrest.out _ _ _ _ _ _ _ _ _ (W.heap.size + 1) A1 n1 c1 _ (by omega) (set4_same _ _ _ _ hz) (set4_own _ _ _ _ own1 hne) (fun b hb => ⟨by have := hlt b hb; omega, fun e => hne b hb e.symm⟩) (set4_below _ _ _ _ hB14 (by omega))
  · show K _ _
    have own1 := hmk.out _ _ (by simpa using hown1)
    have hlt := row_lt hown1
    have hne : ∀ b, ownB (.slice A1 n1 c1) b → W.heap.size ≠ b := fun b hb => by
      rcases hat1 with h | h
      · have h2 : some b = some (W.heap.size + 1) := hb.symm.trans h
        have := Option.some.inj h2
        omega
      · have h2 := hb.symm.trans h
        simp [World.drew] at h2
        omega
    exact hrest.out _ _ _ _ _ _ _ _ _ (W.heap.size) A1 n1 c1 _ (by omega) (set4_same _ _ _ _ hz) (set4_own _ _ _ _ own1 hne) (fun b hb => ⟨by have := hlt b hb; omega, fun e => hne b hb e.symm⟩) (set4_below _ _ _ _ hB14 (by omega))
end Go.Proofs.Ytankikbbdfgkbaa
/-
  spec.ReturnedShop, walked by hand.
-/
namespace Go.Proofs.Ytankikbbdfgkbaa
open Go Go.Proofs Go.V Go.RowKit
set_option linter.unusedSimpArgs false
set_option linter.unusedVariables false

theorem row_slice_n {w : World} {base : Nat} {e : TypeId} {z n : Nat} {v : Value} {us : List Value} (h : w.ownsRow base e z v n us) : ∃ A c, v = .slice A n c := by
  obtain ⟨_, ⟨rfl, rfl⟩ | ⟨g, cap, cur, rfl, _⟩⟩ := h
  · exact ⟨_, _, rfl⟩
  · exact ⟨_, _, rfl⟩
theorem row_some {w : World} {base : Nat} {e : TypeId} {z n c : Nat} {A : Option Addr} {us : List Value} (h : w.ownsRow base e z (.slice A n c) n us) (hn : 0 < n) : ∃ g, A = some ⟨g, 0, none⟩ := by
  obtain ⟨_, ⟨e, rfl⟩ | ⟨g, cap, cur, e, _⟩⟩ := h
  · omega
  · cases e
    exact ⟨g, rfl⟩
set_option maxHeartbeats 8000000 in
set_option maxRecDepth 1000000 in
theorem spec_ReturnedShop_walk (s : Sp) (hs : okSp s) (v0 : Value) (w : World) (F : Nat → Prop) (hr : RepV w F (sp s) v0) (hF : ∀ b, F b → b < w.heap.size) :
    Calls Try.prog 16 #[v0] w fun e w' => ∃ v, e = .returned (.tuple #[v, .bool (retB s)]) ∧ ShopV w' w.heap.size v (retS s) ∧ Below w.heap.size w w' := by
  obtain ⟨A, n, c, A', n', c', rfl, hb, hf⟩ := shop_parts hr
  obtain ⟨us, hn, -, -, -, -, -⟩ := src_row hb bx_kind
  obtain ⟨us2, hn2, hul2, hus2, _, _, huA2⟩ := src_row hf fm_kind
  rw [List.length_map] at hn hn2
  subst hn hn2
  clear hb hf us
  go_enter Try.func16, Try.ntmps16
  have hb2 : ∀ a b, Below w.heap.size w ((w.alloc a).alloc b) := fun a b => ((Below.refl _ w).alloc (Nat.le_refl _) _).alloc (by simp) _
  have rep : ∀ {W : World}, Below w.heap.size w W → RepV W F (sp s) (.agg #[.slice A s.1.length c, .slice A' s.2.1.length c', .int .i64 s.2.2.1, .int .i64 s.2.2.2]) := fun {W} h => RepV_mono (fun _ h => h) (fun b hb => h.block b (hF b hb)) hr
  have hFW : ∀ {W : World}, Below w.heap.size w W → ∀ b, F b → b < W.heap.size := fun {W} h b hb => Nat.lt_of_lt_of_le (hF b hb) h.size
  have hc1 := fun a b => call_shGood s hs (rep (hb2 a b)) (hFW (hb2 a b))
  go_wp2_with (go_at_call 31; refine (hc1 _ _).mono ?_)
  rintro e w2 ⟨rfl, b2⟩
  have H1 : w2.heap[w.heap.size]? = some (.cells #[.slice A s.1.length c, .slice A' s.2.1.length c', .int .i64 s.2.2.1, .int .i64 s.2.2.2] 33 (0, 0)) := Below.some b2 (past_alloc _ (at_alloc _ rfl))
  have H2 : w2.heap[w.heap.size + 1]? = some (.cells #[.slice none 0 0, .slice none 0 0, .int .i64 0, .int .i64 0] 33 (0, 0)) := Below.some b2 (at_alloc _ (by simp))
  have B2 : Below w.heap.size w w2 := bel_on (hb2 _ _) b2 (by simp; omega)
  have hl2 := some_lt H2
  clear hc1 b2
  cases hok : shopOk s
  · have hno : ¬ retG s := fun h => by
      have h1 : shopOk s = true := h.1
      rw [hok] at h1
      cases h1
    obtain ⟨eB, eS⟩ := ret_no hno
    obtain ⟨e0, e1, e2, e3⟩ := cells4 H2
    obtain ⟨g0, g1, g2, g3⟩ := froz4 H2
    go_wp2
    obtain ⟨d0, d1, d2, d3⟩ := cells4 (set4_same (.slice none 0 0) (.slice none 0 0) (.int .i64 0) (.int .i64 0) H2)
    refine bodyPost_ret (by simp [results, Try.results16, go_sem, d0, d1, d2, d3]; try rfl) rfl ?_
    (try rw [eB])
    (try rw [eS])
    exact ⟨_, rfl, shop_zero _ _, set4_below _ _ _ _ B2 (by omega)⟩
  obtain ⟨cb0, cb1, cb2, cb3⟩ := cells4 H1
  have hc3 := shOwn_walk s hs _ w2 F (rep B2) (hFW B2)
  go_wp2_with (go_at_call 39; refine hc3.mono ?_)
  rintro e w3 ⟨v3, rfl, ⟨Vb, Vf, ys, sa⟩, b3⟩
  obtain rfl := sa.val
  have B3 := bel_on B2 b3 B2.size
  replace H1 := Below.some b3 H1
  replace H2 := Below.some b3 H2
  have ownb := sa.box
  have hblt := own_lt ownb
  have hbge := sa.bge
  obtain ⟨bA, bn, bc, rfl⟩ := own_slice ownb
  have hF3 := sa.fms
  obtain ⟨fA, fc, rfl⟩ := row_slice_n hF3.own
  have hF3lt := hF3.lt
  have hl3 := some_lt H2
  have hs23 := b3.size
  clear sa b3 hc3 cb0 cb1 cb2 cb3
  have H5 : (w3.alloc (.cells #[.slice bA bn bc, .slice fA s.2.1.length fc, .int .i64 s.2.2.1, .int .i64 s.2.2.2] 33)).heap[w3.heap.size]? = some (.cells #[.slice bA bn bc, .slice fA s.2.1.length fc, .int .i64 s.2.2.1, .int .i64 s.2.2.2] 33 (0, 0)) := at_alloc _ rfl
  have H2' : (w3.alloc (.cells #[.slice bA bn bc, .slice fA s.2.1.length fc, .int .i64 s.2.2.1, .int .i64 s.2.2.2] 33)).heap[w.heap.size + 1]? = _ := past_alloc _ H2
  have B5 : Below w.heap.size w (w3.alloc (.cells #[.slice bA bn bc, .slice fA s.2.1.length fc, .int .i64 s.2.2.1, .int .i64 s.2.2.2] 33)) := B3.alloc B3.size _
  have own5 := own_keep (w' := w3.alloc (.cells #[.slice bA bn bc, .slice fA s.2.1.length fc, .int .i64 s.2.2.1, .int .i64 s.2.2.2] 33)) ownb fun b hb => by
    have := hblt b hb
    rw [alloc_lt _ (by omega)]
  have hF5 := hF3.keep (w' := w3.alloc (.cells #[.slice bA bn bc, .slice fA s.2.1.length fc, .int .i64 s.2.2.1, .int .i64 s.2.2.2] 33)) fun b hb => alloc_lt _ (hF3lt b hb).2
  have S5 : (w3.alloc (.cells #[.slice bA bn bc, .slice fA s.2.1.length fc, .int .i64 s.2.2.1, .int .i64 s.2.2.2] 33)).heap.size = w3.heap.size + 1 := by simp
  go_wp2
  generalize w3.alloc (.cells #[.slice bA bn bc, .slice fA s.2.1.length fc, .int .i64 s.2.2.1, .int .i64 s.2.2.2] 33) = W5 at *
  have S5a : w3.heap.size + 1 ≤ W5.heap.size := by omega
  have S5b : W5.heap.size ≤ w3.heap.size + 1 := by omega
  clear S5 H1 H2
  have hX : ∀ b, ownB (.slice bA bn bc) b → w.heap.size + 2 ≤ b ∧ ¬ (b = w3.heap.size) := fun b hb => by
    have h1 := hblt b hb
    have h2 := hbge b hb
    omega
  have hln := hs.2.1
  go_loopw [18] (fun vi wr => ∃ i : Nat, vi = .int .i64 i ∧ i ≤ s.2.1.length ∧ Gd s i ∧ BoxB wr w3.heap.size (w.heap.size + 2) (fun b => b = w3.heap.size) (.slice fA s.2.1.length fc) s.2.2.1 s.2.2.2 (mvs s.1 (s.2.1.take i)) ∧ KeptX (fun b => b = w3.heap.size) W5 wr) (fun vi _ => s.2.1.length - (intOf vi).toNat)
  case atStart =>
    exact ⟨0, rfl, Nat.zero_le _, (fun j hj => by omega), ⟨_, _, _, H5, own5, hX⟩, KeptX.refl _ _⟩
  case round =>
    obtain ⟨i, rfl, hin, hgd, ⟨Vg, Vn, Vc, H5r, ownr, hXr⟩, hK⟩ := hrel
    have hsz := hK.size
    have hBw : Below w.heap.size w wr := B5.trans (hK.below (B := w.heap.size) (fun b hb => by omega) (by omega))
    have hFr := hF5.keep (w' := wr) fun b hb => hK.block b (by have := (hF3lt b hb).2; omega) (by have := (hF3lt b hb).2; omega)
    have H2r := (hK.block (w.heap.size + 1) (by omega) (by omega)).trans H2'
    by_cases hp : i < s.2.1.length
    · have hpi : (i : Int) < (s.2.1.length : Int) := by omega
      obtain ⟨g, rfl⟩ := row_some hFr.own (by omega)
      obtain ⟨y, hy⟩ : ∃ y, ys[i]? = some y := ⟨ys[i]'(by rw [hFr.len]; exact hp), List.getElem?_eq_getElem _⟩
      have hgx : s.2.1[i]? = some s.2.1[i] := List.getElem?_eq_getElem hp
      have hrow := hFr.row i _ y hgx hy
      obtain ⟨Ax, nx, cx, rfl⟩ := own_slice hrow
      have k0 := own_cell hFr.own (j := i * 4) (u := .int .i64 s.2.1[i].1) (by have := rowsF_at _ _ i s.2.1[i] _ hgx hy 0 (by omega); simpa [cellsF] using this)
      have k1 := own_cell hFr.own (j := i * 4 + 1) (u := .slice Ax nx cx) (by rw [rowsF_at _ _ i s.2.1[i] _ hgx hy 1 (by omega)]; rfl)
      have k2 := own_cell hFr.own (j := i * 4 + 2) (u := .bool s.2.1[i].2.2.1) (by rw [rowsF_at _ _ i s.2.1[i] _ hgx hy 2 (by omega)]; rfl)
      have k3 := own_cell hFr.own (j := i * 4 + 3) (u := .int .i64 s.2.1[i].2.2.2) (by rw [rowsF_at _ _ i s.2.1[i] _ hgx hy 3 (by omega)]; rfl)
      have hrowq : ∀ q, OwnV (wr.alloc q) (fun _ => False) (ownB (.slice Ax nx cx)) 1 (txs s.2.1[i].2.1) (.slice Ax nx cx) := fun q => OwnV.below hrow (below_alloc wr q)
      have hpre := put_pre hs hok hp hgd
      have hmv := mvs_succ s hp
      generalize s.2.1[i] = x at *
      have ownq : ∀ q, OwnV (wr.alloc q) (fun _ => False) (ownB (.slice Vg Vn Vc)) 4 (bxs (mvs s.1 (s.2.1.take i))) (.slice Vg Vn Vc) := fun q => OwnV.below ownr (below_alloc wr q)
      have hcall := fun q => call_caMove (mvs s.1 (s.2.1.take i)) x.2.1 1 hpre.1 (by have := hpre.2.1; omega) hpre.2.2.2 (w := wr.alloc q) (own_rep' (ownq q)) (own_lt (ownq q)) (own_rep' (hrowq q)) (own_lt (hrowq q))
      rw [← hmv] at hcall
      have hmv' : Hid (mvs s.1 (s.2.1.take (i + 1)) = moveC (cods (mvs s.1 (s.2.1.take i))) 1 (mvs s.1 (s.2.1.take i)) x.2.1) := hmv
      clear hmv
      have m0 := fun q => (cells4 (past_alloc q H5r)).1
      go_wp2_with (go_at_call 40; refine (hcall _).mono ?_)
      intro e w6 hout
      obtain ⟨A6, n6, c6, rfl, own6, hv6, b6⟩ := hout
      have b6' : Below wr.heap.size wr w6 := bel_on (below_alloc _ _) b6 (by simp)
      have H26 := Below.some b6' H2r
      have H56 := Below.some b6' H5r
      have hsz6 := b6'.size
      cases hgo : goodC (mvs s.1 (s.2.1.take (i + 1)))
      · have hno : ¬ retG s := fun h => by
          have h1 := h.2 i hp
          rw [hgo] at h1
          cases h1
        obtain ⟨eB, eS⟩ := ret_no hno
        obtain ⟨e0, e1, e2, e3⟩ := cells4 H26
        obtain ⟨g0, g1, g2, g3⟩ := froz4 H26
        go_wp2
        obtain ⟨d0, d1, d2, d3⟩ := cells4 (set4_same (.slice none 0 0) (.slice none 0 0) (.int .i64 0) (.int .i64 0) H26)
        refine bodyPost_ret (by simp [results, Try.results16, go_sem, d0, d1, d2, d3]; try rfl) rfl ?_
        (try rw [eB])
        (try rw [eS])
        exact ⟨_, rfl, shop_zero _ _, set4_below _ _ _ _ (hBw.trans (b6'.mono (by omega))) (by omega)⟩
      · have em : mvd (mvs s.1 (s.2.1.take i)) x.2.1 1 = mvs s.1 (s.2.1.take (i + 1)) := by
          unfold mvd
          rw [← hmv'.out, if_pos hgo]
        rw [em] at own6
        have m56 := (cells4 H56).1
        have f56 := (froz4 H56).1
        have H57 := heap_setCell_same _ _ 0 _ _ (.slice A6 n6 c6) H56
        simp only [List.setIfInBounds_toArray, List.set_cons_zero, List.set_cons_succ] at H57
        have hv6' : ∀ b, ownB (.slice A6 n6 c6) b → wr.heap.size < b := fun b hb => by
          have := (hv6 b hb).1
          simp at this
          omega
        have own7 := own_keep (w' := w6.setCell ⟨w3.heap.size, 0, none⟩ (.slice A6 n6 c6)) own6 fun b hb => heap_setCell_other _ _ _ _ (by have := hv6' b hb; simp; omega)
        have hK7 : KeptX (fun b => b = w3.heap.size) W5 (w6.setCell ⟨w3.heap.size, 0, none⟩ (.slice A6 n6 c6)) := (hK.trans ⟨b6'.os, b6'.tape, b6'.output, b6'.size, fun b hb _ => b6'.block b hb⟩).set _ _ rfl
        have hX7 : ∀ b, ownB (.slice A6 n6 c6) b → w.heap.size + 2 ≤ b ∧ ¬ (b = w3.heap.size) := fun b hb => by
          have := hv6' b hb
          omega
        go_wp2
        refine ⟨⟨i + 1, congrArg (Value.int .i64) (by omega), by omega, hgd.succ hgo, ⟨_, _, _, H57, own7, hX7⟩, hK7⟩, ?_⟩
        show s.2.1.length - ((i : Int) + 1).toNat < s.2.1.length - (i : Int).toNat
        omega
    · have hpi : ¬ (i : Int) < (s.2.1.length : Int) := by omega
      have hie : i = s.2.1.length := by omega
      subst hie
      rw [List.take_length] at ownr
      obtain ⟨eB, eS⟩ := ret_yes (s := s) ⟨hok, hgd⟩
      obtain ⟨e0, e1, e2, e3⟩ := cells4 ((heap_setCell_other wr ⟨w3.heap.size, 1, none⟩ (w.heap.size + 1) (.slice none 0 0) (by simp; omega)).trans H2r)
      obtain ⟨g0, g1, g2, g3⟩ := froz4 ((heap_setCell_other wr ⟨w3.heap.size, 1, none⟩ (w.heap.size + 1) (.slice none 0 0) (by simp; omega)).trans H2r)
      have m1 := (cells4 H5r).2.1
      have f1 := (froz4 H5r).2.1
      have H6r := heap_setCell_same _ _ 1 _ _ (.slice none 0 0) H5r
      simp only [List.setIfInBounds_toArray, List.set_cons_zero, List.set_cons_succ] at H6r
      obtain ⟨n0, n1, n2, n3⟩ := cells4 H6r
      have H2s := (heap_setCell_other wr ⟨w3.heap.size, 1, none⟩ (w.heap.size + 1) (.slice none 0 0) (by simp; omega)).trans H2r
      have ownr' := own_keep (w' := wr.setCell ⟨w3.heap.size, 1, none⟩ (.slice none 0 0)) ownr fun b hb => heap_setCell_other _ _ _ _ (by have := (hXr b hb).2; simp; omega)
      have hBs : Below w.heap.size w (wr.setCell ⟨w3.heap.size, 1, none⟩ (.slice none 0 0)) := hBw.setCell (by simp; omega) _
      have hS := shop_of_box (x := s.2.2.1) (y := s.2.2.2) ownr' (fun b hb => ⟨by have := (hXr b hb).1; omega, fun h => by
        rcases h with h | ⟨y, h, _⟩
        · cases h
        · simp at h⟩) (FmsAt_nil _ w.heap.size)
      go_wp2
      obtain ⟨d0, d1, d2, d3⟩ := cells4 (set4_same (.slice Vg Vn Vc) (.slice none 0 0) (.int .i64 s.2.2.1) (.int .i64 s.2.2.2) H2s)
      refine bodyPost_ret (by simp [results, Try.results16, go_sem, d0, d1, d2, d3]; try rfl) rfl ?_
      (try rw [eB])
      (try rw [eS])
      refine ⟨_, rfl, ⟨_, _, _, hS.set4 _ _ _ _ fun b hb => ?_⟩, set4_below _ _ _ _ hBs (by omega)⟩
      rcases hb with hb | hb
      · have := (hXr b hb).1
        omega
      · rcases hb with hb | ⟨y, hb, _⟩
        · cases hb
        · simp at hb
end Go.Proofs.Ytankikbbdfgkbaa
