/-
  What the functions compute: their evaluated texts, printed.
-/
import Derived.Test.YtfjkapnonljdeaaDoorC5
namespace Go.Proofs.YtfjkapnonljdeaaDoor
open Go Go.V
theorem t_impl_numbersIn_1 (x0 : D) : F_impl_numbersIn_1 [x0] =
  ((bin BinOp.lss false [] x0 (D.v (Value.int IntKind.i32 48))).bind fun z => (gate (D.tup []) z false (some x0)).bind fun z_1 =>
 (gate (D.tup []) z false (bin BinOp.gtr false [] z_1 (D.v (Value.int IntKind.i32 57)))).bind fun z_2 => (pickD z (D.v (Value.bool true)) z_2).bind fun z => some (Out.ret [z] [])) := by kernel_rfl
theorem t_impl_join (x0 x1 : D) : F_impl_join [x0, x1] =
  ((mkArr 1 []).bind fun a => (lenD false x0).bind fun z => (loopC (fun s => (bin BinOp.lss false [] (sl s 4) (sl s 3)).bind fun z => ifD z ((Option.map D.ptr (elemD 1 (sl s 2) (sl s 4))).bind fun z =>
 ((ldD false 1 z).bind chkV).bind fun z => callK (fItoa [z]) fun rs _u => (mkArr 1 [sl rs 0]).bind fun a => (chkA a).bind fun b => (appD 1 16 (sl s 1) b).bind fun y =>
 (bin BinOp.add false [] (sl s 4) (D.v (Value.int IntKind.i64 1))).bind fun z => some (Out.nrm [sl s 0, y, sl s 2, sl s 3, z])) (some (Out.ext 0 [sl s 0, sl s 1]))) [x1, a, x0, z, D.v (Value.int IntKind.i64 0)]).bind
 fun o => outK o (fun i s => ifN (i.beq 0) ((liveD (sl s 1) (D.ref 0 0)).bind fun z => (liveD z (sl s 1)).bind fun i => callK (fJoin [i, sl s 0]) fun rs _u => some (Out.ret [sl rs 0] [])) none)
 fun a b => some (Out.ret a b)) := by kernel_rfl
theorem t_impl_noteLine (x0 x1 : D) : F_impl_noteLine [x0, x1] =
  ((boxD 3 x0).bind fun y => (liveD y (D.ref 0 0)).bind fun z => ((atD y z).bind (takeD false 1)).bind fun z => (liveD y (D.ref 0 1)).bind fun z_1 => ((atD y z_1).bind (takeD false 1)).bind fun z_2 =>
 (liveD y (D.ref 0 2)).bind fun z_3 => ((atD y z_3).bind (takeD false 1)).bind fun z_4 => (mkArr 1 [z, z_2, z_4, x1]).bind fun a => callK (F_impl_join [a, D.v (Value.string { data := { toList := [32] } })]) fun rs _u =>
 (bin BinOp.add false [] (sl rs 0) (D.v (Value.string { data := { toList := [10] } }))).bind fun z => some (Out.ret [z] [])) := by kernel_rfl
theorem t_impl_check (x0 x1 : D) : F_impl_check [x0, x1] =
  ((boxD 3 x1).bind fun y => (bin BinOp.mul false [] (D.v (Value.int IntKind.i64 31)) x0).bind fun z => (liveD y (D.ref 0 0)).bind fun z_1 => ((atD y z_1).bind (takeD false 1)).bind fun z_2 =>
 (bin BinOp.mul false [] (D.v (Value.int IntKind.i64 17)) z_2).bind fun z_3 => (bin BinOp.add false [] z z_3).bind fun z => (liveD y (D.ref 0 1)).bind fun z_4 => ((atD y z_4).bind (takeD false 1)).bind fun z_5 =>
 (bin BinOp.mul false [] (D.v (Value.int IntKind.i64 5)) z_5).bind fun z_6 => (bin BinOp.add false [] z z_6).bind fun z => (liveD y (D.ref 0 2)).bind fun z_7 => ((atD y z_7).bind (takeD false 1)).bind fun z_8 =>
 (bin BinOp.add false [] z z_8).bind fun z => (bin BinOp.rem false [] z (D.v (Value.int IntKind.i64 9973))).bind fun z => some (Out.ret [z] [])) := by kernel_rfl
end Go.Proofs.YtfjkapnonljdeaaDoor
