/-
  What the functions compute: their evaluated texts, printed.
-/
import Derived.Test.YtaphcpfkgpaefaaGreatRows
import Derived.Test.YtaphcpfkgpaefaaGreatM5
import Derived.Shelf.Sort.Plain
import Derived.Shelf.GgSortMore.Stable
import Derived.Test.YtaphcpfkgpaefaaGreatProg
import Derived.Deep.QuietTactic
import Derived.BigCall
import Derived.BigQuiet
import Derived.WalkKit
import Derived.StillTailTactics
import Derived.Maps.AppendAt
import Derived.Lib.Builder
namespace Go.Proofs.YtaphcpfkgpaefaaGreat
open Go Go.V
theorem t_spec_l1Cur_next (x0 : D) : F_spec_l1Cur_next [x0] =
  ((liveD x0 (D.ref 0 0)).bind fun z => (liveD z z).bind fun z => (refAdd 1 z).bind fun z => (((atD x0 z).bind (takeD false 1)).bind chkV).bind fun z => (liveD x0 (D.ref 0 0)).bind fun z_1 => (liveD z_1 z_1).bind fun z_2 =>
 (refAdd 0 z_2).bind fun z_3 => ((atD x0 z_3).bind (takeD false 1)).bind fun z_4 => (lenD false z_4).bind fun z_5 => (bin BinOp.lss false [] z z_5).bind fun z => ifD z ((liveD x0 (D.ref 0 0)).bind fun z =>
 (liveD z z).bind fun z => (refAdd 0 z).bind fun z => ((atD x0 z).bind (takeD false 1)).bind fun z => (liveD x0 (D.ref 0 0)).bind fun z_6 => (liveD z_6 z_6).bind fun z_7 => (refAdd 1 z_7).bind fun z_8 =>
 (((atD x0 z_8).bind (takeD false 1)).bind chkV).bind fun z_9 => (Option.map D.ptr (elemD 1 z z_9)).bind fun z => ((ldD false 1 z).bind chkV).bind fun z => (convD (some IntKind.i64) false z).bind fun z =>
 (liveD x0 (D.ref 0 0)).bind fun z_10 => (liveD z_10 z_10).bind fun z_11 => (refAdd 1 z_11).bind fun z_12 => (((atD x0 z_12).bind (takeD false 1)).bind chkV).bind fun z_13 =>
 (bin BinOp.add false [] z_13 (D.v (Value.int IntKind.i64 1))).bind fun z_14 => (liveD z_10 z_10).bind fun z_15 => (refAdd 1 z_15).bind fun z_16 => (stD 1 x0 z_16 z_14).bind fun b => (liveD b (D.ref 0 0)).bind fun z_17 =>
 (liveD b (D.ref 0 0)).bind fun z_18 => (liveD z_18 z_18).bind fun z_19 => (refAdd 2 z_19).bind fun z_20 => (((atD b z_20).bind (takeD false 1)).bind chkV).bind fun z_21 => (bin BinOp.mul false [] z_21 (D.v
 (Value.int IntKind.u64 6364136223846793005))).bind fun z_22 => (convD (some IntKind.u64) false z).bind fun z_23 => (bin BinOp.add false [] z_22 z_23).bind fun z_24 => (bin BinOp.add false [] z_24 (D.v
 (Value.int IntKind.u64 1442695040888963407))).bind fun z_25 => (liveD z_17 z_17).bind fun z_26 => (refAdd 2 z_26).bind fun z_27 => (stD 1 b z_27 z_25).bind fun b => (liveD b (D.ref 0 0)).bind fun z_28 =>
 (liveD z_28 z_28).bind fun z_29 => (refAdd 1 z_29).bind fun z_30 => (((atD b z_30).bind (takeD false 1)).bind chkV).bind fun z_31 => (liveD b (D.ref 0 0)).bind fun z_32 => (liveD z_32 z_32).bind fun z_33 =>
 (refAdd 0 z_33).bind fun z_34 => ((atD b z_34).bind (takeD false 1)).bind fun z_35 => (lenD false z_35).bind fun z_36 => (bin BinOp.leq false [] z_31 z_36).bind fun z_37 => ifD z_37 ((liveD b b).bind fun _u => some
 (Out.ret [z] [b])) ((liveD b (D.ref 0 0)).bind fun z => (liveD z z).bind fun z => (refAdd 2 z).bind fun z => (((atD b z).bind (takeD false 1)).bind chkV).bind fun z => (bin BinOp.shr false [] z (D.v (Value.int IntKind.u64
 40))).bind fun z => (bin BinOp.and false [] z (D.v (Value.int IntKind.u64 255))).bind fun z => (convD (some IntKind.i64) false z).bind fun z => (liveD b b).bind fun _u => some (Out.ret [z] [b])))
 ((liveD x0 (D.ref 0 0)).bind fun z => (liveD z z).bind fun z_6 => (refAdd 1 z_6).bind fun z_7 => (((atD x0 z_7).bind (takeD false 1)).bind chkV).bind fun z_8 =>
 (bin BinOp.add false [] z_8 (D.v (Value.int IntKind.i64 1))).bind fun z_9 => (liveD z z).bind fun z => (refAdd 1 z).bind fun z => (stD 1 x0 z z_9).bind fun b => (liveD b (D.ref 0 0)).bind fun z =>
 (liveD b (D.ref 0 0)).bind fun z_10 => (liveD z_10 z_10).bind fun z_11 => (refAdd 2 z_11).bind fun z_12 => (((atD b z_12).bind (takeD false 1)).bind chkV).bind fun z_13 => (bin BinOp.mul false [] z_13
 (D.v (Value.int IntKind.u64 6364136223846793005))).bind fun z_14 => (convD (some IntKind.u64) false (D.v (Value.int IntKind.i64 0))).bind fun z_15 => (bin BinOp.add false [] z_14 z_15).bind fun z_16 =>
 (bin BinOp.add false [] z_16 (D.v (Value.int IntKind.u64 1442695040888963407))).bind fun z_17 => (liveD z z).bind fun z => (refAdd 2 z).bind fun z => (stD 1 b z z_17).bind fun b => (liveD b (D.ref 0 0)).bind fun z =>
 (liveD z z).bind fun z => (refAdd 1 z).bind fun z => (((atD b z).bind (takeD false 1)).bind chkV).bind fun z => (liveD b (D.ref 0 0)).bind fun z_18 => (liveD z_18 z_18).bind fun z_19 => (refAdd 0 z_19).bind fun z_20 =>
 ((atD b z_20).bind (takeD false 1)).bind fun z_21 => (lenD false z_21).bind fun z_22 => (bin BinOp.leq false [] z z_22).bind fun z => ifD z ((liveD b b).bind fun _u => some (Out.ret [D.v (Value.int IntKind.i64 0)] [b]))
 ((liveD b (D.ref 0 0)).bind fun z => (liveD z z).bind fun z => (refAdd 2 z).bind fun z => (((atD b z).bind (takeD false 1)).bind chkV).bind fun z => (bin BinOp.shr false [] z (D.v (Value.int IntKind.u64 40))).bind
 fun z => (bin BinOp.and false [] z (D.v (Value.int IntKind.u64 255))).bind fun z => (convD (some IntKind.i64) false z).bind fun z => (liveD b b).bind fun _u => some (Out.ret [z] [b])))) := by kernel_rfl
theorem t_spec_l1Cur_pick (x0 x1 : D) : F_spec_l1Cur_pick [x0, x1] =
  ((bin BinOp.leq false [] x1 (D.v (Value.int IntKind.i64 1))).bind fun z => ifD z ((liveD x0 x0).bind fun _u => some (Out.ret [D.v (Value.int IntKind.i64 0)] [x0])) ((liveD x0 (D.ref 0 0)).bind fun z =>
 (ref0 z x0).bind fun i => (liveD i i).bind fun i => callK (F_spec_l1Cur_next [i]) fun rs us => (bin BinOp.gtr false [] x1 (D.v (Value.int IntKind.i64 200))).bind fun z => ifD z
 ((bin BinOp.mul false [] (sl rs 0) (D.v (Value.int IntKind.i64 256))).bind fun z => (liveD (sl us 0) (D.ref 0 0)).bind fun z_1 => (ref0 z_1 (sl us 0)).bind fun i => (liveD i i).bind fun i =>
 callK (F_spec_l1Cur_next [i]) fun rs us => (bin BinOp.add false [] z (sl rs 0)).bind fun z => (bin BinOp.rem false [] z x1).bind fun z => (liveD (sl us 0) (sl us 0)).bind fun _u => some (Out.ret [z] [sl us 0]))
 ((bin BinOp.rem false [] (sl rs 0) x1).bind fun z => (liveD (sl us 0) (sl us 0)).bind fun _u => some (Out.ret [z] [sl us 0])))) := by kernel_rfl
theorem t_spec_l1Cur_one (x0 x1 : D) : F_spec_l1Cur_one [x0, x1] =
  ((liveD x0 (D.ref 0 0)).bind fun z => (ref0 z x0).bind fun i => (liveD i i).bind fun i => callK (F_spec_l1Cur_pick [i, x1]) fun rs us => (bin BinOp.eql false [] (sl rs 0) (D.v (Value.int IntKind.i64 0))).bind fun z =>
 (liveD (sl us 0) (sl us 0)).bind fun _u => some (Out.ret [z] [sl us 0])) := by kernel_rfl
theorem t_spec_l1Cur_among (x0 x1 : D) : F_spec_l1Cur_among [x0, x1] =
  ((liveD x0 (D.ref 0 0)).bind fun z => (lenD false x1).bind fun z_1 => (ref0 z x0).bind fun i => (liveD i i).bind fun i => callK (F_spec_l1Cur_pick [i, z_1]) fun rs us =>
 (Option.map D.ptr (elemD 1 x1 (sl rs 0))).bind fun z => ((ldD false 1 z).bind chkV).bind fun z => (liveD (sl us 0) (sl us 0)).bind fun _u => some (Out.ret [z] [sl us 0])) := by kernel_rfl
theorem t_spec_l1Cur_orders (x0 : D) : F_spec_l1Cur_orders [x0] =
  ((liveD x0 (D.ref 0 0)).bind fun z => (ref0 z x0).bind fun i => (liveD i i).bind fun i => callK (F_spec_l1Cur_pick [i, D.v (Value.int IntKind.i64 6)]) fun rs us => joinC (fun j =>
 (liveD (sl us 0) (D.ref 0 0)).bind fun z => (ref0 z (sl us 0)).bind fun i => (liveD i i).bind fun i => callK (F_spec_l1Cur_one [i, D.v (Value.int IntKind.i64 12)]) fun rs_1 us => ifD (sl rs_1 0)
 ((liveD (sl us 0) (D.ref 0 0)).bind fun z => (ref0 z (sl us 0)).bind fun i => (liveD i i).bind fun i => callK (F_spec_l1Cur_pick [i, D.v (Value.int IntKind.i64 2)]) fun rs us =>
 (bin BinOp.add false [] (D.v (Value.int IntKind.i64 8)) (sl rs 0)).bind fun z => j [sl us 0, D.arr 4 [], D.v (Value.int IntKind.i64 0), z]) (j [sl us 0, D.arr 4 [], D.v (Value.int IntKind.i64 0), sl rs 0])) fun s =>
 (loopC (fun s => (liveD (sl s 1) (D.ref 0 0)).bind fun z => ((liveD z (sl s 1)).bind (lenD false)).bind fun z => (bin BinOp.lss false [] z (sl s 3)).bind fun z => ifD z ((liveD (sl s 0) (D.ref 0 0)).bind fun z =>
 (ref0 z (sl s 0)).bind fun i => (liveD i i).bind fun i => callK (F_spec_l1Cur_pick [i, D.v (Value.int IntKind.i64 4)]) fun rs us => (bin BinOp.add false [] (D.v (Value.int IntKind.i64 1)) (sl rs 0)).bind fun z =>
 (bin BinOp.add false [] (sl s 2) z).bind fun z => (liveD (sl us 0) (D.ref 0 0)).bind fun z_1 => (ref0 z_1 (sl us 0)).bind fun i => (liveD i i).bind fun i =>
 callK (F_spec_l1Cur_pick [i, D.v (Value.int IntKind.i64 10)]) fun rs us => (bin BinOp.mul false [] (D.v (Value.int IntKind.i64 5)) (sl rs 0)).bind fun z_2 => (liveD (sl us 0) (D.ref 0 0)).bind fun z_3 =>
 (ref0 z_3 (sl us 0)).bind fun i => (liveD i i).bind fun i => callK (F_spec_l1Cur_pick [i, D.v (Value.int IntKind.i64 10)]) fun rs us => (bin BinOp.mul false [] (D.v (Value.int IntKind.i64 5)) (sl rs 0)).bind fun z_4 =>
 (liveD (sl us 0) (D.ref 0 0)).bind fun z_5 => (ref0 z_5 (sl us 0)).bind fun i => (liveD i i).bind fun i => callK (F_spec_l1Cur_pick [i, D.v (Value.int IntKind.i64 24)]) fun rs us => (bin BinOp.mul false []
 (D.v (Value.int IntKind.i64 10)) (sl rs 0)).bind fun z_6 => (bldD [(0, 1), (1, 1), (2, 1), (3, 1)] [D.v (Value.int IntKind.i64 0), D.v (Value.int IntKind.i64 0), D.v (Value.int IntKind.i64 0),
 D.v (Value.int IntKind.i64 0)] [z, z_2, z_4, z_6]).bind fun z_7 => (mkArr 4 [z_7]).bind fun a => (chkA a).bind fun b => (appD 4 32 (sl s 1) b).bind fun y => some (Out.nrm [sl us 0, y, z, sl s 3]))
 (some (Out.ext 0 [sl s 0, sl s 1, sl s 3]))) [sl s 0, sl s 1, sl s 2, sl s 3]).bind fun o => outK o (fun i s => ifN (i.beq 0) ((bin BinOp.gtr false [] (sl s 2) (D.v (Value.int IntKind.i64 0))).bind fun z => ifD z
 ((liveD (sl s 0) (D.ref 0 0)).bind fun z => (ref0 z (sl s 0)).bind fun i => (liveD i i).bind fun i => callK (F_spec_l1Cur_pick [i, sl s 2]) fun rs us => (liveD (sl us 0) (D.ref 0 0)).bind fun z =>
 (ref0 z (sl us 0)).bind fun i => (liveD i i).bind fun i => callK (F_spec_l1Cur_pick [i, D.v (Value.int IntKind.i64 24)]) fun rs_1 us => (bin BinOp.eql false [] (sl rs_1 0) (D.v (Value.int IntKind.i64 0))).bind fun z =>
 ifD z ((liveD (sl s 1) (D.ref 0 0)).bind fun z => (liveD (sl us 0) (D.ref 0 0)).bind fun z_1 => (mkArr 1 [D.v (Value.int IntKind.i64 0), D.v (Value.int IntKind.i64 1), D.v (Value.int IntKind.i64 99),
 D.v (Value.int IntKind.i64 100)]).bind fun a => (ref0 z_1 (sl us 0)).bind fun i => (liveD i i).bind fun i => callK (F_spec_l1Cur_among [i, a]) fun rs_2 us => ((liveD z (sl s 1)).bind fun b => refI 4 b (sl rs 0)).bind
 fun z => (refAdd 0 z).bind fun z => (stD 1 (sl s 1) z (sl rs_2 0)).bind fun b => (liveD (sl us 0) (sl us 0)).bind fun _u => some (Out.ret [b] [sl us 0]))
 ((bin BinOp.eql false [] (sl rs_1 0) (D.v (Value.int IntKind.i64 1))).bind fun z => ifD z ((liveD (sl s 1) (D.ref 0 0)).bind fun z => (liveD (sl us 0) (D.ref 0 0)).bind fun z_1 => (mkArr 1
 [D.v (Value.int IntKind.i64 500), D.v (Value.int IntKind.i64 501), D.v (Value.int IntKind.i64 (-1))]).bind fun a => (ref0 z_1 (sl us 0)).bind fun i => (liveD i i).bind fun i =>
 callK (F_spec_l1Cur_among [i, a]) fun rs_2 us => ((liveD z (sl s 1)).bind fun b => refI 4 b (sl rs 0)).bind fun z => (refAdd 1 z).bind fun z => (stD 1 (sl s 1) z (sl rs_2 0)).bind fun b =>
 (liveD (sl us 0) (sl us 0)).bind fun _u => some (Out.ret [b] [sl us 0])) ((bin BinOp.eql false [] (sl rs_1 0) (D.v (Value.int IntKind.i64 2))).bind fun z => ifD z ((liveD (sl s 1) (D.ref 0 0)).bind fun z =>
 (liveD (sl us 0) (D.ref 0 0)).bind fun z_1 => (mkArr 1 [D.v (Value.int IntKind.i64 500), D.v (Value.int IntKind.i64 501), D.v (Value.int IntKind.i64 (-1))]).bind fun a => (ref0 z_1 (sl us 0)).bind fun i =>
 (liveD i i).bind fun i => callK (F_spec_l1Cur_among [i, a]) fun rs_2 us => ((liveD z (sl s 1)).bind fun b => refI 4 b (sl rs 0)).bind fun z => (refAdd 2 z).bind fun z => (stD 1 (sl s 1) z (sl rs_2 0)).bind fun b =>
 (liveD (sl us 0) (sl us 0)).bind fun _u => some (Out.ret [b] [sl us 0])) ((bin BinOp.eql false [] (sl rs_1 0) (D.v (Value.int IntKind.i64 3))).bind fun z => ifD z ((liveD (sl s 1) (D.ref 0 0)).bind fun z =>
 (liveD (sl us 0) (D.ref 0 0)).bind fun z_1 => (mkArr 1 [D.v (Value.int IntKind.i64 0), D.v (Value.int IntKind.i64 10000), D.v (Value.int IntKind.i64 10001), D.v (Value.int IntKind.i64 (-1))]).bind fun a =>
 (ref0 z_1 (sl us 0)).bind fun i => (liveD i i).bind fun i => callK (F_spec_l1Cur_among [i, a]) fun rs_2 us => ((liveD z (sl s 1)).bind fun b => refI 4 b (sl rs 0)).bind fun z => (refAdd 3 z).bind fun z =>
 (stD 1 (sl s 1) z (sl rs_2 0)).bind fun b => (liveD (sl us 0) (sl us 0)).bind fun _u => some (Out.ret [b] [sl us 0])) ((liveD (sl us 0) (sl us 0)).bind fun _u => some (Out.ret [sl s 1] [sl us 0]))))))
 ((liveD (sl s 0) (sl s 0)).bind fun _u => some (Out.ret [sl s 1] [sl s 0]))) none) fun a b => some (Out.ret a b)) := by kernel_rfl
theorem t_spec_l1Cur_sequence (x0 x1 : D) : F_spec_l1Cur_sequence [x0, x1] =
  ((loopC (fun s => (bin BinOp.lss false [] (sl s 3) (sl s 1)).bind fun z => ifD z ((liveD (sl s 0) (D.ref 0 0)).bind fun z => (liveD (sl s 2) (D.ref 0 0)).bind fun z_1 =>
 ((liveD z_1 (sl s 2)).bind (lenD false)).bind fun z_2 => (bin BinOp.add false [] z_2 (D.v (Value.int IntKind.i64 1))).bind fun z_3 => (ref0 z (sl s 0)).bind fun i => (liveD i i).bind fun i =>
 callK (F_spec_l1Cur_pick [i, z_3]) fun rs us => (mkArr 1 []).bind fun a => (sliceD false 1 (sl s 2) (D.v (Value.int IntKind.i64 0)) (sl rs 0)).bind fun z => (chkA z).bind fun b => (appD 1 8 a b).bind fun y =>
 (mkArr 1 [sl s 3]).bind fun a => (chkA a).bind fun b => (appD 1 8 y b).bind fun y => (sliceHi false 1 (sl s 2) (sl rs 0)).bind fun z => (chkA z).bind fun b => (appD 1 8 y b).bind fun y =>
 (bin BinOp.add false [] (sl s 3) (D.v (Value.int IntKind.i64 1))).bind fun z => some (Out.nrm [sl us 0, sl s 1, y, z])) (some (Out.ext 0 [sl s 0, sl s 1, sl s 2])))
 [x0, x1, D.arr 1 [], D.v (Value.int IntKind.i64 0)]).bind fun o => outK o (fun i s => ifN (i.beq 0) ((liveD (sl s 0) (D.ref 0 0)).bind fun z => (ref0 z (sl s 0)).bind fun i => (liveD i i).bind fun i =>
 callK (F_spec_l1Cur_pick [i, D.v (Value.int IntKind.i64 24)]) fun rs us => (bin BinOp.eql false [] (sl rs 0) (D.v (Value.int IntKind.i64 0))).bind fun z => ifD z ((mkArr 1 [D.v (Value.int IntKind.i64 0)]).bind fun a =>
 (chkA a).bind fun b => (appD 1 8 (sl s 2) b).bind fun y => (liveD (sl us 0) (sl us 0)).bind fun _u => some (Out.ret [y] [sl us 0])) ((bin BinOp.eql false [] (sl rs 0) (D.v (Value.int IntKind.i64 1))).bind fun z => ifD z
 ((bin BinOp.gtr false [] (sl s 1) (D.v (Value.int IntKind.i64 0))).bind fun z => ifD z ((liveD (sl s 2) (D.ref 0 0)).bind fun z => (liveD (sl us 0) (D.ref 0 0)).bind fun z_1 => (mkArr 1
 [D.v (Value.int IntKind.i64 0), sl s 1, D.v (Value.int IntKind.i64 (-1))]).bind fun a => (ref0 z_1 (sl us 0)).bind fun i => (liveD i i).bind fun i => callK (F_spec_l1Cur_among [i, a]) fun rs us =>
 ((liveD z (sl s 2)).bind fun b => refI 1 b (D.v (Value.int IntKind.i64 0))).bind fun z => (stD 1 (sl s 2) z (sl rs 0)).bind fun b => (liveD (sl us 0) (sl us 0)).bind fun _u => some (Out.ret [b] [sl us 0]))
 ((liveD (sl us 0) (sl us 0)).bind fun _u => some (Out.ret [sl s 2] [sl us 0]))) ((liveD (sl us 0) (sl us 0)).bind fun _u => some (Out.ret [sl s 2] [sl us 0])))) none) fun a b => some (Out.ret a b)) := by kernel_rfl
theorem t_spec_DrawFinishTimes (x0 : D) : F_spec_DrawFinishTimes [x0] =
  ((bldD [(0, 1)] [D.arr 1 [], D.v (Value.int IntKind.i64 0), D.v (Value.int IntKind.u64 0)] [x0]).bind fun z => (boxD 3 z).bind fun y => (liveD y (D.ref 0 0)).bind fun z => (liveD z z).bind fun z_1 =>
 (ref0 z_1 y).bind fun i => (liveD i i).bind fun i => callK (F_spec_l1Cur_orders [i]) fun rs us => (liveD z z).bind fun z => (lenD false (sl rs 0)).bind fun z_2 => (ref0 z (sl us 0)).bind fun i => (liveD i i).bind fun i =>
 callK (F_spec_l1Cur_sequence [i, z_2]) fun rs_1 _u => some (Out.ret [sl rs 0, sl rs_1 0] [])) := by kernel_rfl
theorem t_spec_DrawLateOrders (x0 : D) : F_spec_DrawLateOrders [x0] =
  (callK (F_spec_DrawFinishTimes [x0]) fun rs _u => (tupAt (D.tup rs) 0).bind fun z => (tupAt (D.tup rs) 1).bind fun y => some (Out.ret [z, y] [])) := by kernel_rfl
theorem t_spec_l1In (x0 x1 x2 : D) : F_spec_l1In [x0, x1, x2] =
  ((bin BinOp.geq false [] x0 x1).bind fun z => (gate (D.tup []) z true (some x0)).bind fun z_1 => (gate (D.tup []) z true (some x2)).bind fun z_2 => (gate (D.tup []) z true (bin BinOp.leq false [] z_1 z_2)).bind fun z_3 =>
 (pickD z z_3 (D.v (Value.bool false))).bind fun z => some (Out.ret [z] [])) := by kernel_rfl
theorem t_spec_orOne (x0 : D) : F_spec_orOne [x0] =
  ((boxD 4 x0).bind fun y => (liveD y (D.ref 0 0)).bind fun z => ((atD y z).bind (takeD false 1)).bind fun z => callK (F_spec_l1In [z, D.v (Value.int IntKind.i64 1), D.v (Value.int IntKind.i64 99)]) fun rs _u =>
 (gate D.bad (sl rs 0) true (liveD y (D.ref 0 1))).bind fun z => (gate (D.tup []) (sl rs 0) true ((atD y z).bind (takeD false 1))).bind fun z => gateC (sl rs 0) true
 (callK (F_spec_l1In [z, D.v (Value.int IntKind.i64 0), D.v (Value.int IntKind.i64 500)]) fun rs _u => some (Out.nrm [sl rs 0])) [D.tup []] fun outs => (pickD (sl rs 0) (sl outs 0) (D.v (Value.bool false))).bind fun z =>
 (gate D.bad z true (liveD y (D.ref 0 2))).bind fun z_1 => (gate (D.tup []) z true ((atD y z_1).bind (takeD false 1))).bind fun z_2 => gateC z true
 (callK (F_spec_l1In [z_2, D.v (Value.int IntKind.i64 0), D.v (Value.int IntKind.i64 500)]) fun rs _u => some (Out.nrm [sl rs 0])) [D.tup []] fun outs => (pickD z (sl outs 0) (D.v (Value.bool false))).bind fun z =>
 (gate D.bad z true (liveD y (D.ref 0 3))).bind fun z_3 => (gate (D.tup []) z true ((atD y z_3).bind (takeD false 1))).bind fun z_4 => gateC z true (callK
 (F_spec_l1In [z_4, D.v (Value.int IntKind.i64 0), D.v (Value.int IntKind.i64 10000)]) fun rs _u => some (Out.nrm [sl rs 0])) [D.tup []] fun outs =>
 (pickD z (sl outs 0) (D.v (Value.bool false))).bind fun z => some (Out.ret [z] [])) := by kernel_rfl
theorem t_spec_orGood (x0 : D) : F_spec_orGood [x0] =
  ((lenD false x0).bind fun z => (loopC (fun s => (bin BinOp.lss false [] (sl s 3) (sl s 2)).bind fun z => ifD z ((Option.map D.ptr (elemD 4 (sl s 1) (sl s 3))).bind fun z => ((ldD true 4 z).bind chkV).bind fun z => (stD 4
 (D.agg [D.v (Value.int IntKind.i64 0), D.v (Value.int IntKind.i64 0), D.v (Value.int IntKind.i64 0), D.v (Value.int IntKind.i64 0)]) (D.ref 0 0) z).bind fun b => (fldD true 4 0 b).bind fun z =>
 callK (F_spec_orOne [z]) fun rs _u => (un UnOp.not (sl rs 0)).bind fun z => (gate (D.tup []) z false (some (sl s 3))).bind fun z_1 => (gate (D.tup []) z false
 (bin BinOp.gtr false [] z_1 (D.v (Value.int IntKind.i64 0)))).bind fun z_2 => (gate (D.tup []) z false (some z_2)).bind fun z_3 => (gate (D.tup []) z_3 true (some (sl s 0))).bind fun z_4 =>
 (gate (D.tup []) z_3 true (some (sl s 3))).bind fun z_5 => (gate (D.tup []) z_3 true (bin BinOp.sub false [] z_5 (D.v (Value.int IntKind.i64 1)))).bind fun z_6 =>
 (gate (D.tup []) z_3 true (Option.map D.ptr (elemD 4 z_4 z_6))).bind fun z_7 => (gate (D.tup []) z_3 true (offD 0 z_7)).bind fun z_8 => (gate (D.tup []) z_3 true ((ldD false 1 z_8).bind chkV)).bind fun z_9 =>
 (gate D.bad z_3 true (liveD b (D.ref 0 0))).bind fun z_10 => (gate (D.tup []) z_3 true ((atD b z_10).bind (takeD false 1))).bind fun z_11 => (gate (D.tup []) z_3 true (bin BinOp.geq false [] z_9 z_11)).bind fun z_12 =>
 (gate (D.tup []) z false (pickD z_3 z_12 (D.v (Value.bool false)))).bind fun z_13 => (pickD z (D.v (Value.bool true)) z_13).bind fun z => ifD z (some (Out.ret [D.v (Value.bool false)] []))
 ((bin BinOp.add false [] (sl s 3) (D.v (Value.int IntKind.i64 1))).bind fun z => some (Out.nrm [sl s 0, sl s 1, sl s 2, z]))) (some (Out.ext 0 [sl s 0]))) [x0, x0, z, D.v (Value.int IntKind.i64 0)]).bind fun o => outK o
 (fun i s => ifN (i.beq 0) ((lenD false (sl s 0)).bind fun z => (bin BinOp.leq false [] z (D.v (Value.int IntKind.i64 8))).bind fun z => some (Out.ret [z] [])) none) fun a b => some (Out.ret a b)) := by kernel_rfl
theorem t_spec_l1Has (x0 x1 : D) : F_spec_l1Has [x0, x1] =
  ((lenD false x0).bind fun z => (loopC (fun s => (bin BinOp.lss false [] (sl s 3) (sl s 2)).bind fun z => ifD z ((Option.map D.ptr (elemD 1 (sl s 1) (sl s 3))).bind fun z => ((ldD false 1 z).bind chkV).bind fun z =>
 (bin BinOp.eql false [] z (sl s 0)).bind fun z => ifD z (some (Out.ret [D.v (Value.bool true)] [])) ((bin BinOp.add false [] (sl s 3) (D.v (Value.int IntKind.i64 1))).bind fun z =>
 some (Out.nrm [sl s 0, sl s 1, sl s 2, z]))) (some (Out.ext 0 []))) [x1, x0, z, D.v (Value.int IntKind.i64 0)]).bind fun o =>
 outK o (fun i _u => ifN (i.beq 0) (some (Out.ret [D.v (Value.bool false)] [])) none) fun a b => some (Out.ret a b)) := by kernel_rfl
theorem t_spec_orAsked (x0 x1 : D) : F_spec_orAsked [x0, x1] =
  (callK (F_spec_orGood [x0]) fun rs _u => (un UnOp.not (sl rs 0)).bind fun z => (gate (D.tup []) z false (some x1)).bind fun z_1 => (gate (D.tup []) z false (lenD false z_1)).bind fun z_2 =>
 (gate (D.tup []) z false (some x0)).bind fun z_3 => (gate (D.tup []) z false (lenD false z_3)).bind fun z_4 => (gate (D.tup []) z false (bin BinOp.neq false [] z_2 z_4)).bind fun z_5 =>
 (pickD z (D.v (Value.bool true)) z_5).bind fun z => ifD z (some (Out.ret [D.v (Value.bool false)] [])) ((lenD false x1).bind fun z => (loopC (fun s => (bin BinOp.lss false [] (sl s 4) (sl s 3)).bind fun z => ifD z
 ((Option.map D.ptr (elemD 1 (sl s 2) (sl s 4))).bind fun z => ((ldD false 1 z).bind chkV).bind fun z => (lenD false (sl s 0)).bind fun z_6 => (bin BinOp.sub false [] z_6 (D.v (Value.int IntKind.i64 1))).bind fun z_7 =>
 callK (F_spec_l1In [z, D.v (Value.int IntKind.i64 0), z_7]) fun rs _u => (un UnOp.not (sl rs 0)).bind fun z_8 => (gate (D.tup []) z_8 false (some (sl s 1))).bind fun z_9 =>
 (gate (D.tup []) z_8 false (some (sl s 4))).bind fun z_10 => (gate (D.tup []) z_8 false (sliceD false 1 z_9 (D.v (Value.int IntKind.i64 0)) z_10)).bind fun z_11 => (gate (D.tup []) z_8 false (some z)).bind fun z =>
 gateC z_8 false (callK (F_spec_l1Has [z_11, z]) fun rs _u => some (Out.nrm [sl rs 0])) [D.tup []] fun outs => (pickD z_8 (D.v (Value.bool true)) (sl outs 0)).bind fun z =>
 ifD z (some (Out.ret [D.v (Value.bool false)] [])) ((bin BinOp.add false [] (sl s 4) (D.v (Value.int IntKind.i64 1))).bind fun z => some (Out.nrm [sl s 0, sl s 1, sl s 2, sl s 3, z]))) (some (Out.ext 0 [])))
 [x0, x1, x1, z, D.v (Value.int IntKind.i64 0)]).bind fun o => outK o (fun i _u => ifN (i.beq 0) (some (Out.ret [D.v (Value.bool true)] [])) none) fun a b => some (Out.ret a b))) := by kernel_rfl
theorem t_spec_l1Most (x0 x1 : D) : F_spec_l1Most [x0, x1] =
  ((bin BinOp.gtr false [] x0 x1).bind fun z => ifD z (some (Out.ret [x0] [])) (some (Out.ret [x1] []))) := by kernel_rfl
theorem t_spec_orTimes (x0 x1 : D) : F_spec_orTimes [x0, x1] =
  ((lenD false x1).bind fun z => (loopC (fun s => (bin BinOp.lss false [] (sl s 7) (sl s 6)).bind fun z => ifD z ((Option.map D.ptr (elemD 1 (sl s 5) (sl s 7))).bind fun z => ((ldD false 1 z).bind chkV).bind fun z =>
 (Option.map D.ptr (elemD 4 (sl s 0) z)).bind fun z_1 => (offD 1 z_1).bind fun z_2 => ((ldD false 1 z_2).bind chkV).bind fun z_3 => (bin BinOp.add false [] (sl s 2) z_3).bind fun z_4 =>
 (bin BinOp.sub false [] z_4 (sl s 3)).bind fun z_5 => callK (F_spec_l1Most [D.v (Value.int IntKind.i64 0), z_5]) fun rs _u => (bin BinOp.add false [] (sl s 4) (sl rs 0)).bind fun z_6 =>
 callK (F_spec_l1Most [sl s 3, z_4]) fun rs _u => (Option.map D.ptr (elemD 4 (sl s 0) z)).bind fun z => (offD 2 z).bind fun z => ((ldD false 1 z).bind chkV).bind fun z => (bin BinOp.add false [] (sl rs 0) z).bind fun z =>
 (mkArr 1 [z]).bind fun a => (chkA a).bind fun b => (appD 1 8 (sl s 1) b).bind fun y => (bin BinOp.add false [] (sl s 7) (D.v (Value.int IntKind.i64 1))).bind fun z_7 =>
 some (Out.nrm [sl s 0, y, z_4, z, z_6, sl s 5, sl s 6, z_7])) (some (Out.ext 0 [sl s 1, sl s 4]))) [x0, D.arr 1 [], D.v (Value.int IntKind.i64 0), D.v (Value.int IntKind.i64 0), D.v (Value.int IntKind.i64 0),
 x1, z, D.v (Value.int IntKind.i64 0)]).bind fun o => outK o (fun i s => ifN (i.beq 0) (some (Out.ret [sl s 0, sl s 1] [])) none) fun a b => some (Out.ret a b)) := by kernel_rfl
theorem t_spec_orLate (x0 x1 : D) : F_spec_orLate [x0, x1] =
  (callK (F_spec_orTimes [x0, x1]) fun rs _u => (tupAt (D.tup rs) 0).bind fun y => (tupAt (tupCut (D.tup rs) 0) 1).bind fun _u => (lenD false x1).bind fun z => (loopC (fun s =>
 (bin BinOp.lss false [] (sl s 5) (sl s 4)).bind fun z => ifD z ((Option.map D.ptr (elemD 1 (sl s 3) (sl s 5))).bind fun z => ((ldD false 1 z).bind chkV).bind fun z =>
 (Option.map D.ptr (elemD 1 (sl s 1) (sl s 5))).bind fun z_1 => ((ldD false 1 z_1).bind chkV).bind fun z_2 => (Option.map D.ptr (elemD 4 (sl s 0) z)).bind fun z => (offD 3 z).bind fun z =>
 ((ldD false 1 z).bind chkV).bind fun z => (bin BinOp.sub false [] z_2 z).bind fun z => callK (F_spec_l1Most [D.v (Value.int IntKind.i64 0), z]) fun rs _u => (mkArr 1 [sl rs 0]).bind fun a => (chkA a).bind fun b =>
 (appD 1 8 (sl s 2) b).bind fun y => (bin BinOp.add false [] (sl s 5) (D.v (Value.int IntKind.i64 1))).bind fun z => some (Out.nrm [sl s 0, sl s 1, y, sl s 3, sl s 4, z])) (some (Out.ext 0 [sl s 2])))
 [x0, y, D.arr 1 [], x1, z, D.v (Value.int IntKind.i64 0)]).bind fun o => outK o (fun i s => ifN (i.beq 0) (some (Out.ret [sl s 0] [])) none) fun a b => some (Out.ret a b)) := by kernel_rfl
theorem t_spec_l1Put (x0 x1 : D) : F_spec_l1Put [x0, x1] =
  ((loopC (fun s => (lenD false (sl s 0)).bind fun z => (bin BinOp.lss false [] (sl s 2) z).bind fun z => (gate (D.tup []) z true (some (sl s 0))).bind fun z_1 => (gate (D.tup []) z true (some (sl s 2))).bind fun z_2 =>
 (gate (D.tup []) z true (Option.map D.ptr (elemD 1 z_1 z_2))).bind fun z_3 => (gate (D.tup []) z true ((ldD false 1 z_3).bind chkV)).bind fun z_4 => (gate (D.tup []) z true (some (sl s 1))).bind fun z_5 =>
 (gate (D.tup []) z true (bin BinOp.lss false [] z_4 z_5)).bind fun z_6 => (pickD z z_6 (D.v (Value.bool false))).bind fun z => ifD z ((bin BinOp.add false [] (sl s 2) (D.v (Value.int IntKind.i64 1))).bind fun z =>
 some (Out.nrm [sl s 0, sl s 1, z])) (some (Out.ext 0 [sl s 0, sl s 1, sl s 2]))) [x0, x1, D.v (Value.int IntKind.i64 0)]).bind fun o => outK o (fun i s => ifN (i.beq 0) ((lenD false (sl s 0)).bind fun z =>
 (bin BinOp.lss false [] (sl s 2) z).bind fun z => (gate (D.tup []) z true (some (sl s 0))).bind fun z_1 => (gate (D.tup []) z true (some (sl s 2))).bind fun z_2 =>
 (gate (D.tup []) z true (Option.map D.ptr (elemD 1 z_1 z_2))).bind fun z_3 => (gate (D.tup []) z true ((ldD false 1 z_3).bind chkV)).bind fun z_4 => (gate (D.tup []) z true (some (sl s 1))).bind fun z_5 =>
 (gate (D.tup []) z true (bin BinOp.eql false [] z_4 z_5)).bind fun z_6 => (pickD z z_6 (D.v (Value.bool false))).bind fun z => ifD z (some (Out.ret [sl s 0] [])) ((mkArr 1 []).bind fun a =>
 (sliceD false 1 (sl s 0) (D.v (Value.int IntKind.i64 0)) (sl s 2)).bind fun z => (chkA z).bind fun b => (appD 1 8 a b).bind fun y => (mkArr 1 [sl s 1]).bind fun a => (chkA a).bind fun b => (appD 1 8 y b).bind fun y =>
 (sliceHi false 1 (sl s 0) (sl s 2)).bind fun z => (appD 1 8 y z).bind fun y => some (Out.ret [y] []))) none) fun a b => some (Out.ret a b)) := by kernel_rfl
theorem t_spec_LateOrders (x0 x1 : D) : F_spec_LateOrders [x0, x1] =
  (callK (F_spec_orAsked [x0, x1]) fun rs _u => (un UnOp.not (sl rs 0)).bind fun z => ifD z (some (Out.ret [D.arr 1 [], D.v (Value.bool false)] [])) (callK (F_spec_orLate [x0, x1]) fun rs _u =>
 (lenD false (sl rs 0)).bind fun z => (loopC (fun s => (bin BinOp.lss false [] (sl s 5) (sl s 4)).bind fun z => ifD z ((Option.map D.ptr (elemD 1 (sl s 3) (sl s 5))).bind fun z => ((ldD false 1 z).bind chkV).bind fun z =>
 (bin BinOp.gtr false [] z (D.v (Value.int IntKind.i64 0))).bind fun z => ifD z ((Option.map D.ptr (elemD 1 (sl s 1) (sl s 5))).bind fun z => ((ldD false 1 z).bind chkV).bind fun z =>
 (Option.map D.ptr (elemD 4 (sl s 0) z)).bind fun z => (offD 0 z).bind fun z => ((ldD false 1 z).bind chkV).bind fun z => callK (F_spec_l1Put [sl s 2, z]) fun rs _u =>
 (bin BinOp.add false [] (sl s 5) (D.v (Value.int IntKind.i64 1))).bind fun z => some (Out.nrm [sl s 0, sl s 1, sl rs 0, sl s 3, sl s 4, z])) ((bin BinOp.add false [] (sl s 5) (D.v (Value.int IntKind.i64 1))).bind fun z =>
 some (Out.nrm [sl s 0, sl s 1, sl s 2, sl s 3, sl s 4, z]))) (some (Out.ext 0 [sl s 2]))) [x0, x1, D.arr 1 [], sl rs 0, z, D.v (Value.int IntKind.i64 0)]).bind fun o =>
 outK o (fun i s => ifN (i.beq 0) (some (Out.ret [sl s 0, D.v (Value.bool true)] [])) none) fun a b => some (Out.ret a b))) := by kernel_rfl
theorem t_spec_juSum (x0 : D) : F_spec_juSum [x0] =
  ((lenD false x0).bind fun z => (loopC (fun s => (bin BinOp.lss false [] (sl s 3) (sl s 2)).bind fun z => ifD z ((Option.map D.ptr (elemD 1 (sl s 1) (sl s 3))).bind fun z => ((ldD false 1 z).bind chkV).bind fun z =>
 (bin BinOp.add false [] (sl s 0) z).bind fun z => (bin BinOp.add false [] (sl s 3) (D.v (Value.int IntKind.i64 1))).bind fun z_1 => some (Out.nrm [z, sl s 1, sl s 2, z_1])) (some (Out.ext 0 [sl s 0])))
 [D.v (Value.int IntKind.i64 0), x0, z, D.v (Value.int IntKind.i64 0)]).bind fun o => outK o (fun i s => ifN (i.beq 0) (some (Out.ret [sl s 0] [])) none) fun a b => some (Out.ret a b)) := by kernel_rfl
theorem t_spec_TotalLateness (x0 x1 : D) : F_spec_TotalLateness [x0, x1] =
  (callK (F_spec_orAsked [x0, x1]) fun rs _u => (un UnOp.not (sl rs 0)).bind fun z => ifD z (some (Out.ret [D.v (Value.int IntKind.i64 0), D.v (Value.bool false)] [])) (callK (F_spec_orLate [x0, x1]) fun rs _u =>
 callK (F_spec_juSum [sl rs 0]) fun rs _u => some (Out.ret [sl rs 0, D.v (Value.bool true)] []))) := by kernel_rfl
theorem t_spec_orSorted (x0 : D) : F_spec_orSorted [x0] =
  ((lenD false x0).bind fun z => (loopC (fun s => (bin BinOp.lss false [] (sl s 3) (sl s 2)).bind fun z => ifD z ((lenD false (sl s 1)).bind fun z => (loopC (fun s =>
 (bin BinOp.gtr false [] (sl s 3) (D.v (Value.int IntKind.i64 0))).bind fun z => (gate (D.tup []) z true (some (sl s 0))).bind fun z_1 => (gate (D.tup []) z true (some (sl s 1))).bind fun z_2 =>
 (gate (D.tup []) z true (some (sl s 3))).bind fun z_3 => (gate (D.tup []) z true (bin BinOp.sub false [] z_3 (D.v (Value.int IntKind.i64 1)))).bind fun z_4 =>
 (gate (D.tup []) z true (Option.map D.ptr (elemD 1 z_2 z_4))).bind fun z_5 => (gate (D.tup []) z true ((ldD false 1 z_5).bind chkV)).bind fun z_6 =>
 (gate (D.tup []) z true (Option.map D.ptr (elemD 1 z_1 z_6))).bind fun z_7 => (gate (D.tup []) z true ((ldD false 1 z_7).bind chkV)).bind fun z_8 => (gate (D.tup []) z true (some (sl s 0))).bind fun z_9 =>
 (gate (D.tup []) z true (some (sl s 2))).bind fun z_10 => (gate (D.tup []) z true (Option.map D.ptr (elemD 1 z_9 z_10))).bind fun z_11 => (gate (D.tup []) z true ((ldD false 1 z_11).bind chkV)).bind fun z_12 =>
 (gate (D.tup []) z true (bin BinOp.gtr false [] z_8 z_12)).bind fun z_13 => (pickD z z_13 (D.v (Value.bool false))).bind fun z => ifD z ((bin BinOp.sub false [] (sl s 3) (D.v (Value.int IntKind.i64 1))).bind fun z =>
 some (Out.nrm [sl s 0, sl s 1, sl s 2, z, sl s 4, sl s 5])) (some (Out.ext 2 [sl s 0, sl s 1, sl s 2, sl s 3, sl s 4, sl s 5]))) [sl s 0, sl s 1, sl s 3, z, sl s 2, sl s 3]).bind fun o => outK o (fun i s => ifN (i.beq 2)
 ((mkArr 1 []).bind fun a => (sliceD false 1 (sl s 1) (D.v (Value.int IntKind.i64 0)) (sl s 3)).bind fun z => (chkA z).bind fun b => (appD 1 8 a b).bind fun y => (mkArr 1 [sl s 2]).bind fun a => (chkA a).bind fun b =>
 (appD 1 8 y b).bind fun y => (sliceHi false 1 (sl s 1) (sl s 3)).bind fun z => (appD 1 8 y z).bind fun y => (bin BinOp.add false [] (sl s 5) (D.v (Value.int IntKind.i64 1))).bind
 fun z => some (Out.nrm [sl s 0, y, sl s 4, z])) (ifN (i.beq 1) ((bin BinOp.add false [] (sl s 5) (D.v (Value.int IntKind.i64 1))).bind fun z => some (Out.nrm [sl s 0, sl s 1, sl s 4, z])) (some (Out.ext i [sl s 1]))))
 fun a b => some (Out.ret a b)) (some (Out.ext 0 [sl s 1]))) [x0, D.arr 1 [], z, D.v (Value.int IntKind.i64 0)]).bind
 fun o => outK o (fun i s => ifN (i.beq 0) (some (Out.ret [sl s 0] [])) none) fun a b => some (Out.ret a b)) := by kernel_rfl
theorem t_spec_orByDue (x0 : D) : F_spec_orByDue [x0] =
  ((lenD false x0).bind fun z => (loopC (fun s => (bin BinOp.lss false [] (sl s 3) (sl s 2)).bind fun z => ifD z ((Option.map D.ptr (elemD 4 (sl s 1) (sl s 3))).bind fun z => ((ldD true 4 z).bind chkV).bind fun z => (stD 4
 (D.agg [D.v (Value.int IntKind.i64 0), D.v (Value.int IntKind.i64 0), D.v (Value.int IntKind.i64 0), D.v (Value.int IntKind.i64 0)]) (D.ref 0 0) z).bind fun b => (liveD b (D.ref 0 3)).bind fun z =>
 ((atD b z).bind (takeD false 1)).bind fun z => (mkArr 1 [z]).bind fun a => (chkA a).bind fun b => (appD 1 8 (sl s 0) b).bind fun y => (bin BinOp.add false [] (sl s 3) (D.v (Value.int IntKind.i64 1))).bind fun z =>
 some (Out.nrm [y, sl s 1, sl s 2, z])) (some (Out.ext 0 [sl s 0]))) [D.arr 1 [], x0, z, D.v (Value.int IntKind.i64 0)]).bind fun o => outK o (fun i s => ifN (i.beq 0) ((liveD (sl s 0) (D.ref 0 0)).bind fun z =>
 (liveD z (sl s 0)).bind fun i => callK (F_spec_orSorted [i]) fun rs _u => some (Out.ret [sl rs 0] [])) none) fun a b => some (Out.ret a b)) := by kernel_rfl
theorem t_spec_SequenceByDue (x0 : D) : F_spec_SequenceByDue [x0] =
  (callK (F_spec_orGood [x0]) fun rs _u => (un UnOp.not (sl rs 0)).bind fun z => ifD z (some (Out.ret [D.arr 1 [], D.v (Value.bool false)] []))
 (callK (F_spec_orByDue [x0]) fun rs _u => some (Out.ret [sl rs 0, D.v (Value.bool true)] []))) := by kernel_rfl
theorem t_spec_orWorst (x0 x1 : D) : F_spec_orWorst [x0, x1] =
  (callK (F_spec_orLate [x0, x1]) fun rs _u => (lenD false (sl rs 0)).bind fun z => (loopC (fun s => (bin BinOp.lss false [] (sl s 3) (sl s 2)).bind fun z => ifD z
 ((Option.map D.ptr (elemD 1 (sl s 1) (sl s 3))).bind fun z => ((ldD false 1 z).bind chkV).bind fun z => callK (F_spec_l1Most [sl s 0, z]) fun rs _u =>
 (bin BinOp.add false [] (sl s 3) (D.v (Value.int IntKind.i64 1))).bind fun z => some (Out.nrm [sl rs 0, sl s 1, sl s 2, z])) (some (Out.ext 0 [sl s 0])))
 [D.v (Value.int IntKind.i64 0), sl rs 0, z, D.v (Value.int IntKind.i64 0)]).bind fun o => outK o (fun i s => ifN (i.beq 0) (some (Out.ret [sl s 0] [])) none) fun a b => some (Out.ret a b)) := by kernel_rfl
theorem t_spec_tyLess (x0 x1 : D) : F_spec_tyLess [x0, x1] =
  ((loopC (fun s => (lenD false (sl s 0)).bind fun z => (bin BinOp.lss false [] (sl s 2) z).bind fun z => (gate (D.tup []) z true (some (sl s 2))).bind fun z_1 => (gate (D.tup []) z true (some (sl s 1))).bind fun z_2 =>
 (gate (D.tup []) z true (lenD false z_2)).bind fun z_3 => (gate (D.tup []) z true (bin BinOp.lss false [] z_1 z_3)).bind fun z_4 => (pickD z z_4 (D.v (Value.bool false))).bind fun z => ifD z
 ((Option.map D.ptr (elemD 1 (sl s 0) (sl s 2))).bind fun z => ((ldD false 1 z).bind chkV).bind fun z => (Option.map D.ptr (elemD 1 (sl s 1) (sl s 2))).bind fun z_5 => ((ldD false 1 z_5).bind chkV).bind fun z_6 =>
 (bin BinOp.neq false [] z z_6).bind fun z => ifD z ((Option.map D.ptr (elemD 1 (sl s 0) (sl s 2))).bind fun z => ((ldD false 1 z).bind chkV).bind fun z => (Option.map D.ptr (elemD 1 (sl s 1) (sl s 2))).bind fun z_7 =>
 ((ldD false 1 z_7).bind chkV).bind fun z_8 => (bin BinOp.lss false [] z z_8).bind fun z => some (Out.ret [z] [])) ((bin BinOp.add false [] (sl s 2) (D.v (Value.int IntKind.i64 1))).bind fun z =>
 some (Out.nrm [sl s 0, sl s 1, z]))) (some (Out.ext 0 [sl s 0, sl s 1]))) [x0, x1, D.v (Value.int IntKind.i64 0)]).bind fun o => outK o (fun i s => ifN (i.beq 0) ((lenD false (sl s 0)).bind fun z =>
 (lenD false (sl s 1)).bind fun z_1 => (bin BinOp.lss false [] z z_1).bind fun z => some (Out.ret [z] [])) none) fun a b => some (Out.ret a b)) := by kernel_rfl
theorem t_spec_MostInTime (x0 : D) : F_spec_MostInTime [x0] =
  (callK (F_spec_orGood [x0]) fun rs _u => (un UnOp.not (sl rs 0)).bind fun z => ifD z (some (Out.ret [D.arr 1 [], D.v (Value.bool false)] [])) ((loopC (fun s => (lenD false (sl s 0)).bind fun z =>
 (convD (some IntKind.u64) false z).bind fun z => (bin BinOp.shl false [] (D.v (Value.int IntKind.i64 1)) z).bind fun z => (bin BinOp.lss false [] (sl s 2) z).bind fun z => ifD z
 (callK (F_spec_orByDue [sl s 0]) fun rs _u => (lenD false (sl rs 0)).bind fun z => (loopC (fun s => (bin BinOp.lss false [] (sl s 7) (sl s 6)).bind fun z => ifD z
 ((Option.map D.ptr (elemD 1 (sl s 5) (sl s 7))).bind fun z => ((ldD false 1 z).bind chkV).bind fun z => (convD (some IntKind.u64) false z).bind fun z_1 => (bin BinOp.shr false [] (sl s 2) z_1).bind fun z_2 =>
 (bin BinOp.and false [] z_2 (D.v (Value.int IntKind.i64 1))).bind fun z_3 => (bin BinOp.eql false [] z_3 (D.v (Value.int IntKind.i64 1))).bind fun z_4 => ifD z_4 ((mkArr 1 [z]).bind fun a => (chkA a).bind fun b =>
 (appD 1 8 (sl s 4) b).bind fun y => callK (F_spec_l1Put [sl s 3, z]) fun rs _u => (bin BinOp.add false [] (sl s 7) (D.v (Value.int IntKind.i64 1))).bind fun z => some (Out.nrm [sl s 0, sl s 1, sl s 2, sl rs 0, y, sl s 5,
 sl s 6, z])) ((bin BinOp.add false [] (sl s 7) (D.v (Value.int IntKind.i64 1))).bind fun z => some (Out.nrm [sl s 0, sl s 1, sl s 2, sl s 3, sl s 4, sl s 5, sl s 6, z])))
 (some (Out.ext 2 [sl s 0, sl s 1, sl s 2, sl s 3, sl s 4]))) [sl s 0, sl s 1, sl s 2, D.arr 1 [], D.arr 1 [], sl rs 0, z, D.v (Value.int IntKind.i64 0)]).bind fun o => outK o (fun i s => ifN (i.beq 2)
 ((liveD (sl s 4) (D.ref 0 0)).bind fun z => (liveD z (sl s 4)).bind fun i => callK (F_spec_orWorst [sl s 0, i]) fun rs _u => (bin BinOp.eql false [] (sl rs 0) (D.v (Value.int IntKind.i64 0))).bind fun z =>
 (gate (D.tup []) z true (some (sl s 3))).bind fun z_1 => (gate (D.tup []) z true (lenD false z_1)).bind fun z_2 => (gate (D.tup []) z true (some (sl s 1))).bind fun z_3 =>
 (gate (D.tup []) z true (lenD false z_3)).bind fun z_4 => (gate (D.tup []) z true (bin BinOp.gtr false [] z_2 z_4)).bind fun z_5 => (gate (D.tup []) z true (some z_5)).bind fun z_6 =>
 (gate (D.tup []) z_6 false (some (sl s 3))).bind fun z_7 => (gate (D.tup []) z_6 false (lenD false z_7)).bind fun z_8 => (gate (D.tup []) z_6 false (some (sl s 1))).bind fun z_9 =>
 (gate (D.tup []) z_6 false (lenD false z_9)).bind fun z_10 => (gate (D.tup []) z_6 false (bin BinOp.eql false [] z_8 z_10)).bind fun z_11 => (gate (D.tup []) z_6 false (some z_11)).bind fun z_12 =>
 (gate (D.tup []) z_12 true (some (sl s 3))).bind fun z_13 => (gate (D.tup []) z_12 true (some (sl s 1))).bind fun z_14 => gateC z_12 true (callK (F_spec_tyLess [z_13, z_14]) fun rs _u => some (Out.nrm [sl rs 0]))
 [D.tup []] fun outs => (gate (D.tup []) z_6 false (pickD z_12 (sl outs 0) (D.v (Value.bool false)))).bind fun z_15 => (gate (D.tup []) z true (pickD z_6 (D.v (Value.bool true)) z_15)).bind fun z_16 => (pickD z z_16
 (D.v (Value.bool false))).bind fun z => ifD z ((bin BinOp.add false [] (sl s 2) (D.v (Value.int IntKind.i64 1))).bind fun z => some (Out.nrm [sl s 0, sl s 3, z])) ((bin BinOp.add false [] (sl s 2) (D.v
 (Value.int IntKind.i64 1))).bind fun z => some (Out.nrm [sl s 0, sl s 1, z]))) (ifN (i.beq 1) ((bin BinOp.add false [] (sl s 2) (D.v (Value.int IntKind.i64 1))).bind fun z => some (Out.nrm [sl s 0, sl s 1, z]))
 (some (Out.ext i [sl s 1])))) fun a b => some (Out.ret a b)) (some (Out.ext 0 [sl s 1]))) [x0, D.arr 1 [], D.v (Value.int IntKind.i64 0)]).bind fun o =>
 outK o (fun i s => ifN (i.beq 0) (some (Out.ret [sl s 0, D.v (Value.bool true)] [])) none) fun a b => some (Out.ret a b))) := by kernel_rfl
theorem t_spec_DrawLeastLateness (x0 : D) : F_spec_DrawLeastLateness [x0] =
  ((bldD [(0, 1)] [D.arr 1 [], D.v (Value.int IntKind.i64 0), D.v (Value.int IntKind.u64 0)] [x0]).bind fun z => (boxD 3 z).bind fun y => (liveD y (D.ref 0 0)).bind fun z => (liveD z z).bind fun z_1 =>
 (ref0 z_1 y).bind fun i => (liveD i i).bind fun i => callK (F_spec_l1Cur_orders [i]) fun rs us => (liveD (sl rs 0) (D.ref 0 0)).bind fun z_2 => ((liveD z_2 (sl rs 0)).bind (lenD false)).bind fun z_3 =>
 (bin BinOp.gtr false [] z_3 (D.v (Value.int IntKind.i64 6))).bind fun z_4 => (gate D.bad z_4 true (liveD z z)).bind fun z => gateC z_4 true ((ref0 z (sl us 0)).bind fun i => (liveD i i).bind fun i =>
 callK (F_spec_l1Cur_one [i, D.v (Value.int IntKind.i64 8)]) fun rs us => some (Out.nrm [sl rs 0, sl us 0])) [D.tup [], sl us 0] fun outs => (gate (D.tup []) z_4 true (un UnOp.not (sl outs 0))).bind fun z =>
 (pickD z_4 z (D.v (Value.bool false))).bind fun z => ifD z ((sliceD false 4 (sl rs 0) (D.v (Value.int IntKind.i64 0)) (D.v (Value.int IntKind.i64 6))).bind fun y => some (Out.ret [y] [])) (some (Out.ret [sl rs 0] []))) := by kernel_rfl
theorem t_spec_l1Own (x0 : D) : F_spec_l1Own [x0] =
  ((mkArr 1 []).bind fun a => (chkA x0).bind fun b => (appD 1 8 a b).bind fun y => some (Out.ret [y] [])) := by kernel_rfl
theorem t_spec_orFirst (n : Nat) (x0 x1 : D) : R_spec_orFirst (n + 1) [x0, x1] =
  ((lenD false x1).bind fun z => (lenD false x0).bind fun z_1 => (bin BinOp.eql false [] z z_1).bind fun z => ifD z (callK (F_spec_orWorst [x0, x1]) fun rs _u => some (Out.ret [x1, sl rs 0] []))
 ((lenD false x0).bind fun z => (loopC (fun s => (bin BinOp.lss false [] (sl s 5) (sl s 4)).bind fun z => ifD z (callK (F_spec_l1Has [sl s 1, sl s 5]) fun rs _u => ifD (sl rs 0)
 ((bin BinOp.add false [] (sl s 5) (D.v (Value.int IntKind.i64 1))).bind fun z => some (Out.nrm [sl s 0, sl s 1, sl s 2, sl s 3, sl s 4, z])) (callK (F_spec_l1Own [sl s 1]) fun rs _u => (mkArr 1 [sl s 5]).bind fun a =>
 (appD 1 8 (sl rs 0) a).bind fun y => (bin BinOp.geq false [] (sl s 3) (D.v (Value.int IntKind.i64 0))).bind fun z => (gate (D.tup []) z true (some (sl s 0))).bind fun z_2 =>
 (gate (D.tup []) z true (some y)).bind fun z_3 => gateC z true (callK (F_spec_orWorst [z_2, z_3]) fun rs _u => some (Out.nrm [sl rs 0])) [D.tup []] fun outs => (gate (D.tup []) z true (some (sl s 3))).bind fun z_4 =>
 (gate (D.tup []) z true (bin BinOp.geq false [] (sl outs 0) z_4)).bind fun z_5 => (pickD z z_5 (D.v (Value.bool false))).bind fun z => ifD z ((bin BinOp.add false [] (sl s 5) (D.v (Value.int IntKind.i64 1))).bind
 fun z => some (Out.nrm [sl s 0, sl s 1, sl s 2, sl s 3, sl s 4, z])) (callK (R_spec_orFirst n [sl s 0, y]) fun rs _u => (tupAt (D.tup rs) 0).bind fun z => (tupAt (D.tup rs) 1).bind fun z_6 =>
 (bin BinOp.lss false [] (sl s 3) (D.v (Value.int IntKind.i64 0))).bind fun z_7 => (gate (D.tup []) z_7 false (some z_6)).bind fun z_8 => (gate (D.tup []) z_7 false (some (sl s 3))).bind fun z_9 =>
 (gate (D.tup []) z_7 false (bin BinOp.lss false [] z_8 z_9)).bind fun z_10 => (pickD z_7 (D.v (Value.bool true)) z_10).bind fun z_11 => ifD z_11 ((bin BinOp.add false [] (sl s 5) (D.v (Value.int IntKind.i64 1))).bind
 fun z_12 => some (Out.nrm [sl s 0, sl s 1, z, z_6, sl s 4, z_12])) ((bin BinOp.add false [] (sl s 5) (D.v (Value.int IntKind.i64 1))).bind fun z => some (Out.nrm [sl s 0, sl s 1, sl s 2, sl s 3, sl s 4, z])))))
 (some (Out.ext 0 [sl s 2, sl s 3]))) [x0, x1, D.arr 1 [], D.v (Value.int IntKind.i64 (-1)), z, D.v (Value.int IntKind.i64 0)]).bind fun o =>
 outK o (fun i s => ifN (i.beq 0) (some (Out.ret [sl s 0, sl s 1] [])) none) fun a b => some (Out.ret a b))) := by kernel_rfl
theorem t_spec_LeastLateness (x0 : D) : F_spec_LeastLateness [x0] =
  (callK (F_spec_orGood [x0]) fun rs _u => (un UnOp.not (sl rs 0)).bind fun z => ifD z (some (Out.ret [D.arr 1 [], D.v (Value.int IntKind.i64 0), D.v (Value.bool false)] []))
 (callK (F_spec_orFirst [x0, D.arr 0 []]) fun rs _u => (tupAt (D.tup rs) 0).bind fun z => (tupAt (D.tup rs) 1).bind fun z_1 => some (Out.ret [z, z_1, D.v (Value.bool true)] []))) := by kernel_rfl
theorem t_impl_isOrder (x0 : D) : F_impl_isOrder [x0] =
  ((boxD 4 x0).bind fun y => (liveD y (D.ref 0 0)).bind fun z => ((atD y z).bind (takeD false 1)).bind fun z => callK (F_impl_within [z, D.v (Value.int IntKind.i64 1), D.v (Value.int IntKind.i64 99)]) fun rs _u =>
 (gate D.bad (sl rs 0) true (liveD y (D.ref 0 1))).bind fun z => (gate (D.tup []) (sl rs 0) true ((atD y z).bind (takeD false 1))).bind fun z => gateC (sl rs 0) true
 (callK (F_impl_within [z, D.v (Value.int IntKind.i64 0), D.v (Value.int IntKind.i64 500)]) fun rs _u => some (Out.nrm [sl rs 0])) [D.tup []] fun outs => (pickD (sl rs 0) (sl outs 0) (D.v (Value.bool false))).bind fun z =>
 (gate D.bad z true (liveD y (D.ref 0 2))).bind fun z_1 => (gate (D.tup []) z true ((atD y z_1).bind (takeD false 1))).bind fun z_2 => gateC z true
 (callK (F_impl_within [z_2, D.v (Value.int IntKind.i64 0), D.v (Value.int IntKind.i64 500)]) fun rs _u => some (Out.nrm [sl rs 0])) [D.tup []] fun outs => (pickD z (sl outs 0) (D.v (Value.bool false))).bind fun z =>
 (gate D.bad z true (liveD y (D.ref 0 3))).bind fun z_3 => (gate (D.tup []) z true ((atD y z_3).bind (takeD false 1))).bind fun z_4 => gateC z true (callK (F_impl_within
 [z_4, D.v (Value.int IntKind.i64 0), D.v (Value.int IntKind.i64 10000)]) fun rs _u => some (Out.nrm [sl rs 0])) [D.tup []] fun outs => (pickD z (sl outs 0) (D.v (Value.bool false))).bind fun z => some (Out.ret [z] [])) := by kernel_rfl
theorem t_impl_AreOrders (x0 : D) : F_impl_AreOrders [x0] =
  ((lenD false x0).bind fun z => (loopC (fun s => (bin BinOp.lss false [] (sl s 3) (sl s 2)).bind fun z => ifD z ((Option.map D.ptr (elemD 4 (sl s 1) (sl s 3))).bind fun z => ((ldD true 4 z).bind chkV).bind fun z => (stD 4
 (D.agg [D.v (Value.int IntKind.i64 0), D.v (Value.int IntKind.i64 0), D.v (Value.int IntKind.i64 0), D.v (Value.int IntKind.i64 0)]) (D.ref 0 0) z).bind fun b => (fldD true 4 0 b).bind fun z =>
 callK (F_impl_isOrder [z]) fun rs _u => (un UnOp.not (sl rs 0)).bind fun z => (gate (D.tup []) z false (some (sl s 3))).bind fun z_1 => (gate (D.tup []) z false
 (bin BinOp.gtr false [] z_1 (D.v (Value.int IntKind.i64 0)))).bind fun z_2 => (gate (D.tup []) z false (some z_2)).bind fun z_3 => (gate (D.tup []) z_3 true (some (sl s 0))).bind fun z_4 =>
 (gate (D.tup []) z_3 true (some (sl s 3))).bind fun z_5 => (gate (D.tup []) z_3 true (bin BinOp.sub false [] z_5 (D.v (Value.int IntKind.i64 1)))).bind fun z_6 =>
 (gate (D.tup []) z_3 true (Option.map D.ptr (elemD 4 z_4 z_6))).bind fun z_7 => (gate (D.tup []) z_3 true (offD 0 z_7)).bind fun z_8 => (gate (D.tup []) z_3 true ((ldD false 1 z_8).bind chkV)).bind fun z_9 =>
 (gate D.bad z_3 true (liveD b (D.ref 0 0))).bind fun z_10 => (gate (D.tup []) z_3 true ((atD b z_10).bind (takeD false 1))).bind fun z_11 => (gate (D.tup []) z_3 true (bin BinOp.geq false [] z_9 z_11)).bind fun z_12 =>
 (gate (D.tup []) z false (pickD z_3 z_12 (D.v (Value.bool false)))).bind fun z_13 => (pickD z (D.v (Value.bool true)) z_13).bind fun z => ifD z (some (Out.ret [D.v (Value.bool false)] []))
 ((bin BinOp.add false [] (sl s 3) (D.v (Value.int IntKind.i64 1))).bind fun z => some (Out.nrm [sl s 0, sl s 1, sl s 2, z]))) (some (Out.ext 0 [sl s 0]))) [x0, x0, z, D.v (Value.int IntKind.i64 0)]).bind fun o => outK o
 (fun i s => ifN (i.beq 0) ((lenD false (sl s 0)).bind fun z => (bin BinOp.leq false [] z (D.v (Value.int IntKind.i64 8))).bind fun z => some (Out.ret [z] [])) none) fun a b => some (Out.ret a b)) := by kernel_rfl
theorem t_impl_isSequence (x0 x1 : D) : F_impl_isSequence [x0, x1] =
  (callK (F_impl_AreOrders [x0]) fun rs _u => (gate (D.tup []) (sl rs 0) true (some x1)).bind fun z => (gate (D.tup []) (sl rs 0) true (lenD false z)).bind fun z => (gate (D.tup []) (sl rs 0) true (some x0)).bind fun z_1 =>
 (gate (D.tup []) (sl rs 0) true (lenD false z_1)).bind fun z_2 => (gate (D.tup []) (sl rs 0) true (bin BinOp.eql false [] z z_2)).bind fun z => (pickD (sl rs 0) z (D.v (Value.bool false))).bind fun z =>
 (gate (D.tup []) z true (some x1)).bind fun z_3 => (gate (D.tup []) z true (some x0)).bind fun z_4 => (gate (D.tup []) z true (lenD false z_4)).bind fun z_5 =>
 gateC z true (callK (fDif [z_3, z_5]) fun rs _u => some (Out.nrm [sl rs 0])) [D.tup []] fun outs => (pickD z (sl outs 0) (D.v (Value.bool false))).bind fun z => some (Out.ret [z] [])) := by kernel_rfl
theorem t_impl_finished (x0 x1 : D) : F_impl_finished [x0, x1] =
  ((mkArr 1 []).bind fun a => (lenD false x1).bind fun z => (loopC (fun s => (bin BinOp.lss false [] (sl s 6) (sl s 5)).bind fun z => ifD z ((Option.map D.ptr (elemD 1 (sl s 4) (sl s 6))).bind fun z =>
 ((ldD false 1 z).bind chkV).bind fun z => (Option.map D.ptr (elemD 4 (sl s 0) z)).bind fun z_1 => (offD 1 z_1).bind fun z_2 => ((ldD false 1 z_2).bind chkV).bind fun z_3 =>
 (bin BinOp.add false [] (sl s 2) z_3).bind fun z_4 => ((maxD (sl s 3) z_4).bind fun z => some z).bind fun z_5 => (Option.map D.ptr (elemD 4 (sl s 0) z)).bind fun z => (offD 2 z).bind fun z =>
 ((ldD false 1 z).bind chkV).bind fun z => (bin BinOp.add false [] z_5 z).bind fun z => (mkArr 1 [z]).bind fun a => (chkA a).bind fun b => (appD 1 8 (sl s 1) b).bind fun y =>
 (bin BinOp.add false [] (sl s 6) (D.v (Value.int IntKind.i64 1))).bind fun z_6 => some (Out.nrm [sl s 0, y, z_4, z, sl s 4, sl s 5, z_6])) (some (Out.ext 0 [sl s 1])))
 [x0, a, D.v (Value.int IntKind.i64 0), D.v (Value.int IntKind.i64 0), x1, z, D.v (Value.int IntKind.i64 0)]).bind fun o => outK o (fun i s => ifN (i.beq 0) (some (Out.ret [sl s 0] [])) none) fun a b => some (Out.ret a b)) := by kernel_rfl
theorem t_impl_lateness (x0 x1 : D) : F_impl_lateness [x0, x1] =
  ((mkArr 1 []).bind fun a => callK (F_impl_finished [x0, x1]) fun rs _u => (lenD false (sl rs 0)).bind fun z => (loopC (fun s => (bin BinOp.lss false [] (sl s 5) (sl s 4)).bind fun z => ifD z
 ((Option.map D.ptr (elemD 1 (sl s 3) (sl s 5))).bind fun z => ((ldD false 1 z).bind chkV).bind fun z => (Option.map D.ptr (elemD 1 (sl s 1) (sl s 5))).bind fun z_1 => ((ldD false 1 z_1).bind chkV).bind fun z_2 =>
 (Option.map D.ptr (elemD 4 (sl s 0) z_2)).bind fun z_3 => (offD 3 z_3).bind fun z_4 => ((ldD false 1 z_4).bind chkV).bind fun z_5 => (bin BinOp.sub false [] z z_5).bind fun z =>
 ((maxD (D.v (Value.int IntKind.i64 0)) z).bind fun z => some z).bind fun z => (mkArr 1 [z]).bind fun a => (chkA a).bind fun b => (appD 1 8 (sl s 2) b).bind fun y =>
 (bin BinOp.add false [] (sl s 5) (D.v (Value.int IntKind.i64 1))).bind fun z => some (Out.nrm [sl s 0, sl s 1, y, sl s 3, sl s 4, z])) (some (Out.ext 0 [sl s 2])))
 [x0, x1, a, sl rs 0, z, D.v (Value.int IntKind.i64 0)]).bind fun o => outK o (fun i s => ifN (i.beq 0) (some (Out.ret [sl s 0] [])) none) fun a b => some (Out.ret a b)) := by kernel_rfl
theorem t_impl_sum (x0 : D) : F_impl_sum [x0] =
  ((lenD false x0).bind fun z => (loopC (fun s => (bin BinOp.lss false [] (sl s 3) (sl s 2)).bind fun z => ifD z ((Option.map D.ptr (elemD 1 (sl s 1) (sl s 3))).bind fun z => ((ldD false 1 z).bind chkV).bind fun z =>
 (bin BinOp.add false [] (sl s 0) z).bind fun z => (bin BinOp.add false [] (sl s 3) (D.v (Value.int IntKind.i64 1))).bind fun z_1 => some (Out.nrm [z, sl s 1, sl s 2, z_1])) (some (Out.ext 0 [sl s 0])))
 [D.v (Value.int IntKind.i64 0), x0, z, D.v (Value.int IntKind.i64 0)]).bind fun o => outK o (fun i s => ifN (i.beq 0) (some (Out.ret [sl s 0] [])) none) fun a b => some (Out.ret a b)) := by kernel_rfl
theorem t_impl_TotalLateness (x0 x1 : D) : F_impl_TotalLateness [x0, x1] =
  (callK (F_impl_isSequence [x0, x1]) fun rs _u => (un UnOp.not (sl rs 0)).bind fun z => ifD z (some (Out.ret [D.v (Value.int IntKind.i64 0), D.v (Value.bool false)] [])) (callK (F_impl_lateness [x0, x1]) fun rs _u =>
 callK (F_impl_sum [sl rs 0]) fun rs _u => some (Out.ret [sl rs 0, D.v (Value.bool true)] []))) := by kernel_rfl
theorem t_impl_FinishTimes (x0 x1 : D) : F_impl_FinishTimes [x0, x1] =
  (callK (F_impl_isSequence [x0, x1]) fun rs _u => (un UnOp.not (sl rs 0)).bind fun z => ifD z ((mkArr 1 []).bind fun a => some (Out.ret [a, D.v (Value.bool false)] []))
 (callK (F_impl_finished [x0, x1]) fun rs _u => some (Out.ret [sl rs 0, D.v (Value.bool true)] []))) := by kernel_rfl
theorem t_impl_hasNumber (x0 x1 : D) : F_impl_hasNumber [x0, x1] =
  ((lenD false x0).bind fun z => (loopC (fun s => (bin BinOp.lss false [] (sl s 3) (sl s 2)).bind fun z => ifD z ((Option.map D.ptr (elemD 1 (sl s 1) (sl s 3))).bind fun z => ((ldD false 1 z).bind chkV).bind fun z =>
 (bin BinOp.eql false [] z (sl s 0)).bind fun z => ifD z (some (Out.ret [D.v (Value.bool true)] [])) ((bin BinOp.add false [] (sl s 3) (D.v (Value.int IntKind.i64 1))).bind fun z =>
 some (Out.nrm [sl s 0, sl s 1, sl s 2, z]))) (some (Out.ext 0 []))) [x1, x0, z, D.v (Value.int IntKind.i64 0)]).bind fun o =>
 outK o (fun i _u => ifN (i.beq 0) (some (Out.ret [D.v (Value.bool false)] [])) none) fun a b => some (Out.ret a b)) := by kernel_rfl
theorem t_impl_greatest (x0 : D) : F_impl_greatest [x0] =
  ((lenD false x0).bind fun z => (loopC (fun s => (bin BinOp.lss false [] (sl s 3) (sl s 2)).bind fun z => ifD z ((Option.map D.ptr (elemD 1 (sl s 1) (sl s 3))).bind fun z => ((ldD false 1 z).bind chkV).bind fun z =>
 ((maxD (sl s 0) z).bind fun z => some z).bind fun z => (bin BinOp.add false [] (sl s 3) (D.v (Value.int IntKind.i64 1))).bind fun z_1 => some (Out.nrm [z, sl s 1, sl s 2, z_1])) (some (Out.ext 0 [sl s 0])))
 [D.v (Value.int IntKind.i64 0), x0, z, D.v (Value.int IntKind.i64 0)]).bind fun o => outK o (fun i s => ifN (i.beq 0) (some (Out.ret [sl s 0] [])) none) fun a b => some (Out.ret a b)) := by kernel_rfl
theorem t_laws_qInts (x0 x1 : D) : F_laws_qInts [x0, x1] =
  ((lenD false x0).bind fun z => (lenD false x1).bind fun z_1 => (bin BinOp.neq false [] z z_1).bind fun z => ifD z (some (Out.ret [D.v (Value.bool false)] [])) ((lenD false x0).bind fun z => (loopC (fun s =>
 (bin BinOp.lss false [] (sl s 3) (sl s 2)).bind fun z => ifD z ((Option.map D.ptr (elemD 1 (sl s 0) (sl s 3))).bind fun z => ((ldD false 1 z).bind chkV).bind fun z =>
 (Option.map D.ptr (elemD 1 (sl s 1) (sl s 3))).bind fun z_2 => ((ldD false 1 z_2).bind chkV).bind fun z_3 => (bin BinOp.neq false [] z z_3).bind fun z => ifD z (some (Out.ret [D.v (Value.bool false)] []))
 ((bin BinOp.add false [] (sl s 3) (D.v (Value.int IntKind.i64 1))).bind fun z => some (Out.nrm [sl s 0, sl s 1, sl s 2, z]))) (some (Out.ext 0 []))) [x0, x1, z, D.v (Value.int IntKind.i64 0)]).bind fun o =>
 outK o (fun i _u => ifN (i.beq 0) (some (Out.ret [D.v (Value.bool true)] [])) none) fun a b => some (Out.ret a b))) := by kernel_rfl
theorem t_laws_qHas (x0 x1 : D) : F_laws_qHas [x0, x1] =
  ((lenD false x0).bind fun z => (loopC (fun s => (bin BinOp.lss false [] (sl s 3) (sl s 2)).bind fun z => ifD z ((Option.map D.ptr (elemD 1 (sl s 1) (sl s 3))).bind fun z => ((ldD false 1 z).bind chkV).bind fun z =>
 (bin BinOp.eql false [] z (sl s 0)).bind fun z => ifD z (some (Out.ret [D.v (Value.bool true)] [])) ((bin BinOp.add false [] (sl s 3) (D.v (Value.int IntKind.i64 1))).bind fun z =>
 some (Out.nrm [sl s 0, sl s 1, sl s 2, z]))) (some (Out.ext 0 []))) [x1, x0, z, D.v (Value.int IntKind.i64 0)]).bind fun o =>
 outK o (fun i _u => ifN (i.beq 0) (some (Out.ret [D.v (Value.bool false)] [])) none) fun a b => some (Out.ret a b)) := by kernel_rfl
end Go.Proofs.YtaphcpfkgpaefaaGreat
/-
  Orders: what the functions compute, said plainly.
-/
namespace Go.Proofs.YtaphcpfkgpaefaaGreat
open Go Go.V
set_option linter.unusedSimpArgs false

abbrev Od := Int × Int × Int × Int
abbrev od (x : Od) : D := .agg [I x.1, I x.2.1, I x.2.2.1, I x.2.2.2]
abbrev ods (l : List Od) : D := .arr 4 (l.map od)

theorem e_spec_l1In (a b c : Int) : F_spec_l1In [I a, I b, I c] = some (.ret [B (decide (b ≤ a ∧ a ≤ c))] []) := by
  rw [t_spec_l1In]
  by_cases h : b ≤ a <;> simp [h]
theorem e_impl_within (a b c : Int) : F_impl_within [I a, I b, I c] = some (.ret [B (decide (b ≤ a ∧ a ≤ c))] []) := by
  rw [t_impl_within]
  by_cases h : b ≤ a <;> simp [h]
def isOd (x : Od) : Bool := decide (1 ≤ x.1 ∧ x.1 ≤ 99) && decide (0 ≤ x.2.1 ∧ x.2.1 ≤ 500) && decide (0 ≤ x.2.2.1 ∧ x.2.2.1 ≤ 500) && decide (0 ≤ x.2.2.2 ∧ x.2.2.2 ≤ 10000)
theorem e_spec_orOne (x : Od) : F_spec_orOne [od x] = some (.ret [B (isOd x)] []) := by
  rw [t_spec_orOne]
  by_cases h1 : 1 ≤ x.1 ∧ x.1 ≤ 99 <;> by_cases h2 : 0 ≤ x.2.1 ∧ x.2.1 ≤ 500 <;> by_cases h3 : 0 ≤ x.2.2.1 ∧ x.2.2.1 ≤ 500 <;> simp -implicitDefEqProofs [e_spec_l1In, isOd, h1, h2, h3]
theorem e_impl_isOrder (x : Od) : F_impl_isOrder [od x] = some (.ret [B (isOd x)] []) := by
  rw [t_impl_isOrder]
  by_cases h1 : 1 ≤ x.1 ∧ x.1 ≤ 99 <;> by_cases h2 : 0 ≤ x.2.1 ∧ x.2.1 ≤ 500 <;> by_cases h3 : 0 ≤ x.2.2.1 ∧ x.2.2.1 ≤ 500 <;> simp -implicitDefEqProofs [e_impl_within, isOd, h1, h2, h3]
/-- Are a list orders? -/
def pOd (l : List Od) (i : Nat) (x : Od) : Bool := isOd x && !(decide (0 < i) && decide (x.1 ≤ (l.getD (i - 1) (0, 0, 0, 0)).1))
def goodO (l : List Od) : Bool := allI (pOd l) 0 l && decide (l.length ≤ 8)
theorem e_spec_orGood (l : List Od) (h : l.length ≤ 1048576) : F_spec_orGood [ods l] = some (.ret [B (goodO l)] []) := by
  rw [t_spec_orGood]
  simp only [lenD_arr, List.length_map, Option.bind_some]
  refine loop_bind _ (loop_all l (fun i => [ods l, ods l, I l.length, I i]) (pOd l) (.ret [B false] []) (.ext 0 [ods l]) (fun i hi => ?_) ?_ rfl rfl rfl) ?_
  · have hw : IntKind.i64.wrap ((i : Int) + 1) = (i : Int) + 1 := wrap_id (by omega) (by omega)
    cases h1 : isOd l[i]
    · simp -implicitDefEqProofs [hi, e_spec_orOne, h1, pOd]
    · by_cases h0 : 0 < i
      · have hw2 : IntKind.i64.wrap ((i : Int) - 1) = ((i - 1 : Nat) : Int) := by rw [wrap_id (by omega) (by omega)]; omega
        have hy : i - 1 < l.length := by omega
        by_cases h2 : l[i].1 ≤ l[i - 1].1 <;> simp -implicitDefEqProofs [hi, hy, e_spec_orOne, h1, pOd, hw, hw2, h0, h2]
      · simp -implicitDefEqProofs [hi, e_spec_orOne, h1, pOd, hw, h0]
  · simp
  · by_cases hg : allI (pOd l) 0 l = true <;> simp [hg, goodO]
    omega
theorem e_impl_AreOrders (l : List Od) (h : l.length ≤ 1048576) : F_impl_AreOrders [ods l] = some (.ret [B (goodO l)] []) := by
  rw [t_impl_AreOrders]
  simp only [lenD_arr, List.length_map, Option.bind_some]
  refine loop_bind _ (loop_all l (fun i => [ods l, ods l, I l.length, I i]) (pOd l) (.ret [B false] []) (.ext 0 [ods l]) (fun i hi => ?_) ?_ rfl rfl rfl) ?_
  · have hw : IntKind.i64.wrap ((i : Int) + 1) = (i : Int) + 1 := wrap_id (by omega) (by omega)
    cases h1 : isOd l[i]
    · simp -implicitDefEqProofs [hi, e_impl_isOrder, h1, pOd]
    · by_cases h0 : 0 < i
      · have hw2 : IntKind.i64.wrap ((i : Int) - 1) = ((i - 1 : Nat) : Int) := by rw [wrap_id (by omega) (by omega)]; omega
        have hy : i - 1 < l.length := by omega
        by_cases h2 : l[i].1 ≤ l[i - 1].1 <;> simp -implicitDefEqProofs [hi, hy, e_impl_isOrder, h1, pOd, hw, hw2, h0, h2]
      · simp -implicitDefEqProofs [hi, e_impl_isOrder, h1, pOd, hw, h0]
  · simp
  · by_cases hg : allI (pOd l) 0 l = true <;> simp [hg, goodO]
    omega
end Go.Proofs.YtaphcpfkgpaefaaGreat
/-
  Numbers and orders: copies, marks.
-/
namespace Go.Proofs.YtaphcpfkgpaefaaGreat
open Go Go.V
set_option linter.unusedSimpArgs false

abbrev ints (l : List Int) : D := .arr 1 (l.map I)
def marksI (k : Int) (n : Nat) : List Int := (List.range n).map fun (j : Nat) => k + (j : Int)
def mk4 (k : Int) (j : Nat) : Od := (k + 4 * j, k + 4 * j + 1, k + 4 * j + 2, k + 4 * j + 3)
def marksO (k : Int) (n : Nat) : List Od := (List.range n).map (mk4 k)
end Go.Proofs.YtaphcpfkgpaefaaGreat
/-
  Orders in a sequence: the plain laws.
-/
namespace Go.Proofs.YtaphcpfkgpaefaaGreat
open Go Go.V
set_option linter.unusedSimpArgs false

/-! ### sums over all places -/
def sumTo : Nat → (Nat → Int) → Int
  | 0, _ => 0
  | n + 1, f => sumTo n f + f n
theorem sumTo_congr {f g : Nat → Int} : ∀ (n : Nat), (∀ k, k < n → f k = g k) → sumTo n f = sumTo n g
  | 0, _ => rfl
  | n + 1, h => by
    simp only [sumTo]
    rw [sumTo_congr n fun k hk => h k (by omega), h n (by omega)]
theorem sumTo_add {f g : Nat → Int} : ∀ (n : Nat), sumTo n (fun k => f k + g k) = sumTo n f + sumTo n g
  | 0 => rfl
  | n + 1 => by
    simp only [sumTo]
    rw [sumTo_add n]
    omega
theorem sumTo_zero : ∀ (n : Nat), sumTo n (fun _ => 0) = 0
  | 0 => rfl
  | n + 1 => by simp only [sumTo]; rw [sumTo_zero n]; rfl
theorem sumTo_one {f : Nat → Int} (x : Nat) : ∀ (n : Nat), sumTo n (fun k => if k = x then f k else 0) = if x < n then f x else 0
  | 0 => by simp [sumTo]
  | n + 1 => by
    simp only [sumTo]
    rw [sumTo_one x n]
    by_cases h : n = x
    · subst h
      simp
    · rw [if_neg h]
      by_cases h2 : x < n
      · rw [if_pos h2, if_pos (by omega)]; omega
      · rw [if_neg h2, if_neg (by omega)]; omega
theorem sumTo_le {f : Nat → Int} : ∀ (n : Nat), (∀ k, k < n → f k ≤ 1) → sumTo n f ≤ n
  | 0, _ => by simp [sumTo]
  | n + 1, h => by
    simp only [sumTo]
    have h1 := sumTo_le n fun k hk => h k (by omega)
    have h2 := h n (by omega)
    omega
theorem sumTo_full {f : Nat → Int} : ∀ (n : Nat), (∀ k, k < n → f k ≤ 1) → sumTo n f = n → ∀ k, k < n → f k = 1
  | 0, _, _, k, hk => by omega
  | n + 1, h, e, k, hk => by
    simp only [sumTo] at e
    have h1 := sumTo_le n fun k hk => h k (by omega)
    have h2 := h n (by omega)
    by_cases hkn : k = n
    · subst hkn; omega
    · exact sumTo_full n (fun k hk => h k (by omega)) (by omega) k (by omega)
def sumL (f : Nat → Int) : List Nat → Int
  | [] => 0
  | k :: s => f k + sumL f s
theorem sumTo_mem {f : Nat → Int} {n : Nat} : ∀ (s : List Nat), (∀ k ∈ s, k < n) → s.Nodup → sumTo n (fun k => if k ∈ s then f k else 0) = sumL f s
  | [], _, _ => by simp [sumL, sumTo_zero]
  | x :: s, h, hd => by
    rw [List.nodup_cons] at hd
    have ih := sumTo_mem (f := f) s (fun k hk => h k (by simp [hk])) hd.2
    have e : sumTo n (fun k => if k ∈ x :: s then f k else 0) = sumTo n (fun k => (if k = x then f k else 0) + (if k ∈ s then f k else 0)) := by
      refine sumTo_congr n fun k _ => ?_
      by_cases h1 : k = x
      · subst h1
        simp [hd.1]
      · simp [h1]
    rw [e, sumTo_add, sumTo_one, if_pos (h x (by simp)), ih]
    rfl
theorem sumL_one : ∀ (s : List Nat), sumL (fun _ => 1) s = s.length
  | [] => rfl
  | _ :: s => by simp only [sumL, sumL_one s, List.length_cons]; omega
/-- A list of all places, each once. -/
theorem sum_perm {f : Nat → Int} {n : Nat} {s : List Nat} (h : ∀ k ∈ s, k < n) (hd : s.Nodup) (hl : s.length = n) : sumL f s = sumTo n f := by
  have h1 := sumTo_mem (f := fun _ => 1) s h hd
  rw [sumL_one, hl] at h1
  have all := sumTo_full n (fun k _ => by split <;> omega) h1
  rw [← sumTo_mem (f := f) s h hd]
  refine sumTo_congr n fun k hk => ?_
  have := all k hk
  by_cases hm : k ∈ s
  · rw [if_pos hm]
  · rw [if_neg hm] at this; omega

/-! ### sequences -/
theorem difG_facts {n : Int} : ∀ (l seen : List Int), difG n l seen = true → (∀ x ∈ l, 0 ≤ x ∧ x ≤ n - 1) ∧ l.Nodup ∧ ∀ x ∈ l, x ∉ seen
  | [], _, _ => by simp
  | x :: l, seen, h => by
    simp only [difG, Bool.and_eq_true, decide_eq_true_eq, Bool.not_eq_true', decide_eq_false_iff_not] at h
    obtain ⟨⟨h1, h2⟩, h3⟩ := h
    obtain ⟨g1, g2, g3⟩ := difG_facts l (x :: seen) h3
    refine ⟨fun y hy => ?_, List.nodup_cons.2 ⟨fun hm => g3 x hm (by simp), g2⟩, fun y hy => ?_⟩
    · rcases List.mem_cons.1 hy with rfl | hy
      · exact h1
      · exact g1 y hy
    · rcases List.mem_cons.1 hy with rfl | hy
      · exact h2
      · exact fun hm => g3 y hy (by simp [hm])
abbrev oAt (l : List Od) (k : Int) : Od := l.getD k.toNat (0, 0, 0, 0)
/-- What is composed, what is printed, how long the press waits. -/
def runO (l : List Od) : Int × Int × Int → Int → Int × Int × Int
  | (c, p, w), k => (c + (oAt l k).2.1, max p (c + (oAt l k).2.1) + (oAt l k).2.2.1, w + max 0 (c + (oAt l k).2.1 - p))
def timesO (l : List Od) : Int × Int × Int → List Int → List Int
  | _, [] => []
  | a, k :: s => (runO l a k).2.1 :: timesO l (runO l a k) s
theorem timesO_len (l : List Od) : ∀ (s : List Int) (a : Int × Int × Int), (timesO l a s).length = s.length
  | [], _ => rfl
  | k :: s, a => by simp [timesO, timesO_len l s]
theorem timesO_snoc (l : List Od) (k : Int) : ∀ (s : List Int) (a : Int × Int × Int), timesO l a (s ++ [k]) = timesO l a s ++ [((s ++ [k]).foldl (runO l) a).2.1]
  | [], a => by simp [timesO]
  | x :: s, a => by
    rw [List.cons_append]
    simp only [timesO, timesO_snoc l k s, List.cons_append, List.foldl_cons]
theorem way_take {l : List Od} {s : List Int} {i : Nat} (hi : i < s.length) (a : Int × Int × Int) : (s.take (i + 1)).foldl (runO l) a = runO l ((s.take i).foldl (runO l) a) s[i] := by
  rw [List.take_succ_eq_append_getElem hi, List.foldl_append]
  rfl
theorem times_take {l : List Od} {s : List Int} {i : Nat} (hi : i < s.length) (a : Int × Int × Int) : timesO l a (s.take (i + 1)) = timesO l a (s.take i) ++ [((s.take (i + 1)).foldl (runO l) a).2.1] := by
  rw [List.take_succ_eq_append_getElem hi, timesO_snoc]
/-- Bounds on the way. -/
theorem way_in {l : List Od} (hg : ∀ x ∈ l, isOd x = true) {s : List Int} (hs : ∀ k ∈ s, 0 ≤ k ∧ k < l.length) : ∀ (i : Nat), i ≤ s.length →
    0 ≤ ((s.take i).foldl (runO l) (0, 0, 0)).1 ∧ ((s.take i).foldl (runO l) (0, 0, 0)).1 ≤ 500 * i ∧ 0 ≤ ((s.take i).foldl (runO l) (0, 0, 0)).2.1 ∧ ((s.take i).foldl (runO l) (0, 0, 0)).2.1 ≤ 1000 * i ∧
    0 ≤ ((s.take i).foldl (runO l) (0, 0, 0)).2.2 ∧ ((s.take i).foldl (runO l) (0, 0, 0)).2.2 ≤ 500 * i * i := by
  intro i
  induction i with
  | zero => intro _; simp
  | succ i ih =>
    intro hi
    obtain ⟨h1, h2, h3, h4, h5, h6⟩ := ih (by omega)
    have hk := hs s[i] (List.getElem_mem (by omega))
    rw [way_take (by omega)]
    generalize (s.take i).foldl (runO l) (0, 0, 0) = a at *
    obtain ⟨c, p, w⟩ := a
    simp only at h1 h2 h3 h4 h5 h6
    have hlt : s[i].toNat < l.length := by omega
    have ho : isOd (oAt l s[i]) = true := by
      have e : oAt l s[i] = l[s[i].toNat] := by simp [oAt, hlt]
      rw [e]
      exact hg _ (List.getElem_mem hlt)
    simp only [isOd, Bool.and_eq_true, decide_eq_true_eq] at ho
    have hsq : (500 : Int) * i * i + 500 * i + 500 ≤ 500 * ((i + 1 : Nat) : Int) * ((i + 1 : Nat) : Int) := by
      have : 500 * ((i + 1 : Nat) : Int) * ((i + 1 : Nat) : Int) = 500 * i * i + 1000 * i + 500 := by
        rw [Int.natCast_add]
        simp only [Int.natCast_one, Int.mul_add, Int.add_mul]
        omega
      omega
    simp only [runO]
    refine ⟨by omega, by omega, by omega, by omega, by omega, ?_⟩
    have : max 0 (c + (oAt l s[i]).2.1 - p) ≤ 500 * i + 500 := by omega
    omega
/-- The press has printed all and has waited. -/
theorem way_sum (l : List Od) : ∀ (s : List Int) (a : Int × Int × Int), (s.foldl (runO l) a).2.1 - (s.foldl (runO l) a).2.2 = a.2.1 - a.2.2 + sumL (fun k => (l.getD k (0, 0, 0, 0)).2.2.1) (s.map Int.toNat)
  | [], a => by simp [sumL]
  | k :: s, (c, p, w) => by
    rw [List.foldl_cons, way_sum l s]
    simp only [runO, oAt, List.map_cons, sumL]
    omega
theorem sumTo_list (f : Od → Int) : ∀ (l : List Od), sumTo l.length (fun k => f (l.getD k (0, 0, 0, 0))) = l.foldl (fun a x => a + f x) 0 := by
  intro l
  have key : ∀ (n : Nat), n ≤ l.length → sumTo n (fun k => f (l.getD k (0, 0, 0, 0))) = (l.take n).foldl (fun a x => a + f x) 0 := by
    intro n
    induction n with
    | zero => intro _; simp [sumTo]
    | succ n ih =>
      intro hn
      rw [List.take_succ_eq_append_getElem (by omega), List.foldl_append]
      simp only [sumTo, List.foldl_cons, List.foldl_nil]
      rw [ih (by omega)]
      congr 2
      simp [show n < l.length by omega]
  have := key l.length (Nat.le_refl _)
  rwa [List.take_length] at this
def printS (l : List Od) : Int := l.foldl (fun a x => a + x.2.2.1) 0
theorem idle_eq {l : List Od} {s : List Int} (h : difG l.length s [] = true) (hl : s.length = l.length) : (s.foldl (runO l) (0, 0, 0)).2.1 - printS l = (s.foldl (runO l) (0, 0, 0)).2.2 := by
  obtain ⟨h1, h2, _⟩ := difG_facts s [] h
  have hr := way_sum l s (0, 0, 0)
  have hm : ∀ k ∈ s.map Int.toNat, k < l.length := by
    intro k hk
    obtain ⟨x, hx, rfl⟩ := List.mem_map.1 hk
    have := h1 x hx
    omega
  have hd : (s.map Int.toNat).Nodup := by
    unfold List.Nodup at h2 ⊢
    rw [List.pairwise_map]
    refine h2.imp_of_mem fun {a b} ha hb hne => ?_
    have := h1 a ha
    have := h1 b hb
    omega
  rw [sum_perm hm hd (by rw [List.length_map]; exact hl), sumTo_list (fun x => x.2.2.1)] at hr
  unfold printS
  simp only at hr
  omega
/-- The greatest of the times is the last one. -/
def mostL (l : List Int) : Int := l.foldl max 0
theorem most_times {l : List Od} (hg : ∀ x ∈ l, isOd x = true) {s : List Int} (hs : ∀ k ∈ s, 0 ≤ k ∧ k < l.length) : mostL (timesO l (0, 0, 0) s) = (s.foldl (runO l) (0, 0, 0)).2.1 := by
  have key : ∀ (i : Nat), i ≤ s.length → mostL (timesO l (0, 0, 0) (s.take i)) = ((s.take i).foldl (runO l) (0, 0, 0)).2.1 := by
    intro i
    induction i with
    | zero => intro _; simp [mostL, timesO]
    | succ i ih =>
      intro hi
      have h := way_in hg hs i (by omega)
      have h' := way_in hg hs (i + 1) hi
      rw [times_take (by omega)]
      unfold mostL at ih ⊢
      rw [List.foldl_append, ih (by omega)]
      simp only [List.foldl_cons, List.foldl_nil]
      rw [way_take (by omega)] at h' ⊢
      have hk := hs s[i] (List.getElem_mem (by omega))
      have hlt : s[i].toNat < l.length := by omega
      have ho : isOd (oAt l s[i]) = true := by
        have e : oAt l s[i] = l[s[i].toNat] := by simp [oAt, hlt]
        rw [e]
        exact hg _ (List.getElem_mem hlt)
      simp only [isOd, Bool.and_eq_true, decide_eq_true_eq] at ho
      generalize (s.take i).foldl (runO l) (0, 0, 0) = a at *
      obtain ⟨c, p, w⟩ := a
      simp only [runO]
      omega
  have := key s.length (Nat.le_refl _)
  rwa [List.take_length] at this
theorem goodO_all {l : List Od} (h : goodO l = true) : (∀ x ∈ l, isOd x = true) ∧ l.length ≤ 8 := by
  simp only [goodO, Bool.and_eq_true, decide_eq_true_eq] at h
  refine ⟨?_, h.2⟩
  have key : ∀ (m : List Od) (i : Nat), allI (pOd l) i m = true → ∀ x ∈ m, isOd x = true := by
    intro m
    induction m with
    | nil => intro i _ x hx; cases hx
    | cons y m ih =>
      intro i hp x hx
      simp only [allI, Bool.and_eq_true, pOd] at hp
      rcases List.mem_cons.1 hx with rfl | hx
      · exact hp.1.1
      · exact ih (i + 1) hp.2 x hx
  exact key l 0 h.1
/-- Orders and a sequence of all of them. -/
def askO (l : List Od) (s : List Int) : Bool := goodO l && decide (s.length = l.length) && difG l.length s []
theorem askO_facts {l : List Od} {s : List Int} (h : askO l s = true) : (∀ x ∈ l, isOd x = true) ∧ l.length ≤ 8 ∧ s.length = l.length ∧ difG l.length s [] = true ∧ ∀ k ∈ s, 0 ≤ k ∧ k < l.length := by
  simp only [askO, Bool.and_eq_true, decide_eq_true_eq] at h
  obtain ⟨⟨h1, h2⟩, h3⟩ := h
  obtain ⟨g1, g2⟩ := goodO_all h1
  refine ⟨g1, g2, h2, h3, fun k hk => ?_⟩
  have := (difG_facts s [] h3).1 k hk
  omega
end Go.Proofs.YtaphcpfkgpaefaaGreat
/-
  Orders in a sequence: what the functions compute.
-/
namespace Go.Proofs.YtaphcpfkgpaefaaGreat
open Go Go.V
set_option linter.unusedSimpArgs false

theorem e_spec_l1Most (a b : Int) : F_spec_l1Most [I a, I b] = some (.ret [I (max a b)] []) := by
  rw [t_spec_l1Most]
  by_cases h : b < a
  · simp -implicitDefEqProofs [h, Int.max_eq_left (Int.le_of_lt h)]
  · simp -implicitDefEqProofs [h, Int.max_eq_right (Int.not_lt.1 h)]
theorem maxD_I (a b : Int) : maxD (I a) (I b) = some (I (max a b)) := by
  by_cases h : a < b
  · simp [maxD, h, Int.max_eq_right (Int.le_of_lt h)]
  · simp [maxD, h, Int.max_eq_left (Int.not_lt.1 h)]
theorem allI_not {n : Int} : ∀ (l : List Int) (i : Nat), allI (fun _ x => !decide (x = n)) i l = !decide (n ∈ l)
  | [], _ => by simp [allI]
  | x :: l, i => by
    simp only [allI, allI_not l]
    by_cases h : x = n
    · simp [h]
    · simp [h, Ne.symm h]
theorem e_spec_l1Has (l : List Int) (n : Int) (h : l.length ≤ 1048577) : F_spec_l1Has [ints l, I n] = some (.ret [B (decide (n ∈ l))] []) := by
  rw [t_spec_l1Has]
  simp only [lenD_arr, List.length_map, Option.bind_some]
  refine loop_bind _ (loop_all l (fun i => [I n, ints l, I l.length, I i]) (fun _ x => !decide (x = n)) (.ret [B true] []) (.ext 0 []) (fun i hi => ?_) ?_ rfl rfl rfl) ?_
  · have hw : IntKind.i64.wrap ((i : Int) + 1) = (i : Int) + 1 := wrap_id (by omega) (by omega)
    by_cases h1 : l[i] = n <;> simp -implicitDefEqProofs [hi, hw, h1]
  · simp
  · rw [allI_not]
    by_cases hm : n ∈ l <;> simp [hm]
/-- Each number is in its range and not met before. -/
def pDif (n : Int) (s : List Int) (i : Nat) (x : Int) : Bool := decide (0 ≤ x ∧ x ≤ n - 1) && !decide (x ∈ s.take i)
theorem dif_all {n : Int} {s : List Int} : ∀ (m : Nat) (i : Nat) (seen : List Int), i + m = s.length → (∀ x, x ∈ seen ↔ x ∈ s.take i) → allI (pDif n s) i (s.drop i) = difG n (s.drop i) seen
  | 0, i, seen, hi, hs => by
    rw [List.drop_eq_nil_of_le (by omega)]
    rfl
  | m + 1, i, seen, hi, hs => by
    have hlt : i < s.length := by omega
    rw [List.drop_eq_getElem_cons hlt]
    simp only [allI, difG, pDif, hs]
    rw [dif_all m (i + 1) (s[i] :: seen) (by omega)]
    intro x
    rw [List.take_succ_eq_append_getElem hlt, List.mem_append, List.mem_singleton, List.mem_cons, hs]
    exact Or.comm
theorem e_spec_orAsked (l : List Od) (s : List Int) (hl : l.length ≤ 1048576) : F_spec_orAsked [ods l, ints s] = some (.ret [B (askO l s)] []) := by
  rw [t_spec_orAsked]
  cases hg : goodO l
  · simp -implicitDefEqProofs [e_spec_orGood l hl, hg, askO]
  by_cases hn : s.length = l.length
  case neg =>
    have hn' : ¬ (s.length : Int) = (l.length : Int) := by omega
    simp -implicitDefEqProofs [e_spec_orGood l hl, hg, askO, hn, hn']
  have hn' : (s.length : Int) = (l.length : Int) := by omega
  simp -implicitDefEqProofs only [e_spec_orGood l hl, hg, callK_ret, sl_zero, un_not, Bool.not_true, Option.bind_some, gate_f, Bool.false_eq_true, if_false, lenD_arr, List.length_map, bin_neq, hn', decide_true, pickD_B, ifD_B]
  refine loop_bind _ (loop_all s (fun i => [ods l, ints s, ints s, I l.length, I i]) (pDif l.length s) (.ret [B false] []) (.ext 0 []) (fun i hi => ?_) ?_ rfl rfl rfl) ?_
  · have hi' : (i : Int) < (l.length : Int) := by omega
    have hw : IntKind.i64.wrap ((i : Int) + 1) = (i : Int) + 1 := wrap_id (by omega) (by omega)
    have hw2 : IntKind.i64.wrap ((l.length : Int) - 1) = (l.length : Int) - 1 := wrap_id (by omega) (by omega)
    have hsl : sliceD false 1 (ints s) (I 0) (I (i : Int)) = some (ints (s.take i)) := by
      have := sliceD_nat (z := 1) (i := 0) (j := i) (l := s.map fun n => I n) (k := .i64) (k' := .i64) (Nat.zero_le _) (by simp; omega)
      rw [List.drop_zero, ← List.map_take] at this
      exact this
    have hh := e_spec_l1Has (s.take i) s[i] (by rw [List.length_take]; omega)
    have hel : elemD 1 (ints s) (I (i : Int)) = some [I s[i]] := by simp [hi]
    by_cases h1 : 0 ≤ s[i] ∧ s[i] ≤ (l.length : Int) - 1
    · by_cases h2 : s[i] ∈ s.take i
      · simp -implicitDefEqProofs [hi', hel, hw, hw2, hsl, hh, h1, h2, pDif, e_spec_l1In]
      · simp -implicitDefEqProofs [hi', hel, hw, hw2, hsl, hh, h1, h2, pDif, e_spec_l1In]
    · simp -implicitDefEqProofs [hi', hel, hw, hw2, h1, pDif, e_spec_l1In]
  · have : ¬ (s.length : Int) < (l.length : Int) := by omega
    simp -implicitDefEqProofs [this]
  · have := dif_all (n := l.length) (s := s) s.length 0 [] (by omega) (by simp)
    rw [List.drop_zero] at this
    rw [this]
    unfold askO
    cases hd : difG l.length s [] <;> simp [hg, hn]
theorem e_fDif (s : List Int) (n : Nat) (hin : ∀ x ∈ s, inI x) (hs : s.length ≤ 1048576) (hn : n ≤ 1048576) : fDif [ints s, I (n : Int)] = some (.ret [B (difG n s [])] []) := by
  simp only [fDif]
  rw [intsOf_map s hin, Option.bind_some, if_pos ⟨hs, by omega, by omega⟩]
theorem e_impl_isSequence (l : List Od) (s : List Int) (hl : l.length ≤ 1048576) (hs : s.length ≤ 1048576) (hin : ∀ x ∈ s, inI x) : F_impl_isSequence [ods l, ints s] = some (.ret [B (askO l s)] []) := by
  rw [t_impl_isSequence]
  cases hg : goodO l
  · simp -implicitDefEqProofs [e_impl_AreOrders l hl, hg, askO]
  by_cases hn : s.length = l.length
  case neg =>
    have hn' : ¬ (s.length : Int) = (l.length : Int) := by omega
    simp -implicitDefEqProofs [e_impl_AreOrders l hl, hg, askO, hn, hn']
  have hn' : (s.length : Int) = (l.length : Int) := by omega
  have hd := e_fDif s l.length hin hs hl
  simp -implicitDefEqProofs [e_impl_AreOrders l hl, hg, askO, hn, hd]

theorem one_int (a : Int) : mkArr 1 [I a] = some (ints [a]) := by simp [mkArr, lenOkD]
theorem chk_int (a : Int) : chkA (ints [a]) = some (ints [a]) := chkA_map fun _ => rfl
theorem app_ints {l m : List Int} (h : l.length + m.length ≤ 1048577) : appD 1 8 (ints l) (ints m) = some (ints (l ++ m)) := by
  rw [appD_eq, if_pos (by simp only [List.length_map]; omega)]
  simp
theorem ord_at {l : List Od} {k : Int} (h : 0 ≤ k ∧ k < l.length) : elemD 4 (ods l) (I k) = some [I (oAt l k).1, I (oAt l k).2.1, I (oAt l k).2.2.1, I (oAt l k).2.2.2] := by
  have hlt : k.toNat < l.length := by omega
  rw [elemD_int h.1]
  simp [hlt, oAt]
abbrev at0 (l : List Od) (s : List Int) (i : Nat) : Int × Int × Int := (s.take i).foldl (runO l) (0, 0, 0)
theorem e_spec_orTimes (l : List Od) (s : List Int) (hg : ∀ x ∈ l, isOd x = true) (hs : ∀ k ∈ s, 0 ≤ k ∧ k < l.length) (hl : s.length ≤ 100) : F_spec_orTimes [ods l, ints s] = some (.ret [ints (timesO l (0, 0, 0) s), I (s.foldl (runO l) (0, 0, 0)).2.2] []) := by
  rw [t_spec_orTimes]
  simp only [lenD_arr, List.length_map, Option.bind_some]
  refine loop_bind _ (loop_for s.length (fun i => [ods l, ints (timesO l (0, 0, 0) (s.take i)), I (at0 l s i).1, I (at0 l s i).2.1, I (at0 l s i).2.2, ints s, I s.length, I i]) (.ext 0 [ints (timesO l (0, 0, 0) s), I (s.foldl (runO l) (0, 0, 0)).2.2]) (fun i hi => ?_) ?_ rfl rfl) ?_
  · have hi' : (i : Int) < (s.length : Int) := by omega
    have hk := hs s[i] (List.getElem_mem hi)
    have b1 := way_in hg hs i (by omega)
    have b2 := way_in hg hs (i + 1) hi
    have hel : elemD 1 (ints s) (I (i : Int)) = some [I s[i]] := by simp [hi]
    have hw : IntKind.i64.wrap ((i : Int) + 1) = ((i + 1 : Nat) : Int) := by rw [wrap_id (by omega) (by omega)]; omega
    have ht := times_take (l := l) hi (0, 0, 0)
    have hlen := timesO_len l (s.take i) (0, 0, 0)
    rw [List.length_take] at hlen
    have hap := app_ints (l := timesO l (0, 0, 0) (s.take i)) (m := [((s.take (i + 1)).foldl (runO l) (0, 0, 0)).2.1]) (by simp only [List.length_singleton]; omega)
    rw [← ht] at hap
    have hsq : (500 : Int) * ((i + 1 : Nat) : Int) * ((i + 1 : Nat) : Int) ≤ 500 * 100 * 100 := by
      have h1 : ((i + 1 : Nat) : Int) ≤ 100 := by omega
      have h2 : (500 : Int) * ((i + 1 : Nat) : Int) ≤ 500 * 100 := by omega
      exact Int.mul_le_mul h2 h1 (by omega) (by omega)
    show _ = some (Out.nrm [ods l, ints (timesO l (0, 0, 0) (s.take (i + 1))), I (at0 l s (i + 1)).1, I (at0 l s (i + 1)).2.1, I (at0 l s (i + 1)).2.2, ints s, I s.length, I ((i + 1 : Nat) : Int)])
    unfold at0 at *
    rw [way_take hi] at b2 hap ⊢
    generalize (s.take i).foldl (runO l) (0, 0, 0) = a at *
    obtain ⟨c, p, w⟩ := a
    simp only [runO] at b1 b2 hap ⊢
    have w1 : IntKind.i64.wrap (c + (oAt l s[i]).2.1) = c + (oAt l s[i]).2.1 := wrap_id (by omega) (by omega)
    have w2 : IntKind.i64.wrap (c + (oAt l s[i]).2.1 - p) = c + (oAt l s[i]).2.1 - p := wrap_id (by omega) (by omega)
    have w3 : IntKind.i64.wrap (w + max 0 (c + (oAt l s[i]).2.1 - p)) = w + max 0 (c + (oAt l s[i]).2.1 - p) := wrap_id (by omega) (by omega)
    have w4 : IntKind.i64.wrap (max p (c + (oAt l s[i]).2.1) + (oAt l s[i]).2.2.1) = max p (c + (oAt l s[i]).2.1) + (oAt l s[i]).2.2.1 := wrap_id (by omega) (by omega)
    simp -implicitDefEqProofs only [sl_zero, sl_succ, bin_lss, hi', decide_true, Option.bind_some, ifD_B, if_true, hel, Option.map_some, ldD_ptr, takeD_f, chkV_v, ord_at hk, offD_ptr, List.drop_succ_cons, List.drop_zero, bin_add, w1, bin_sub, w2, e_spec_l1Most, callK_ret, w3, w4, one_int, chk_int, hap, hw]
  · simp [at0]
  · simp
theorem e_impl_finished (l : List Od) (s : List Int) (hg : ∀ x ∈ l, isOd x = true) (hs : ∀ k ∈ s, 0 ≤ k ∧ k < l.length) (hl : s.length ≤ 100) : F_impl_finished [ods l, ints s] = some (.ret [ints (timesO l (0, 0, 0) s)] []) := by
  rw [t_impl_finished]
  simp only [lenD_arr, List.length_map, Option.bind_some, mkArr_nil]
  refine loop_bind _ (loop_for s.length (fun i => [ods l, ints (timesO l (0, 0, 0) (s.take i)), I (at0 l s i).1, I (at0 l s i).2.1, ints s, I s.length, I i]) (.ext 0 [ints (timesO l (0, 0, 0) s)]) (fun i hi => ?_) ?_ rfl rfl) ?_
  · have hi' : (i : Int) < (s.length : Int) := by omega
    have hk := hs s[i] (List.getElem_mem hi)
    have b1 := way_in hg hs i (by omega)
    have b2 := way_in hg hs (i + 1) hi
    have hel : elemD 1 (ints s) (I (i : Int)) = some [I s[i]] := by simp [hi]
    have hw : IntKind.i64.wrap ((i : Int) + 1) = ((i + 1 : Nat) : Int) := by rw [wrap_id (by omega) (by omega)]; omega
    have ht := times_take (l := l) hi (0, 0, 0)
    have hlen := timesO_len l (s.take i) (0, 0, 0)
    rw [List.length_take] at hlen
    have hap := app_ints (l := timesO l (0, 0, 0) (s.take i)) (m := [((s.take (i + 1)).foldl (runO l) (0, 0, 0)).2.1]) (by simp only [List.length_singleton]; omega)
    rw [← ht] at hap
    show _ = some (Out.nrm [ods l, ints (timesO l (0, 0, 0) (s.take (i + 1))), I (at0 l s (i + 1)).1, I (at0 l s (i + 1)).2.1, ints s, I s.length, I ((i + 1 : Nat) : Int)])
    unfold at0 at *
    rw [way_take hi] at b2 hap ⊢
    generalize (s.take i).foldl (runO l) (0, 0, 0) = a at *
    obtain ⟨c, p, w⟩ := a
    simp only [runO] at b1 b2 hap ⊢
    have w1 : IntKind.i64.wrap (c + (oAt l s[i]).2.1) = c + (oAt l s[i]).2.1 := wrap_id (by omega) (by omega)
    have w4 : IntKind.i64.wrap (max p (c + (oAt l s[i]).2.1) + (oAt l s[i]).2.2.1) = max p (c + (oAt l s[i]).2.1) + (oAt l s[i]).2.2.1 := wrap_id (by omega) (by omega)
    simp -implicitDefEqProofs only [sl_zero, sl_succ, bin_lss, hi', decide_true, Option.bind_some, ifD_B, if_true, hel, Option.map_some, ldD_ptr, takeD_f, chkV_v, ord_at hk, offD_ptr, List.drop_succ_cons, List.drop_zero, bin_add, w1, maxD_I, w4, one_int, chk_int, hap, hw]
  · simp
  · simp
theorem e_impl_greatest (l : List Int) (h : l.length ≤ 1048577) : F_impl_greatest [ints l] = some (.ret [I (mostL l)] []) := by
  rw [t_impl_greatest]
  simp only [lenD_arr, List.length_map, Option.bind_some]
  refine loop_bind _ (loop_foldl l (fun i a => [I a, ints l, I l.length, I i]) max (fun a => .ext 0 [I a]) 0 (fun i a hi => ?_) (fun a => ?_) (fun _ => rfl) rfl) ?_
  · have hw : IntKind.i64.wrap ((i : Int) + 1) = (i : Int) + 1 := wrap_id (by omega) (by omega)
    simp -implicitDefEqProofs [hi, hw, maxD_I]
  · simp
  · simp [mostL]
end Go.Proofs.YtaphcpfkgpaefaaGreat
/-
  Late orders, sums; three laws.
-/
namespace Go.Proofs.YtaphcpfkgpaefaaGreat
open Go Go.V
set_option linter.unusedSimpArgs false

abbrev tms (l : List Od) (s : List Int) : List Int := timesO l (0, 0, 0) s
def lateF (l : List Od) (s : List Int) (i : Nat) : Int := max 0 ((tms l s).getD i 0 - (oAt l (s.getD i 0)).2.2.2)
def lateO (l : List Od) (s : List Int) (n : Nat) : List Int := (List.range n).map (lateF l s)
theorem lateO_succ (l : List Od) (s : List Int) (n : Nat) : lateO l s (n + 1) = lateO l s n ++ [lateF l s n] := by simp [lateO, List.range_succ]
theorem lateO_len (l : List Od) (s : List Int) (n : Nat) : (lateO l s n).length = n := by simp [lateO]
theorem times_at {l : List Od} (hg : ∀ x ∈ l, isOd x = true) {s : List Int} (hs : ∀ k ∈ s, 0 ≤ k ∧ k < l.length) (hl : s.length ≤ 100) {i : Nat} (hi : i < s.length) : ∃ t, (tms l s)[i]? = some t ∧ 0 ≤ t ∧ t ≤ 100000 := by
  have hlen := timesO_len l s (0, 0, 0)
  have key : ∀ (n : Nat), n ≤ s.length → ∀ t ∈ timesO l (0, 0, 0) (s.take n), 0 ≤ t ∧ t ≤ 100000 := by
    intro n
    induction n with
    | zero => intro _ t ht; simp [timesO] at ht
    | succ n ih =>
      intro hn t ht
      rw [times_take (by omega)] at ht
      rcases List.mem_append.1 ht with ht | ht
      · exact ih (by omega) t ht
      · rw [List.mem_singleton.1 ht]
        have := way_in hg hs (n + 1) hn
        omega
  have hlt : i < (tms l s).length := by rw [hlen]; exact hi
  refine ⟨(tms l s)[i], List.getElem?_eq_getElem hlt, ?_⟩
  have := key s.length (Nat.le_refl _) (tms l s)[i] (by rw [List.take_length]; exact List.getElem_mem hlt)
  exact this
theorem od_due {l : List Od} (hg : ∀ x ∈ l, isOd x = true) {k : Int} (hk : 0 ≤ k ∧ k < l.length) : 0 ≤ (oAt l k).2.2.2 ∧ (oAt l k).2.2.2 ≤ 10000 := by
  have hlt : k.toNat < l.length := by omega
  have e : oAt l k = l[k.toNat] := by simp [oAt, hlt]
  have ho := hg _ (List.getElem_mem hlt)
  rw [← e] at ho
  simp only [isOd, Bool.and_eq_true, decide_eq_true_eq] at ho
  exact ho.2
theorem late_in {l : List Od} (hg : ∀ x ∈ l, isOd x = true) {s : List Int} (hs : ∀ k ∈ s, 0 ≤ k ∧ k < l.length) (hl : s.length ≤ 100) : ∀ x ∈ lateO l s s.length, 0 ≤ x ∧ x ≤ 100000 := by
  intro x hx
  obtain ⟨i, hi, rfl⟩ := List.mem_map.1 hx
  have hi := List.mem_range.1 hi
  obtain ⟨t, h1, h2, h3⟩ := times_at hg hs hl hi
  have hd := od_due hg (hs s[i] (List.getElem_mem hi))
  have e1 : (tms l s).getD i 0 = t := by rw [List.getD_eq_getElem?_getD, h1]; rfl
  have e2 : s.getD i 0 = s[i] := by simp [hi]
  unfold lateF
  rw [e1, e2]
  omega
theorem e_spec_orLate (l : List Od) (s : List Int) (hg : ∀ x ∈ l, isOd x = true) (hs : ∀ k ∈ s, 0 ≤ k ∧ k < l.length) (hl : s.length ≤ 100) : F_spec_orLate [ods l, ints s] = some (.ret [ints (lateO l s s.length)] []) := by
  rw [t_spec_orLate]
  simp only [e_spec_orTimes l s hg hs hl, callK_ret, show ∀ a b : D, tupAt (.tup [ints (tms l s), I (s.foldl (runO l) (0, 0, 0)).2.2]) 0 = some (ints (tms l s)) from fun _ _ => rfl, show tupAt (.tup [ints (tms l s), I (s.foldl (runO l) (0, 0, 0)).2.2]) 0 = some (ints (tms l s)) from rfl,
    show tupAt (tupCut (.tup [ints (tms l s), I (s.foldl (runO l) (0, 0, 0)).2.2]) 0) 1 = some (I (s.foldl (runO l) (0, 0, 0)).2.2) from rfl, lenD_arr, List.length_map, Option.bind_some]
  refine loop_bind _ (loop_for s.length (fun i => [ods l, ints (tms l s), ints (lateO l s i), ints s, I s.length, I i]) (.ext 0 [ints (lateO l s s.length)]) (fun i hi => ?_) ?_ rfl rfl) ?_
  · have hi' : (i : Int) < (s.length : Int) := by omega
    have hk := hs s[i] (List.getElem_mem hi)
    have hel : elemD 1 (ints s) (I (i : Int)) = some [I s[i]] := by simp [hi]
    obtain ⟨t, h1, h2, h3⟩ := times_at hg hs hl hi
    have hel2 : elemD 1 (ints (tms l s)) (I (i : Int)) = some [I t] := by simp [h1]
    have hd := od_due hg hk
    have hw : IntKind.i64.wrap ((i : Int) + 1) = ((i + 1 : Nat) : Int) := by rw [wrap_id (by omega) (by omega)]; omega
    have hwd : IntKind.i64.wrap (t - (oAt l s[i]).2.2.2) = t - (oAt l s[i]).2.2.2 := wrap_id (by omega) (by omega)
    have hlen := lateO_len l s i
    have hap := app_ints (l := lateO l s i) (m := [lateF l s i]) (by simp only [List.length_singleton]; omega)
    rw [← lateO_succ] at hap
    have e1 : (tms l s).getD i 0 = t := by rw [List.getD_eq_getElem?_getD, h1]; rfl
    have e2 : s.getD i 0 = s[i] := by simp [hi]
    have hf : lateF l s i = max 0 (t - (oAt l s[i]).2.2.2) := by unfold lateF; rw [e1, e2]
    rw [hf] at hap
    simp -implicitDefEqProofs only [sl_zero, sl_succ, bin_lss, hi', decide_true, Option.bind_some, ifD_B, if_true, hel, hel2, Option.map_some, ldD_ptr, takeD_f, chkV_v, ord_at hk, offD_ptr, List.drop_succ_cons, List.drop_zero, bin_add, bin_sub, hwd, e_spec_l1Most, callK_ret, one_int, chk_int, hap, hw]
  · simp
  · simp
theorem e_impl_lateness (l : List Od) (s : List Int) (hg : ∀ x ∈ l, isOd x = true) (hs : ∀ k ∈ s, 0 ≤ k ∧ k < l.length) (hl : s.length ≤ 100) : F_impl_lateness [ods l, ints s] = some (.ret [ints (lateO l s s.length)] []) := by
  rw [t_impl_lateness]
  have hlen := timesO_len l s (0, 0, 0)
  simp only [mkArr_nil, e_impl_finished l s hg hs hl, callK_ret, sl_zero, lenD_arr, List.length_map, Option.bind_some, hlen]
  refine loop_bind _ (loop_for s.length (fun i => [ods l, ints s, ints (lateO l s i), ints (tms l s), I s.length, I i]) (.ext 0 [ints (lateO l s s.length)]) (fun i hi => ?_) ?_ rfl rfl) ?_
  · have hi' : (i : Int) < (s.length : Int) := by omega
    have hk := hs s[i] (List.getElem_mem hi)
    have hel : elemD 1 (ints s) (I (i : Int)) = some [I s[i]] := by simp [hi]
    obtain ⟨t, h1, h2, h3⟩ := times_at hg hs hl hi
    have hel2 : elemD 1 (ints (tms l s)) (I (i : Int)) = some [I t] := by simp [h1]
    have hd := od_due hg hk
    have hw : IntKind.i64.wrap ((i : Int) + 1) = ((i + 1 : Nat) : Int) := by rw [wrap_id (by omega) (by omega)]; omega
    have hwd : IntKind.i64.wrap (t - (oAt l s[i]).2.2.2) = t - (oAt l s[i]).2.2.2 := wrap_id (by omega) (by omega)
    have hlen := lateO_len l s i
    have hap := app_ints (l := lateO l s i) (m := [lateF l s i]) (by simp only [List.length_singleton]; omega)
    rw [← lateO_succ] at hap
    have e1 : (tms l s).getD i 0 = t := by rw [List.getD_eq_getElem?_getD, h1]; rfl
    have e2 : s.getD i 0 = s[i] := by simp [hi]
    have hf : lateF l s i = max 0 (t - (oAt l s[i]).2.2.2) := by unfold lateF; rw [e1, e2]
    rw [hf] at hap
    simp -implicitDefEqProofs only [sl_zero, sl_succ, bin_lss, hi', decide_true, Option.bind_some, ifD_B, if_true, hel, hel2, Option.map_some, ldD_ptr, takeD_f, chkV_v, ord_at hk, offD_ptr, List.drop_succ_cons, List.drop_zero, bin_add, bin_sub, hwd, maxD_I, one_int, chk_int, hap, hw]
  · simp
  · simp
theorem sum_step (l : List Int) (hl : l.length ≤ 1048576) (hx : ∀ x ∈ l, 0 ≤ x ∧ x ≤ 100000) (i : Nat) (a : Int) (hi : i < l.length) (ha : 0 ≤ a ∧ a ≤ 100000 * (i : Int)) : IntKind.i64.wrap (a + l[i]) = a + l[i] ∧ (0 ≤ a + l[i] ∧ a + l[i] ≤ 100000 * ((i + 1 : Nat) : Int)) := by
  have := hx l[i] (List.getElem_mem hi)
  exact ⟨wrap_id (by omega) (by omega), by omega, by omega⟩
theorem foldI_add (l : List Int) : ∀ (i : Nat) (a : Int), foldI (fun _ a x => a + x) i l a = l.foldl (· + ·) a := by
  induction l with
  | nil => intro i a; rfl
  | cons x l ih => intro i a; simp only [foldI, List.foldl_cons, ih]
theorem e_spec_juSum (l : List Int) (hl : l.length ≤ 1048576) (hx : ∀ x ∈ l, 0 ≤ x ∧ x ≤ 100000) : F_spec_juSum [ints l] = some (.ret [I (l.foldl (· + ·) 0)] []) := by
  rw [t_spec_juSum]
  simp only [lenD_arr, List.length_map, Option.bind_some]
  refine loop_bind _ (loop_foldi l (fun i a => [I a, ints l, I l.length, I i]) (fun i a => 0 ≤ a ∧ a ≤ 100000 * (i : Int)) (fun _ a x => a + x) (fun a => .ext 0 [I a]) 0 (fun i a hi ha => ?_) (fun a _ => ?_) (fun _ => rfl) (by simp) rfl) ?_
  · have hw : IntKind.i64.wrap ((i : Int) + 1) = (i : Int) + 1 := wrap_id (by omega) (by omega)
    obtain ⟨h1, h2⟩ := sum_step l hl hx i a hi ha
    exact ⟨by simp -implicitDefEqProofs [hi, hw, h1], h2⟩
  · simp
  · simp [foldI_add]
theorem e_impl_sum (l : List Int) (hl : l.length ≤ 1048576) (hx : ∀ x ∈ l, 0 ≤ x ∧ x ≤ 100000) : F_impl_sum [ints l] = some (.ret [I (l.foldl (· + ·) 0)] []) := by
  rw [t_impl_sum]
  simp only [lenD_arr, List.length_map, Option.bind_some]
  refine loop_bind _ (loop_foldi l (fun i a => [I a, ints l, I l.length, I i]) (fun i a => 0 ≤ a ∧ a ≤ 100000 * (i : Int)) (fun _ a x => a + x) (fun a => .ext 0 [I a]) 0 (fun i a hi ha => ?_) (fun a _ => ?_) (fun _ => rfl) (by simp) rfl) ?_
  · have hw : IntKind.i64.wrap ((i : Int) + 1) = (i : Int) + 1 := wrap_id (by omega) (by omega)
    obtain ⟨h1, h2⟩ := sum_step l hl hx i a hi ha
    exact ⟨by simp -implicitDefEqProofs [hi, hw, h1], h2⟩
  · simp
  · simp [foldI_add]

/-! ### the functions of the laws -/
def finR (l : List Od) (s : List Int) : List Int := if askO l s = true then tms l s else []
def totR (l : List Od) (s : List Int) : Int := if askO l s = true then (lateO l s s.length).foldl (· + ·) 0 else 0
def idlR (l : List Od) (s : List Int) : Int := if askO l s = true then (s.foldl (runO l) (0, 0, 0)).2.2 else 0
section
variable (l : List Od) (s : List Int) (hl : l.length ≤ 1048576) (hs : s.length ≤ 1048576) (hin : ∀ x ∈ s, inI x)
include hl
theorem e_spec_TotalLateness : F_spec_TotalLateness [ods l, ints s] = some (.ret [I (totR l s), B (askO l s)] []) := by
  rw [t_spec_TotalLateness]
  unfold totR
  cases ha : askO l s
  · simp -implicitDefEqProofs [e_spec_orAsked l s hl, ha]
  · obtain ⟨h1, h2, h3, h4, h5⟩ := askO_facts ha
    simp -implicitDefEqProofs [e_spec_orAsked l s hl, ha, e_spec_orLate l s h1 h5 (by omega), e_spec_juSum _ (show (lateO l s s.length).length ≤ 1048576 by rw [lateO_len]; omega) (late_in h1 h5 (by omega))]
include hs hin
theorem e_impl_FinishTimes : F_impl_FinishTimes [ods l, ints s] = some (.ret [ints (finR l s), B (askO l s)] []) := by
  rw [t_impl_FinishTimes]
  unfold finR
  cases ha : askO l s
  · simp -implicitDefEqProofs [e_impl_isSequence l s hl hs hin, ha, mkArr_nil]
  · obtain ⟨h1, h2, h3, h4, h5⟩ := askO_facts ha
    simp -implicitDefEqProofs [e_impl_isSequence l s hl hs hin, ha, e_impl_finished l s h1 h5 (by omega)]
theorem e_impl_TotalLateness : F_impl_TotalLateness [ods l, ints s] = some (.ret [I (totR l s), B (askO l s)] []) := by
  rw [t_impl_TotalLateness]
  unfold totR
  cases ha : askO l s
  · simp -implicitDefEqProofs [e_impl_isSequence l s hl hs hin, ha]
  · obtain ⟨h1, h2, h3, h4, h5⟩ := askO_facts ha
    simp -implicitDefEqProofs [e_impl_isSequence l s hl hs hin, ha, e_impl_lateness l s h1 h5 (by omega), e_impl_sum _ (show (lateO l s s.length).length ≤ 1048576 by rw [lateO_len]; omega) (late_in h1 h5 (by omega))]
end
theorem finR_len (l : List Od) (s : List Int) : (finR l s).length ≤ s.length := by
  unfold finR
  split
  · rw [timesO_len]; exact Nat.le_refl _
  · exact Nat.zero_le _
end Go.Proofs.YtaphcpfkgpaefaaGreat
/-
  The least greatest lateness, the other side: sequences tried in order, what cannot be better left out.
-/
namespace Go.Proofs.YtaphcpfkgpaefaaGreat
open Go Go.V
set_option linter.unusedSimpArgs false

theorem e_spec_l1Own (l : List Int) (h : l.length ≤ 1048576) : F_spec_l1Own [ints l] = some (.ret [ints l] []) := by
  rw [t_spec_l1Own]
  have hc : chkA (ints l) = some (ints l) := chkA_map fun _ => rfl
  have ha := app_ints (l := []) (m := l) (by simp; omega)
  rw [List.nil_append, show ints [] = D.arr 1 [] from rfl] at ha
  simp -implicitDefEqProofs only [sl_zero, sl_succ, liveD_agg, liveD_ref, liveD_arr, ref0_eq, Option.bind_some, Option.map_some, callK_ret, gate_t, gate_f, gate_s, gateC_t, gateC_f, gateC_s, nrmK_some, pickD_B, ifD_B, ifN_B, if_true, if_false, Bool.false_eq_true, un_not, Bool.not_true, Bool.not_false, decide_true, decide_false, and_self, outK_ext, Nat.beq_refl, bin_lss, bin_gtr, bin_leq, bin_geq, bin_eql, bin_neq, bin_add, bin_sub, bin_mul, lenD_arr, lenD_str, List.length_map, ldD_ptr, takeD_f, chkV_v, offD_ptr, List.drop_zero, List.drop_succ_cons, atD_agg, mkArr_nil, Int.reduceLT, Int.reduceLE, Int.reduceEq, hc, ha]
theorem e_impl_hasNumber (l : List Int) (n : Int) (h : l.length ≤ 1048577) : F_impl_hasNumber [ints l, I n] = some (.ret [B (decide (n ∈ l))] []) := by
  rw [t_impl_hasNumber]
  simp only [lenD_arr, List.length_map, Option.bind_some]
  refine loop_bind _ (loop_all l (fun i => [I n, ints l, I l.length, I i]) (fun _ x => !decide (x = n)) (.ret [B true] []) (.ext 0 []) (fun i hi => ?_) ?_ rfl rfl rfl) ?_
  · have hw : IntKind.i64.wrap ((i : Int) + 1) = (i : Int) + 1 := wrap_id (by omega) (by omega)
    by_cases h1 : l[i] = n <;> simp -implicitDefEqProofs [hi, hw, h1]
  · simp
  · rw [allI_not]
    by_cases hm : n ∈ l <;> simp [hm]

/-- The greatest lateness of a sequence. -/
def costO (l : List Od) (s : List Int) : Int := mostL (lateO l s s.length)
theorem e_spec_orWorst (l : List Od) (s : List Int) (hg : ∀ x ∈ l, isOd x = true) (hs : ∀ k ∈ s, 0 ≤ k ∧ k < l.length) (hl : s.length ≤ 100) : F_spec_orWorst [ods l, ints s] = some (.ret [I (costO l s)] []) := by
  rw [t_spec_orWorst, e_spec_orLate l s hg hs hl]
  have hlen := lateO_len l s s.length
  unfold costO
  generalize lateO l s s.length = L at *
  simp only [callK_ret, sl_zero, lenD_arr, List.length_map, Option.bind_some]
  refine loop_bind _ (loop_foldl L (fun i a => [I a, ints L, I L.length, I i]) max (fun a => .ext 0 [I a]) 0 (fun i a hi => ?_) (fun a => ?_) (fun _ => rfl) rfl) ?_
  · have hw : IntKind.i64.wrap ((i : Int) + 1) = (i : Int) + 1 := wrap_id (by omega) (by omega)
    simp -implicitDefEqProofs [hi, hw, e_spec_l1Most]
  · simp
  · simp [mostL]
theorem most_le : ∀ (l : List Int) (a : Int), a ≤ l.foldl max a
  | [], a => Int.le_refl a
  | x :: l, a => Int.le_trans (Int.le_max_left a x) (most_le l (max a x))
theorem cost_nn (l : List Od) (s : List Int) : 0 ≤ costO l s := most_le _ 0
theorem times_app (l : List Od) (t : List Int) : ∀ (s : List Int) (a : Int × Int × Int), ∃ r, timesO l a (s ++ t) = timesO l a s ++ r
  | [], a => ⟨_, rfl⟩
  | k :: s, a => by
    obtain ⟨r, hr⟩ := times_app l t s (runO l a k)
    exact ⟨r, by simp only [List.cons_append, timesO, hr]⟩
theorem late_app (l : List Od) (s t : List Int) : ∃ r, lateO l (s ++ t) (s ++ t).length = lateO l s s.length ++ r := by
  have h1 : ∀ i, i < s.length → lateF l (s ++ t) i = lateF l s i := fun i hi => by
    obtain ⟨r, hr⟩ := times_app l t s (0, 0, 0)
    unfold lateF tms
    rw [hr, List.getD_eq_getElem?_getD, List.getD_eq_getElem?_getD, List.getElem?_append_left (by rw [timesO_len]; exact hi)]
    rw [List.getD_eq_getElem?_getD, List.getD_eq_getElem?_getD, List.getElem?_append_left hi]
  refine ⟨((List.range t.length).map fun i => s.length + i).map (lateF l (s ++ t)), ?_⟩
  unfold lateO
  rw [List.length_append, List.range_add, List.map_append]
  congr 1
  exact List.map_congr_left fun i hi => h1 i (List.mem_range.1 hi)
/-- With some orders behind it a sequence is late by no less. -/
theorem cost_app (l : List Od) (s t : List Int) : costO l s ≤ costO l (s ++ t) := by
  obtain ⟨r, hr⟩ := late_app l s t
  unfold costO mostL
  rw [hr, List.foldl_append]
  exact most_le _ _

theorem tupAt_ints0 (l : List Int) (ds : List D) : tupAt (.tup (ints l :: ds)) 0 = some (ints l) := rfl
theorem tupAt_v1 (a : D) (v : Value) (ds : List D) : tupAt (.tup (a :: .v v :: ds)) 1 = some (.v v) := rfl
/-- The better of two: the first one, unless the second one is less. -/
def combB (s r : List Int × Int) : List Int × Int := if s.2 < 0 ∨ r.2 < s.2 then r else s
def stepF (l : List Od) (sub : List Int → List Int × Int) (b : List Int) (s : List Int × Int) (i : Nat) : List Int × Int :=
  if (i : Int) ∈ b then s else if 0 ≤ s.2 ∧ s.2 ≤ costO l (b ++ [(i : Int)]) then s else combB s (sub (b ++ [(i : Int)]))
def firstS (l : List Od) : Nat → List Int → List Int × Int
  | 0, b => (b, costO l b)
  | k + 1, b => (List.range l.length).foldl (stepF l (firstS l k) b) ([], -1)
theorem first_len (l : List Od) : ∀ (k : Nat) (b : List Int), b.length + k ≤ 100 → (firstS l k b).1.length ≤ 100
  | 0, b, h => h
  | k + 1, b, h => by
    have key : ∀ (r : List Nat) (s : List Int × Int), s.1.length ≤ 100 → (r.foldl (stepF l (firstS l k) b) s).1.length ≤ 100 := by
      intro r
      induction r with
      | nil => intro s hs; exact hs
      | cons i r ih =>
        intro s hs
        refine ih _ ?_
        unfold stepF
        split
        · exact hs
        · split
          · exact hs
          · unfold combB
            split
            · exact first_len l k _ (by simp; omega)
            · exact hs
    exact key _ _ (by simp)
set_option maxHeartbeats 1000000 in
theorem e_first (l : List Od) (hg : ∀ x ∈ l, isOd x = true) (h8 : l.length ≤ 8) : ∀ (k m : Nat) (b : List Int), k < m → b.length + k = l.length → (∀ x ∈ b, 0 ≤ x ∧ x < l.length) →
    R_spec_orFirst m [ods l, ints b] = some (.ret [ints (firstS l k b).1, I (firstS l k b).2] [])
  | 0, m + 1, b, _, hb, hin => by
    have hw := e_spec_orWorst l b hg hin (by omega)
    rw [t_spec_orFirst]
    simp -implicitDefEqProofs only [sl_zero, sl_succ, liveD_agg, liveD_ref, liveD_arr, ref0_eq, Option.bind_some, Option.map_some, callK_ret, gate_t, gate_f, gate_s, gateC_t, gateC_f, gateC_s, nrmK_some, pickD_B, ifD_B, ifN_B, if_true, if_false, Bool.false_eq_true, un_not, Bool.not_true, Bool.not_false, decide_true, decide_false, and_self, outK_ext, Nat.beq_refl, bin_lss, bin_gtr, bin_leq, bin_geq, bin_eql, bin_neq, bin_add, bin_sub, bin_mul, lenD_arr, lenD_str, List.length_map, ldD_ptr, takeD_f, chkV_v, offD_ptr, List.drop_zero, List.drop_succ_cons, atD_agg, mkArr_nil, Int.reduceLT, Int.reduceLE, Int.reduceEq, show (b.length : Int) = l.length by omega, hw, eq_self]
    rfl
  | k + 1, m + 1, b, hm, hb, hin => by
    have hne : ¬ (b.length : Int) = l.length := by omega
    have ho := e_spec_l1Own b (by omega)
    rw [t_spec_orFirst]
    simp -implicitDefEqProofs only [sl_zero, sl_succ, liveD_agg, liveD_ref, liveD_arr, ref0_eq, Option.bind_some, Option.map_some, callK_ret, gate_t, gate_f, gate_s, gateC_t, gateC_f, gateC_s, nrmK_some, pickD_B, ifD_B, ifN_B, if_true, if_false, Bool.false_eq_true, un_not, Bool.not_true, Bool.not_false, decide_true, decide_false, and_self, outK_ext, Nat.beq_refl, bin_lss, bin_gtr, bin_leq, bin_geq, bin_eql, bin_neq, bin_add, bin_sub, bin_mul, lenD_arr, lenD_str, List.length_map, ldD_ptr, takeD_f, chkV_v, offD_ptr, List.drop_zero, List.drop_succ_cons, atD_agg, mkArr_nil, Int.reduceLT, Int.reduceLE, Int.reduceEq, hne]
    refine loop_bind _ (loop_for l.length (fun i => [ods l, ints b, ints ((List.range i).foldl (stepF l (firstS l k) b) ([], -1)).1, I ((List.range i).foldl (stepF l (firstS l k) b) ([], -1)).2, I l.length, I i]) (.ext 0 [ints (firstS l (k + 1) b).1, I (firstS l (k + 1) b).2]) (fun i hi => ?_) ?_ rfl rfl) ?_
    · have hw : IntKind.i64.wrap ((i : Int) + 1) = (i : Int) + 1 := wrap_id (by omega) (by omega)
      rw [List.range_succ, List.foldl_append, List.foldl_cons, List.foldl_nil]
      generalize (List.range i).foldl (stepF l (firstS l k) b) ([], -1) = s
      obtain ⟨sb, sm⟩ := s
      have hh := e_spec_l1Has b i (by omega)
      have hi' : (i : Int) < l.length := by omega
      by_cases hmem : (i : Int) ∈ b
      · rw [decide_eq_true hmem] at hh
        have e : stepF l (firstS l k) b (sb, sm) i = (sb, sm) := by unfold stepF; rw [if_pos hmem]
        rw [e]
        simp -implicitDefEqProofs only [sl_zero, sl_succ, liveD_agg, liveD_ref, liveD_arr, ref0_eq, Option.bind_some, Option.map_some, callK_ret, gate_t, gate_f, gate_s, gateC_t, gateC_f, gateC_s, nrmK_some, pickD_B, ifD_B, ifN_B, if_true, if_false, Bool.false_eq_true, un_not, Bool.not_true, Bool.not_false, decide_true, decide_false, and_self, outK_ext, Nat.beq_refl, bin_lss, bin_gtr, bin_leq, bin_geq, bin_eql, bin_neq, bin_add, bin_sub, bin_mul, lenD_arr, lenD_str, List.length_map, ldD_ptr, takeD_f, chkV_v, offD_ptr, List.drop_zero, List.drop_succ_cons, atD_agg, mkArr_nil, Int.reduceLT, Int.reduceLE, Int.reduceEq, hi', hh, hw, Int.natCast_add, Int.natCast_one]
      · rw [decide_eq_false hmem] at hh
        have ha := app_ints (l := b) (m := [(i : Int)]) (by simp; omega)
        have hin2 : ∀ x ∈ b ++ [(i : Int)], 0 ≤ x ∧ x < l.length := fun x hx => by
          rcases List.mem_append.1 hx with hx | hx
          · exact hin x hx
          · have := List.mem_singleton.1 hx
            omega
        have hw1 := e_spec_orWorst l (b ++ [(i : Int)]) hg hin2 (by simp; omega)
        have ih := e_first l hg h8 k m (b ++ [(i : Int)]) (by omega) (by simp; omega) hin2
        by_cases h0 : 0 ≤ sm
        · have hn : ¬ sm < 0 := by omega
          by_cases hc : sm ≤ costO l (b ++ [(i : Int)])
          · have e : stepF l (firstS l k) b (sb, sm) i = (sb, sm) := by unfold stepF; rw [if_neg hmem, if_pos ⟨h0, hc⟩]
            rw [e]
            simp -implicitDefEqProofs only [sl_zero, sl_succ, liveD_agg, liveD_ref, liveD_arr, ref0_eq, Option.bind_some, Option.map_some, callK_ret, gate_t, gate_f, gate_s, gateC_t, gateC_f, gateC_s, nrmK_some, pickD_B, ifD_B, ifN_B, if_true, if_false, Bool.false_eq_true, un_not, Bool.not_true, Bool.not_false, decide_true, decide_false, and_self, outK_ext, Nat.beq_refl, bin_lss, bin_gtr, bin_leq, bin_geq, bin_eql, bin_neq, bin_add, bin_sub, bin_mul, lenD_arr, lenD_str, List.length_map, ldD_ptr, takeD_f, chkV_v, offD_ptr, List.drop_zero, List.drop_succ_cons, atD_agg, mkArr_nil, Int.reduceLT, Int.reduceLE, Int.reduceEq, hi', hh, hw, ho, one_int, ha, h0, hw1, hc, Int.natCast_add, Int.natCast_one]
          · by_cases hlt : (firstS l k (b ++ [(i : Int)])).2 < sm
            · have e : stepF l (firstS l k) b (sb, sm) i = firstS l k (b ++ [(i : Int)]) := by unfold stepF; rw [if_neg hmem, if_neg (fun h => hc h.2)]; unfold combB; rw [if_pos (.inr hlt)]
              rw [e]
              simp -implicitDefEqProofs only [sl_zero, sl_succ, liveD_agg, liveD_ref, liveD_arr, ref0_eq, Option.bind_some, Option.map_some, callK_ret, gate_t, gate_f, gate_s, gateC_t, gateC_f, gateC_s, nrmK_some, pickD_B, ifD_B, ifN_B, if_true, if_false, Bool.false_eq_true, un_not, Bool.not_true, Bool.not_false, decide_true, decide_false, and_self, outK_ext, Nat.beq_refl, bin_lss, bin_gtr, bin_leq, bin_geq, bin_eql, bin_neq, bin_add, bin_sub, bin_mul, lenD_arr, lenD_str, List.length_map, ldD_ptr, takeD_f, chkV_v, offD_ptr, List.drop_zero, List.drop_succ_cons, atD_agg, mkArr_nil, Int.reduceLT, Int.reduceLE, Int.reduceEq, hi', hh, hw, ho, one_int, ha, h0, hw1, hc, ih, hn, hlt, tupAt_ints0, tupAt_v1, Int.natCast_add, Int.natCast_one]
            · have e : stepF l (firstS l k) b (sb, sm) i = (sb, sm) := by unfold stepF; rw [if_neg hmem, if_neg (fun h => hc h.2)]; unfold combB; rw [if_neg (fun h => h.elim hn hlt)]
              rw [e]
              simp -implicitDefEqProofs only [sl_zero, sl_succ, liveD_agg, liveD_ref, liveD_arr, ref0_eq, Option.bind_some, Option.map_some, callK_ret, gate_t, gate_f, gate_s, gateC_t, gateC_f, gateC_s, nrmK_some, pickD_B, ifD_B, ifN_B, if_true, if_false, Bool.false_eq_true, un_not, Bool.not_true, Bool.not_false, decide_true, decide_false, and_self, outK_ext, Nat.beq_refl, bin_lss, bin_gtr, bin_leq, bin_geq, bin_eql, bin_neq, bin_add, bin_sub, bin_mul, lenD_arr, lenD_str, List.length_map, ldD_ptr, takeD_f, chkV_v, offD_ptr, List.drop_zero, List.drop_succ_cons, atD_agg, mkArr_nil, Int.reduceLT, Int.reduceLE, Int.reduceEq, hi', hh, hw, ho, one_int, ha, h0, hw1, hc, ih, hn, hlt, tupAt_ints0, tupAt_v1, Int.natCast_add, Int.natCast_one]
        · have hn : sm < 0 := by omega
          have e : stepF l (firstS l k) b (sb, sm) i = firstS l k (b ++ [(i : Int)]) := by unfold stepF; rw [if_neg hmem, if_neg (fun h => h0 h.1)]; unfold combB; rw [if_pos (.inl hn)]
          rw [e]
          simp -implicitDefEqProofs only [sl_zero, sl_succ, liveD_agg, liveD_ref, liveD_arr, ref0_eq, Option.bind_some, Option.map_some, callK_ret, gate_t, gate_f, gate_s, gateC_t, gateC_f, gateC_s, nrmK_some, pickD_B, ifD_B, ifN_B, if_true, if_false, Bool.false_eq_true, un_not, Bool.not_true, Bool.not_false, decide_true, decide_false, and_self, outK_ext, Nat.beq_refl, bin_lss, bin_gtr, bin_leq, bin_geq, bin_eql, bin_neq, bin_add, bin_sub, bin_mul, lenD_arr, lenD_str, List.length_map, ldD_ptr, takeD_f, chkV_v, offD_ptr, List.drop_zero, List.drop_succ_cons, atD_agg, mkArr_nil, Int.reduceLT, Int.reduceLE, Int.reduceEq, hi', hh, hw, ho, one_int, ha, h0, ih, hn, tupAt_ints0, tupAt_v1, Int.natCast_add, Int.natCast_one]
    · simp -implicitDefEqProofs only [sl_zero, sl_succ, liveD_agg, liveD_ref, liveD_arr, ref0_eq, Option.bind_some, Option.map_some, callK_ret, gate_t, gate_f, gate_s, gateC_t, gateC_f, gateC_s, nrmK_some, pickD_B, ifD_B, ifN_B, if_true, if_false, Bool.false_eq_true, un_not, Bool.not_true, Bool.not_false, decide_true, decide_false, and_self, outK_ext, Nat.beq_refl, bin_lss, bin_gtr, bin_leq, bin_geq, bin_eql, bin_neq, bin_add, bin_sub, bin_mul, lenD_arr, lenD_str, List.length_map, ldD_ptr, takeD_f, chkV_v, offD_ptr, List.drop_zero, List.drop_succ_cons, atD_agg, mkArr_nil, Int.reduceLT, Int.reduceLE, Int.reduceEq, Int.lt_irrefl]
      rfl
    · simp -implicitDefEqProofs only [sl_zero, sl_succ, liveD_agg, liveD_ref, liveD_arr, ref0_eq, Option.bind_some, Option.map_some, callK_ret, gate_t, gate_f, gate_s, gateC_t, gateC_f, gateC_s, nrmK_some, pickD_B, ifD_B, ifN_B, if_true, if_false, Bool.false_eq_true, un_not, Bool.not_true, Bool.not_false, decide_true, decide_false, and_self, outK_ext, Nat.beq_refl, bin_lss, bin_gtr, bin_leq, bin_geq, bin_eql, bin_neq, bin_add, bin_sub, bin_mul, lenD_arr, lenD_str, List.length_map, ldD_ptr, takeD_f, chkV_v, offD_ptr, List.drop_zero, List.drop_succ_cons, atD_agg, mkArr_nil, Int.reduceLT, Int.reduceLE, Int.reduceEq]
end Go.Proofs.YtaphcpfkgpaefaaGreat
/-
  The least greatest lateness: all sequences visited in order, and the same with what cannot be better left out.
-/
namespace Go.Proofs.YtaphcpfkgpaefaaGreat
open Go Go.V
set_option linter.unusedSimpArgs false

theorem full_len : ∀ (n : Nat) (b : List Int), (∀ i : Nat, i < n → (i : Int) ∈ b) → n ≤ b.length
  | 0, _, _ => Nat.zero_le _
  | n + 1, b, h => by
    have hn : (n : Int) ∈ b := h n (by omega)
    have ih := full_len n (b.filter fun x => !decide (x = (n : Int))) (fun i hi => by
      rw [List.mem_filter]
      refine ⟨h i (by omega), ?_⟩
      simp only [Bool.not_eq_true', decide_eq_false_iff_not]
      omega)
    have : (b.filter fun x => !decide (x = (n : Int))).length < b.length := List.length_filter_lt_length_iff_exists.2 ⟨(n : Int), hn, by simp⟩
    omega
theorem some_out {n : Nat} {b : List Int} (h : b.length < n) : ∃ i, i < n ∧ (i : Int) ∉ b := by
  apply Classical.byContradiction
  intro hc
  have := full_len n b fun i hi => Classical.byContradiction fun hm => hc ⟨i, hi, hm⟩
  omega
theorem comb_assoc {s t a : List Int × Int} (ht : 0 ≤ t.2) : combB (combB s t) a = combB s (combB t a) := by
  unfold combB
  by_cases h1 : s.2 < 0 ∨ t.2 < s.2 <;> by_cases h2 : t.2 < 0 ∨ a.2 < t.2
  · rw [if_pos h1, if_pos h2, if_pos (show s.2 < 0 ∨ a.2 < s.2 by omega)]
  · rw [if_pos h1, if_neg h2, if_pos h1]
  · rw [if_neg h1, if_pos h2]
  · rw [if_neg h1, if_neg h2, if_neg h1, if_neg (show ¬ (s.2 < 0 ∨ a.2 < s.2) by omega)]
/-- What comes of a beginning is late by no less than it. -/
theorem first_ge (l : List Od) : ∀ (k : Nat) (b : List Int), b.length + k = l.length → costO l b ≤ (firstS l k b).2
  | 0, _, _ => Int.le_refl _
  | k + 1, b, hb => by
    have hsub : ∀ i : Nat, costO l b ≤ (firstS l k (b ++ [(i : Int)])).2 := fun i => Int.le_trans (cost_app l b [(i : Int)]) (first_ge l k _ (by simp; omega))
    have hc := cost_nn l b
    have one : ∀ (s : List Int × Int) (i : Nat), s.2 < 0 ∨ costO l b ≤ s.2 → ((stepF l (firstS l k) b s i).2 < 0 ∧ (i : Int) ∈ b) ∨ costO l b ≤ (stepF l (firstS l k) b s i).2 := by
      intro s i hs
      have := hsub i
      unfold stepF
      by_cases hm : (i : Int) ∈ b
      · rw [if_pos hm]
        rcases hs with hs | hs
        · exact .inl ⟨hs, hm⟩
        · exact .inr hs
      · rw [if_neg hm]
        right
        split
        · rcases hs with hs | hs <;> omega
        · unfold combB
          split
          · exact this
          · rcases hs with hs | hs <;> omega
    have key : ∀ (r : List Nat) (s : List Int × Int), (s.2 < 0 ∨ costO l b ≤ s.2) → ((r.foldl (stepF l (firstS l k) b) s).2 < 0 ∧ (∀ i ∈ r, (i : Int) ∈ b)) ∨ costO l b ≤ (r.foldl (stepF l (firstS l k) b) s).2 := by
      intro r
      induction r with
      | nil => intro s hs; exact hs.imp (fun h => ⟨h, fun _ h => by cases h⟩) id
      | cons i r ih =>
        intro s hs
        rw [List.foldl_cons]
        rcases one s i hs with ⟨h1, h2⟩ | h1
        · rcases ih _ (.inl h1) with ⟨h3, h4⟩ | h3
          · refine .inl ⟨h3, fun j hj => ?_⟩
            rcases List.mem_cons.1 hj with rfl | hj
            · exact h2
            · exact h4 j hj
          · exact .inr h3
        · have keep : ∀ (r : List Nat) (s : List Int × Int), costO l b ≤ s.2 → costO l b ≤ (r.foldl (stepF l (firstS l k) b) s).2 := by
            intro r
            induction r with
            | nil => intro s hs; exact hs
            | cons i r ih =>
              intro s hs
              rw [List.foldl_cons]
              refine ih _ ?_
              rcases one s i (.inr hs) with ⟨h1, h2⟩ | h1
              · exfalso
                unfold stepF at h1
                rw [if_pos h2] at h1
                omega
              · exact h1
          exact .inr (keep r _ h1)
    rcases key (List.range l.length) ([], -1) (.inl (by simp)) with ⟨_, h⟩ | h
    · exfalso
      obtain ⟨i, hi, hni⟩ := some_out (n := l.length) (b := b) (by omega)
      exact hni (h i (List.mem_range.2 hi))
    · exact h

/-- All sequences that begin with some orders, visited in order. -/
def eachF (l : List Od) : Nat → List Int → List Int × Int → List Int × Int
  | 0, o, s => combB s (o, costO l o)
  | k + 1, o, s => (List.range l.length).foldl (fun s (i : Nat) => if (i : Int) ∈ o then s else eachF l k (o ++ [(i : Int)]) s) s
theorem each_first (l : List Od) : ∀ (k : Nat) (o : List Int) (s : List Int × Int), o.length + k = l.length → eachF l k o s = combB s (firstS l k o)
  | 0, _, _, _ => rfl
  | k + 1, o, s, ho => by
    have hsub : ∀ i : Nat, costO l (o ++ [(i : Int)]) ≤ (firstS l k (o ++ [(i : Int)])).2 := fun i => first_ge l k _ (by simp; omega)
    have key : ∀ n, (List.range n).foldl (fun s (i : Nat) => if (i : Int) ∈ o then s else eachF l k (o ++ [(i : Int)]) s) s =
        if ((List.range n).foldl (stepF l (firstS l k) o) ([], -1)).2 < 0 then s else combB s ((List.range n).foldl (stepF l (firstS l k) o) ([], -1)) := by
      intro n
      induction n with
      | zero => simp
      | succ n ih =>
        rw [List.range_succ, List.foldl_append, List.foldl_append, ih]
        simp only [List.foldl_cons, List.foldl_nil]
        generalize (List.range n).foldl (stepF l (firstS l k) o) ([], -1) = t
        change _ = if (stepF l (firstS l k) o t n).2 < 0 then s else combB s (stepF l (firstS l k) o t n)
        by_cases hm : (n : Int) ∈ o
        · rw [if_pos hm]
          have e : stepF l (firstS l k) o t n = t := by unfold stepF; rw [if_pos hm]
          rw [e]
        · rw [if_neg hm, each_first l k _ _ (by simp; omega)]
          have h1 := hsub n
          have h2 := cost_nn l (o ++ [(n : Int)])
          have e : stepF l (firstS l k) o t n = combB t (firstS l k (o ++ [(n : Int)])) := by
            unfold stepF
            rw [if_neg hm]
            split
            · unfold combB
              rw [if_neg (by omega)]
            · rfl
          rw [e]
          generalize firstS l k (o ++ [(n : Int)]) = a at *
          by_cases ht : t.2 < 0
          · have e2 : combB t a = a := by unfold combB; rw [if_pos (.inl ht)]
            rw [if_pos ht, e2, if_neg (by omega)]
          · have e3 : ¬ (combB t a).2 < 0 := by
              unfold combB
              split <;> omega
            rw [if_neg ht, if_neg e3, comb_assoc (by omega)]
    have hge := first_ge l (k + 1) o ho
    have hnn := cost_nn l o
    have := key l.length
    rw [if_neg (show ¬ ((List.range l.length).foldl (stepF l (firstS l k) o) ([], -1)).2 < 0 from fun h => by
      have e : ((List.range l.length).foldl (stepF l (firstS l k) o) ([], -1)) = firstS l (k + 1) o := rfl
      rw [e] at h
      omega)] at this
    exact this
theorem each_all (l : List Od) : eachF l l.length [] ([], -1) = firstS l l.length [] := by
  rw [each_first l l.length [] _ (by simp)]
  unfold combB
  rw [if_pos (.inl (by simp))]
end Go.Proofs.YtaphcpfkgpaefaaGreat
/-
  The library's sorts at this seat: their layings, as the kit's tool writes them.
-/
namespace Go.Proofs
open Go.Shelf
def Tryz.lays191_ren : Go.Shelf.Ren := ⟨fun | 191 => 45 | 189 => 61 | 125 => 66 | 257 => 65 | 128 => 80 | 129 => 81 | 294 => 71 | 295 => 72 | 296 => 73 | 297 => 74 | 298 => 75 | 299 => 76 | 216 => 77 | 300 => 78 | 301 => 79 | 328 => 93 | 329 => 94 | 330 => 95 | 331 => 96 | 332 => 97 | 215 => 98 | 343 => 100 | n => n, fun | 28 => 24 | 0 => 0 | 3 => 3 | 46 => 49 | 51 => 93 | 53 => 52 | 4 => 4 | 183 => 87 | 182 => 86 | 131 => 29 | 5 => 5 | 9 => 9 | 218 => 100 | 222 => 104 | 228 => 106 | 229 => 107 | n => n, fun | n => n⟩
theorem Tryz.lays191 : Go.Proofs.Lays.n191 Tryz.prog Tryz.lays191_ren := {
  mixed := by kernel_rfl
  f125 := Tryz.func66.trans (congrArg some (by kernel_rfl))
  f128 := Tryz.func80.trans (congrArg some (by kernel_rfl))
  f129 := Tryz.func81.trans (congrArg some (by kernel_rfl))
  f189 := Tryz.func61.trans (congrArg some (by kernel_rfl))
  f191 := Tryz.func45.trans (congrArg some (by kernel_rfl))
  f215 := Tryz.func98.trans (congrArg some (by kernel_rfl))
  f216 := Tryz.func77.trans (congrArg some (by kernel_rfl))
  f257 := Tryz.func65.trans (congrArg some (by kernel_rfl))
  f294 := Tryz.func71.trans (congrArg some (by kernel_rfl))
  f295 := Tryz.func72.trans (congrArg some (by kernel_rfl))
  f296 := Tryz.func73.trans (congrArg some (by kernel_rfl))
  f297 := Tryz.func74.trans (congrArg some (by kernel_rfl))
  f298 := Tryz.func75.trans (congrArg some (by kernel_rfl))
  f299 := Tryz.func76.trans (congrArg some (by kernel_rfl))
  f300 := Tryz.func78.trans (congrArg some (by kernel_rfl))
  f301 := Tryz.func79.trans (congrArg some (by kernel_rfl))
  f328 := Tryz.func93.trans (congrArg some (by kernel_rfl))
  f329 := Tryz.func94.trans (congrArg some (by kernel_rfl))
  f330 := Tryz.func95.trans (congrArg some (by kernel_rfl))
  f331 := Tryz.func96.trans (congrArg some (by kernel_rfl))
  f332 := Tryz.func97.trans (congrArg some (by kernel_rfl))
  f343 := Tryz.func100.trans (congrArg some (by kernel_rfl))
  t0 := Tryz.underlying0
  a0 := Tryz.isAgg0
  z0 := Tryz.sizeOf0
  v0 := Tryz.zeroValue0
  t3 := Tryz.underlying3
  a3 := Tryz.isAgg3
  z3 := Tryz.sizeOf3
  v3 := Tryz.zeroValue3
  t4 := Tryz.underlying4
  a4 := Tryz.isAgg4
  z4 := Tryz.sizeOf4
  v4 := Tryz.zeroValue4
  t5 := Tryz.underlying5
  a5 := Tryz.isAgg5
  z5 := Tryz.sizeOf5
  v5 := Tryz.zeroValue5
  t9 := Tryz.underlying9
  a9 := Tryz.isAgg9
  z9 := Tryz.sizeOf9
  v9 := Tryz.zeroValue9
  t28 := Tryz.underlying24
  a28 := Tryz.isAgg24
  z28 := Tryz.sizeOf24
  v28 := Tryz.zeroValue24
  t46 := Tryz.underlying49
  a46 := Tryz.isAgg49
  z46 := Tryz.sizeOf49
  v46 := Tryz.zeroValue49
  t51 := Tryz.underlying93
  a51 := Tryz.isAgg93
  z51 := Tryz.sizeOf93
  v51 := Tryz.zeroValue93
  t53 := Tryz.underlying52
  a53 := Tryz.isAgg52
  z53 := Tryz.sizeOf52
  v53 := Tryz.zeroValue52
  t131 := Tryz.underlying29
  a131 := Tryz.isAgg29
  z131 := Tryz.sizeOf29
  v131 := Tryz.zeroValue29
  t182 := Tryz.underlying86
  a182 := Tryz.isAgg86
  z182 := Tryz.sizeOf86
  v182 := Tryz.zeroValue86
  t183 := Tryz.underlying87
  a183 := Tryz.isAgg87
  z183 := Tryz.sizeOf87
  v183 := Tryz.zeroValue87
  t218 := Tryz.underlying100
  a218 := Tryz.isAgg100
  z218 := Tryz.sizeOf100
  v218 := Tryz.zeroValue100
  t222 := Tryz.underlying104
  a222 := Tryz.isAgg104
  z222 := Tryz.sizeOf104
  v222 := Tryz.zeroValue104
  t228 := Tryz.underlying106
  a228 := Tryz.isAgg106
  z228 := Tryz.sizeOf106
  v228 := Tryz.zeroValue106
  t229 := Tryz.underlying107
  a229 := Tryz.isAgg107
  z229 := Tryz.sizeOf107
  v229 := Tryz.zeroValue107 }
def Tryz.laysGt8_ren : Go.Shelf.Ren := ⟨fun | 8 => 62 | 13 => 67 | 14 => 68 | 16 => 70 | 15 => 69 | 29 => 91 | 30 => 92 | 42 => 99 | 49 => 101 | n => n, fun | 20 => 20 | 26 => 71 | 36 => 78 | 0 => 0 | 38 => 80 | 42 => 84 | 3 => 3 | 4 => 4 | 47 => 49 | 17 => 17 | 33 => 75 | 34 => 76 | 89 => 122 | 12 => 12 | 56 => 93 | 82 => 115 | 5 => 5 | 83 => 116 | 84 => 117 | 85 => 118 | 86 => 119 | 87 => 120 | n => n, fun | n => n⟩
theorem Tryz.laysGt8 : Go.Proofs.LaysGt.n8 Tryz.prog Tryz.laysGt8_ren := {
  mixed := by kernel_rfl
  f8 := Tryz.func62.trans (congrArg some (by kernel_rfl))
  f13 := Tryz.func67.trans (congrArg some (by kernel_rfl))
  f14 := Tryz.func68.trans (congrArg some (by kernel_rfl))
  f15 := Tryz.func69.trans (congrArg some (by kernel_rfl))
  f16 := Tryz.func70.trans (congrArg some (by kernel_rfl))
  f29 := Tryz.func91.trans (congrArg some (by kernel_rfl))
  f30 := Tryz.func92.trans (congrArg some (by kernel_rfl))
  f42 := Tryz.func99.trans (congrArg some (by kernel_rfl))
  f49 := Tryz.func101.trans (congrArg some (by kernel_rfl))
  t0 := Tryz.underlying0
  a0 := Tryz.isAgg0
  z0 := Tryz.sizeOf0
  v0 := Tryz.zeroValue0
  i0 := by kernel_rfl
  t3 := Tryz.underlying3
  a3 := Tryz.isAgg3
  z3 := Tryz.sizeOf3
  v3 := Tryz.zeroValue3
  i3 := by kernel_rfl
  t4 := Tryz.underlying4
  a4 := Tryz.isAgg4
  z4 := Tryz.sizeOf4
  v4 := Tryz.zeroValue4
  i4 := by kernel_rfl
  t5 := Tryz.underlying5
  a5 := Tryz.isAgg5
  z5 := Tryz.sizeOf5
  v5 := Tryz.zeroValue5
  i5 := by kernel_rfl
  t12 := Tryz.underlying12
  a12 := Tryz.isAgg12
  z12 := Tryz.sizeOf12
  v12 := Tryz.zeroValue12
  i12 := by kernel_rfl
  t17 := Tryz.underlying17
  a17 := Tryz.isAgg17
  z17 := Tryz.sizeOf17
  v17 := Tryz.zeroValue17
  i17 := by kernel_rfl
  t20 := Tryz.underlying20
  a20 := Tryz.isAgg20
  z20 := Tryz.sizeOf20
  v20 := Tryz.zeroValue20
  i20 := by kernel_rfl
  t26 := Tryz.underlying71
  a26 := Tryz.isAgg71
  z26 := Tryz.sizeOf71
  v26 := Tryz.zeroValue71
  i26 := by kernel_rfl
  t33 := Tryz.underlying75
  a33 := Tryz.isAgg75
  z33 := Tryz.sizeOf75
  v33 := Tryz.zeroValue75
  i33 := by kernel_rfl
  t34 := Tryz.underlying76
  a34 := Tryz.isAgg76
  z34 := Tryz.sizeOf76
  v34 := Tryz.zeroValue76
  i34 := by kernel_rfl
  t36 := Tryz.underlying78
  a36 := Tryz.isAgg78
  z36 := Tryz.sizeOf78
  v36 := Tryz.zeroValue78
  i36 := by kernel_rfl
  t38 := Tryz.underlying80
  a38 := Tryz.isAgg80
  z38 := Tryz.sizeOf80
  v38 := Tryz.zeroValue80
  i38 := by kernel_rfl
  t42 := Tryz.underlying84
  a42 := Tryz.isAgg84
  z42 := Tryz.sizeOf84
  v42 := Tryz.zeroValue84
  i42 := by kernel_rfl
  t47 := Tryz.underlying49
  a47 := Tryz.isAgg49
  z47 := Tryz.sizeOf49
  v47 := Tryz.zeroValue49
  i47 := by kernel_rfl
  t56 := Tryz.underlying93
  a56 := Tryz.isAgg93
  z56 := Tryz.sizeOf93
  v56 := Tryz.zeroValue93
  i56 := by kernel_rfl
  t82 := Tryz.underlying115
  a82 := Tryz.isAgg115
  z82 := Tryz.sizeOf115
  v82 := Tryz.zeroValue115
  i82 := by kernel_rfl
  t83 := Tryz.underlying116
  a83 := Tryz.isAgg116
  z83 := Tryz.sizeOf116
  v83 := Tryz.zeroValue116
  i83 := by kernel_rfl
  t84 := Tryz.underlying117
  a84 := Tryz.isAgg117
  z84 := Tryz.sizeOf117
  v84 := Tryz.zeroValue117
  i84 := by kernel_rfl
  t85 := Tryz.underlying118
  a85 := Tryz.isAgg118
  z85 := Tryz.sizeOf118
  v85 := Tryz.zeroValue118
  i85 := by kernel_rfl
  t86 := Tryz.underlying119
  a86 := Tryz.isAgg119
  z86 := Tryz.sizeOf119
  v86 := Tryz.zeroValue119
  i86 := by kernel_rfl
  t87 := Tryz.underlying120
  a87 := Tryz.isAgg120
  z87 := Tryz.sizeOf120
  v87 := Tryz.zeroValue120
  i87 := by kernel_rfl
  t89 := Tryz.underlying122
  a89 := Tryz.isAgg122
  z89 := Tryz.sizeOf122
  v89 := Tryz.zeroValue122
  i89 := by kernel_rfl }
end Go.Proofs
/-
  sort.SliceStable at few elements, whose less may lay new blocks: the library's walk at this seat.
-/
namespace Go.Proofs.YtaphcpfkgpaefaaGreat
open Go Go.Proofs Go.Shelf Go.RowKit Go.Lib Go.Sort
set_option linter.unusedSimpArgs false

section
variable {P : Program} {α : Type} [Inhabited α] {enc : α → Value} {w0 w1 W : World} {blk off : Nat} {d dk : Array α}
theorem sw_over (h : SW enc w0 blk off d w1) (hblk : blk < w0.heap.size) (h2 : SW enc w1 blk off dk W) (hs : dk.size = d.size) : SW enc w0 blk off dk W := by
  obtain ⟨m, os, rfl⟩ := h2
  exact h.on hblk m dk os hs
theorem sw_cell (h : SW enc w0 blk off dk W) {a : Addr} (hb : a.block ≠ blk) (hl : a.block < w0.heap.size) : W.cell? a = w0.cell? a := by
  obtain ⟨n, os, rfl⟩ := h
  unfold sortWorld
  rw [cell?_grow _ _ _ (by rw [size_putRow]; exact hl), cell?_putRow_other enc _ blk off dk _ (Or.inl hb)]
  rfl
theorem sw_grow (h : SW enc w0 blk off dk W) (q : Nat) (os : Array Obj) : SW enc w0 blk off dk (grow (W.drewN q) os) := by
  obtain ⟨n, os', h⟩ := h.drewN q
  rw [h]
  exact ⟨n, os' ++ os, by unfold sortWorld; rw [grow_grow]⟩
/-- A less that may lay new blocks and draw. -/
def Less2 (P : Program) (g : Nat) (lb : Array Value) (enc : α → Value) (lt : α → α → Bool) (blk off size : Nat) (w0 : World) : Prop :=
  ∀ (dk : Array α) (W : World), dk.size = size → SW enc w0 blk off dk W → ∀ i j : Nat, i < size → j < size →
    Calls P g (#[.int .i64 i, .int .i64 j] ++ lb) W fun e w' => e = .returned (.bool (lt dk[i]! dk[j]!)) ∧ ∃ q os, w' = grow (W.drewN q) os
end

set_option maxHeartbeats 2000000 in
set_option maxRecDepth 100000 in
theorem ins_walk {α : Type} [Inhabited α] (enc : α → Value) (lt : α → α → Bool) (g : Nat) (lb : Array Value) (sf : Nat) (sb : Array Value) (blk off : Nat) (d : Array α) (w00 w : World) (h00 : SW enc w00 blk off d w) (hblk0 : blk < w00.heap.size)
    (eg : ∀ args w, (callFunc g args).run Tryz.prog w = .ok (.enter g args) w) (hless : Less2 Tryz.prog g lb enc lt blk off d.size w00) (hswap : SwapSwaps Tryz.prog sf sb enc blk off d.size)
    (hH : Holds enc w blk off d) (hsz : d.size < 1000) :
    Calls Tryz.prog 91 #[.agg #[.func (.func g) #[] lb, .func (.func sf) #[] sb], .int .i64 0, .int .i64 d.size] w fun e w' =>
      e = .returned (.tuple #[]) ∧ SW enc w00 blk off (Sort.insertionSort lt d 0 d.size) w' := by
  have hblk : blk < w.heap.size := h00.lt hblk0
  have hw1 : SW enc w blk off d (w.alloc (.cells #[.func (.func g) #[] lb, .func (.func sf) #[] sb] 84)) := (SW.start hH).alloc _
  have hw0 := h00.alloc (.cells #[.func (.func g) #[] lb, .func (.func sf) #[] sb] 84)
  have k0 : (w.alloc (.cells #[.func (.func g) #[] lb, .func (.func sf) #[] sb] 84)).cell? ⟨w.heap.size, 0, none⟩ = some (.func (.func g) #[] lb) := by simp
  have k1 : (w.alloc (.cells #[.func (.func g) #[] lb, .func (.func sf) #[] sb] 84)).cell? ⟨w.heap.size, 1, none⟩ = some (.func (.func sf) #[] sb) := by simp
  have hl1 : w.heap.size < (w.alloc (.cells #[.func (.func g) #[] lb, .func (.func sf) #[] sb] 84)).heap.size := by rw [alloc_eq_grow, size_grow]; simp
  have hH1 := hw1.holds hblk hH rfl
  go_enter Tryz.func91, Tryz.ntmps91
  go_wp2
  generalize w.alloc (.cells #[.func (.func g) #[] lb, .func (.func sf) #[] sb] 84) = W1 at *
  have hb1 : blk < W1.heap.size := Nat.lt_trans hblk hl1
  have start1 : SW enc W1 blk off d W1 := SW.start hH1
  have kk0 : ∀ dk wr, SW enc W1 blk off dk wr → wr.cell? ⟨w.heap.size, 0, none⟩ = some (.func (.func g) #[] lb) := fun dk wr h => (sw_cell h (show w.heap.size ≠ blk by omega) hl1).trans k0
  have kk1 : ∀ dk wr, SW enc W1 blk off dk wr → wr.cell? ⟨w.heap.size, 1, none⟩ = some (.func (.func sf) #[] sb) := fun dk wr h => (sw_cell h (show w.heap.size ≠ blk by omega) hl1).trans k1
  have hold : ∀ dk wr, dk.size = d.size → SW enc W1 blk off dk wr → Holds enc wr blk off dk := fun dk wr hs h => h.holds hb1 hH1 hs
  have toW : ∀ dk wr, dk.size = d.size → SW enc W1 blk off dk wr → SW enc w00 blk off dk wr := fun dk wr hs h => sw_over hw0 hblk0 h hs
  clear k0 k1 hH hH1 hw0 hw1 h00
  go_loopw [6] (fun vi wr => ∃ (i : Nat) (dk : Array α), vi = .int .i64 i ∧ 0 < i ∧ i ≤ d.size + 1 ∧ dk.size = d.size ∧ SW enc W1 blk off dk wr ∧
      insOuter lt 0 d.size i dk = insOuter lt 0 d.size 1 d) (fun vi _ => d.size + 1 - (intOf vi).toNat)
  case atStart => exact ⟨1, d, by rfl, by omega, by omega, rfl, start1, rfl⟩
  case round =>
    obtain ⟨i, dk, rfl, hai, hib, hsk, hwr, hO⟩ := hrel
    have HO : Hid (insOuter lt 0 d.size i dk = insOuter lt 0 d.size 1 d) := hO
    clear hO
    go_wp2
    · -- i < b: the inner loop
      go_loopw [7] (fun vj wr2 => ∃ (j : Nat) (dj : Array α), vj = .int .i64 j ∧ j ≤ i ∧ dj.size = d.size ∧ SW enc W1 blk off dj wr2 ∧
          insInner lt 0 j dj = insInner lt 0 i dk) (fun vj _ => (intOf vj).toNat)
      case atStart => exact ⟨i, dk, rfl, Nat.le_refl _, hsk, hwr, rfl⟩
      case round =>
        obtain ⟨j, dj, rfl, hji, hsj, hw2, hI⟩ := hrel
        have hlt : i < d.size := by assumption
        have c0 := kk0 dj _ hw2
        have c1 := kk1 dj _ hw2
        have HW : Hid (SW enc W1 blk off dj wr) := hw2
        have HI : Hid (insInner lt 0 j dj = insInner lt 0 i dk) := hI
        clear hw2 hI hwr
        have out : (j ≤ 0 ∨ lt dj[j]! dj[j - 1]! = false) → ∀ wx, SW enc W1 blk off dj wx → ∃ (i' : Nat) (dk' : Array α), Value.int .i64 ((i : Int) + 1) = .int .i64 (i' : Nat) ∧ 0 < i' ∧ i' ≤ d.size + 1 ∧ dk'.size = d.size ∧
            SW enc W1 blk off dk' wx ∧ insOuter lt 0 d.size i' dk' = insOuter lt 0 d.size 1 d := fun hs wx hx =>
          ⟨i + 1, dj, congrArg (Value.int .i64) (by omega), by omega, by omega, hsj, hx,
            by rw [← HO.out, insOuter_go _ _ _ _ _ hlt, ← HI.out, insInner_stop _ _ _ _ hs]⟩
        have OUT : Hid _ := out
        clear out
        by_cases hja : 0 < j
        · have hl := hless dj wr hsj (toW dj wr hsj HW.out) j (j - 1) (by omega) (by omega)
          rw [show (((j - 1 : Nat) : Int)) = (j : Int) - 1 by omega] at hl
          replace hl := hl.mono (R' := fun e w' => e = .returned (.bool (lt dj[j]! dj[j - 1]!)) ∧ SW enc W1 blk off dj w') (fun e w' h => ⟨h.1, by obtain ⟨_, q, os, hx⟩ := h; rw [hx]; exact sw_grow HW.out q os⟩)
          cases hlv : lt dj[j]! dj[j - 1]! with
          | true =>
            rw [hlv] at hl
            go_wp2_with (go_at_fn g; refine hl.mono ?_; rintro e w' ⟨rfl, hx'⟩; have c1' := kk1 dj _ hx')
            have hs := hswap w' dj (hold dj w' hsj hx') hsj j (j - 1) (by omega) (by omega)
            rw [show (((j - 1 : Nat) : Int)) = (j : Int) - 1 by omega] at hs
            rw [hs, Oper.upon_value]
            go_wp2
            go_roundw
            case rel =>
              (repeat apply Exists.intro)
              refine ⟨⟨j - 1, swp dj j (j - 1), by congr 1 <;> omega, by omega, by rw [size_swp]; exact hsj, ?_, ?_⟩, by rw [decide_eq_true hlt, show ((j - 1 : Nat) : Int) = (j : Int) - 1 by omega]⟩
              · exact hx'.swap hb1 j (j - 1) (by omega) (by omega)
              · rw [← HI.out, insInner_go lt 0 j dj hja hlv]
            case measure => simp [intOf]; omega
          | false =>
            rw [hlv] at hl
            go_wp2_with (go_at_fn g; refine hl.mono ?_; rintro e w' ⟨rfl, hx'⟩)
            go_roundw
            case rel => exact OUT.out (Or.inr hlv) _ hx'
            case measure => simp [intOf]; omega
        · go_wp2
          go_roundw
          case rel => exact OUT.out (Or.inl (by omega)) _ HW.out
          case measure => simp [intOf]; omega
    · -- the outer loop is at its end
      have hge : ¬ i < d.size := by assumption
      go_end0
      exact ⟨rfl, by unfold Sort.insertionSort; rw [← HO.out, insOuter_stop _ _ _ _ _ hge]; exact toW _ _ hsk hwr⟩

set_option maxHeartbeats 2000000 in
set_option maxRecDepth 1000000 in
theorem stable_walk {α : Type} [Inhabited α] (enc : α → Value) (lt : α → α → Bool) (g : Nat) (lb : Array Value) (sf : Nat) (sb : Array Value) (blk off : Nat) (d : Array α) (w00 w : World) (h00 : SW enc w00 blk off d w) (hblk0 : blk < w00.heap.size)
    (eg : ∀ args w, (callFunc g args).run Tryz.prog w = .ok (.enter g args) w) (hless : Less2 Tryz.prog g lb enc lt blk off d.size w00) (hswap : SwapSwaps Tryz.prog sf sb enc blk off d.size)
    (hH : Holds enc w blk off d) (hsz : d.size < 20) :
    Calls Tryz.prog 69 #[.agg #[.func (.func g) #[] lb, .func (.func sf) #[] sb], .int .i64 d.size] w fun e w' =>
      e = .returned (.tuple #[]) ∧ SW enc w00 blk off (Sort.insertionSort lt d 0 d.size) w' := by
  have hc := ins_walk enc lt g lb sf sb blk off d w00 _ (h00.alloc (.cells #[.func (.func g) #[] lb, .func (.func sf) #[] sb] 84)) hblk0 eg hless hswap (by rw [alloc_eq_grow]; exact holds_grow enc w _ blk off d (h00.lt hblk0) hH) (by omega)
  clear hless hswap hH h00
  go_enter Tryz.func69, Tryz.ntmps69
  go_wp2
  refine wp_loop_rounds 1 ?_
  rw [rounds_succ]
  go_wp2_with (go_at_call 91; refine hc.mono ?_; rintro e w1 ⟨rfl, h1⟩)
  refine wp_loop_rounds 1 ?_
  rw [rounds_succ]
  go_wp2
  all_goals first | (exfalso; omega) | (go_end0; exact ⟨rfl, h1⟩)

noncomputable def siT : TypeInfo := (Tryz.prog.info? 24).get (by kernel_rfl)
noncomputable def siE : TypeInfo := (Tryz.prog.info? 3).get (by kernel_rfl)
theorem siK (n : Nat) (h2 : 2 ≤ n) : Lib.swapperK n siE 2 = 5 := by
  have a : siE.hasPointers = false := by kernel_rfl
  have b : siE.bytes = 8 := by kernel_rfl
  have c : (n == 0) = false := by simp; omega
  have d : (n == 1) = false := by simp; omega
  simp [Lib.swapperK, a, b, c, d]

set_option maxRecDepth 1000000 in
theorem slice_walk {α : Type} [Inhabited α] (enc : α → Value) (h1 : ∀ x, (enc x).oneCell' = true) (lt : α → α → Bool) (g : Nat) (lb : Array Value) (blk off c : Nat) (d : Array α) (w : World) (hblk : blk < w.heap.size)
    (eg : ∀ args w, (callFunc g args).run Tryz.prog w = .ok (.enter g args) w) (hless : Less2 Tryz.prog g lb enc lt blk off d.size w)
    (hH : Holds enc w blk off d) (h2 : 2 ≤ d.size) (hsz : d.size < 20) :
    Calls Tryz.prog 62 #[.iface 24 (.slice (some ⟨blk, off, none⟩) d.size c), .func (.func g) #[] lb] w fun e w' =>
      e = .returned (.tuple #[]) ∧ SW enc w blk off (Sort.insertionSort lt d 0 d.size) w' := by
  refine Any.sort_SliceStable_of_stable Tryz.laysGt8 24 3 siT siE (by kernel_rfl) (by kernel_rfl) (by kernel_rfl) (by kernel_rfl) 2 (fun _ => by kernel_rfl) (some ⟨blk, off, none⟩) d.size c (by omega) 86 (by rw [siK _ h2]; kernel_rfl) (.func g) #[] lb w _ ?_
  have hB : sliceBound Tryz.prog 3 siE 2 (some ⟨blk, off, none⟩) d.size c = #[.slice (some ⟨blk, off, none⟩) d.size c, typeHandle Tryz.prog 3] := by
    unfold sliceBound; rw [if_neg (swapperK_gt _ _ _ h2)]
  rw [hB]
  have h00 : SW enc w blk off d (stableWorld Tryz.prog Tryz.laysGt8_ren 24 (some ⟨blk, off, none⟩) d.size c w) := ((SW.start hH).alloc _).alloc _
  exact stable_walk enc lt g lb 86 _ blk off d w _ h00 hblk eg hless
    (swapSwaps_of_literal true _ (fun args W => run_callFunc_extern Tryz.func86 (by kernel_rfl) (by kernel_rfl) (by kernel_rfl) (e := Extern.ReflectliteSwapper.swap true) (by kernel_rfl) args W) 3 siE (by kernel_rfl) (by kernel_rfl) (fun _ => by kernel_rfl) enc h1 blk off d.size c)
    (h00.holds hblk hH rfl) hsz

set_option maxRecDepth 1000000 in
theorem slice_tiny (g : Nat) (lb : Array Value) (p : Option Addr) (n c : Nat) (hn : n ≤ 1) (w : World) :
    Calls Tryz.prog 62 #[.iface 24 (.slice p n c), .func (.func g) #[] lb] w fun e w' => e = .returned (.tuple #[]) ∧ ∃ os, w' = grow w os := by
  have hn2 : n = 0 ∨ n = 1 := by omega
  rcases hn2 with rfl | rfl
  · exact Any.sort_SliceStable_tiny Tryz.laysGt8 24 3 siT siE (by kernel_rfl) (by kernel_rfl) (by kernel_rfl) (by kernel_rfl) 2 (fun _ => by kernel_rfl) p 0 c hn 82 (by kernel_rfl) (.func g) #[] lb w
  · exact Any.sort_SliceStable_tiny Tryz.laysGt8 24 3 siT siE (by kernel_rfl) (by kernel_rfl) (by kernel_rfl) (by kernel_rfl) 2 (fun _ => by kernel_rfl) p 1 c hn 83 (by kernel_rfl) (.func g) #[] lb w
end Go.Proofs.YtaphcpfkgpaefaaGreat
/-
  The closures that order orders: walked by hand.
-/
namespace Go.Proofs.YtaphcpfkgpaefaaGreat
open Go Go.Proofs Go.V Go.RowKit Go.Sort
set_option linter.unusedSimpArgs false

abbrev odV (x : Od) : Value := .agg #[.int .i64 x.1, .int .i64 x.2.1, .int .i64 x.2.2.1, .int .i64 x.2.2.2]
def dueLt (a b : Od) : Bool := decide (a.2.2.2 < b.2.2.2)
def fstLt (a b : Od) : Bool :=
  if decide (a.2.1 < a.2.2.1) != decide (b.2.1 < b.2.2.1) then decide (a.2.1 < a.2.2.1)
  else if decide (a.2.1 < a.2.2.1) = true then decide (a.2.1 < b.2.1) else decide (b.2.2.1 < a.2.2.1)
/-- What a less of orders does. -/
def LessO (gl : Nat) (lt : Od → Od → Bool) : Prop :=
  (∀ args w, (callFunc gl args).run Tryz.prog w = .ok (.enter gl args) w) ∧
  ∀ (a b : Od) (W : World), Calls Tryz.prog gl #[odV a, odV b] W fun e w' => e = .returned (.bool (lt a b)) ∧ ∃ q os, w' = grow (W.drewN q) os

theorem grow2 (W : World) (a b : Obj) : (W.alloc a).alloc b = grow (W.drewN 0) #[a, b] := by
  rw [alloc_eq_grow, alloc_eq_grow, grow_grow]
  rfl
theorem grow2q (W : World) (a b : Obj) (q : Nat) : ((W.alloc a).alloc b).drewN q = grow (W.drewN q) #[a, b] := by
  rw [alloc_eq_grow, alloc_eq_grow, grow_grow]
  rfl
set_option maxHeartbeats 2000000 in
set_option maxRecDepth 1000000 in
theorem due_walk : LessO 52 dueLt := by
  refine ⟨Go.Proofs.enters_of Tryz.func52 (by kernel_rfl) rfl, fun a b W => ?_⟩
  go_enter Tryz.func52, Tryz.ntmps52
  go_wp2
  go_ret
  exact ⟨rfl, 0, _, grow2 W _ _⟩

set_option maxHeartbeats 1000000 in
set_option maxRecDepth 1000000 in
theorem lessq_walk {gl : Nat} {lt : Od → Od → Bool} (hl : LessO gl lt) (i j : Nat) (x y : Nat) (a b : Od) (Bl Bo Bs bo oo co n g og cg ng : Nat) (W : World)
    (h1 : W.cell? ⟨Bl, 0, none⟩ = some (.func (.func gl) #[] #[])) (h2 : W.cell? ⟨Bo, 0, none⟩ = some (.slice (some ⟨bo, oo, none⟩) n co)) (h3 : W.cell? ⟨Bs, 0, none⟩ = some (.slice (some ⟨g, og, none⟩) ng cg))
    (hi : i < ng) (hj : j < ng) (hx : x < n) (hy : y < n)
    (c1 : W.cell? ⟨g, og + i, none⟩ = some (.int .i64 x)) (c2 : W.cell? ⟨g, og + j, none⟩ = some (.int .i64 y))
    (d0 : W.cell? ⟨bo, oo + x * 4, none⟩ = some (.int .i64 a.1)) (d1 : W.cell? ⟨bo, oo + x * 4 + 1, none⟩ = some (.int .i64 a.2.1)) (d2 : W.cell? ⟨bo, oo + x * 4 + 2, none⟩ = some (.int .i64 a.2.2.1)) (d3 : W.cell? ⟨bo, oo + x * 4 + 3, none⟩ = some (.int .i64 a.2.2.2))
    (e0 : W.cell? ⟨bo, oo + y * 4, none⟩ = some (.int .i64 b.1)) (e1 : W.cell? ⟨bo, oo + y * 4 + 1, none⟩ = some (.int .i64 b.2.1)) (e2 : W.cell? ⟨bo, oo + y * 4 + 2, none⟩ = some (.int .i64 b.2.2.1)) (e3 : W.cell? ⟨bo, oo + y * 4 + 3, none⟩ = some (.int .i64 b.2.2.2)) :
    Calls Tryz.prog 63 (#[.int .i64 i, .int .i64 j] ++ #[.pointer (some ⟨Bl, 0, none⟩), .pointer (some ⟨Bo, 0, none⟩), .pointer (some ⟨Bs, 0, none⟩)]) W fun e w' => e = .returned (.bool (lt a b)) ∧ ∃ q os, w' = grow (W.drewN q) os := by
  obtain ⟨eg, hc⟩ := hl
  go_enter Tryz.func63, Tryz.ntmps63
  go_wp2
  go_still_tail 15, (by kernel_rfl)
  change wpList _ _ _ _ _ (W.drewN 1)
  go_wp2_with (go_at_fn gl; refine (hc a b (W.drewN 1)).mono ?_; rintro e w' ⟨rfl, q, os, rfl⟩)
  go_ret
  exact ⟨rfl, 1 + q, os, rfl⟩
end Go.Proofs.YtaphcpfkgpaefaaGreat
/-
  impl.sequenceOf: walked by hand.
-/
namespace Go.Proofs.YtaphcpfkgpaefaaGreat
open Go Go.Proofs Go.V Go.RowKit Go.Sort
set_option linter.unusedSimpArgs false

def cellsO (x : Od) : List Value := [.int .i64 x.1, .int .i64 x.2.1, .int .i64 x.2.2.1, .int .i64 x.2.2.2]
/-- The indices of a list. -/
def idxL (n : Nat) : List Int := (List.range n).map fun (i : Nat) => (i : Int)
theorem idxL_succ (n : Nat) : idxL (n + 1) = idxL n ++ [(n : Int)] := by simp [idxL, List.range_succ]
theorem idxL_length (n : Nat) : (idxL n).length = n := by simp [idxL]
/-- The order at an index, and how an index lies in memory. -/
def oN (l : List Od) (x : Nat) : Od := l.getD (x % l.length) (0, 0, 0, 0)
def encN (n : Nat) (x : Nat) : Value := .int .i64 ((x % n : Nat) : Int)
def ltN (l : List Od) (lt : Od → Od → Bool) (x y : Nat) : Bool := lt (oN l x) (oN l y)
/-- The indices of orders, sorted. -/
def sortN (l : List Od) (lt : Od → Od → Bool) : Array Nat := Sort.insertionSort (ltN l lt) (List.range l.length).toArray 0 l.length
theorem size_insInner {α : Type} [Inhabited α] (lt : α → α → Bool) (a : Nat) : ∀ (j : Nat) (d : Array α), (insInner lt a j d).size = d.size
  | 0, d => by rw [insInner]
  | j + 1, d => by
    rw [insInner]
    split
    · rw [size_insInner lt a j, size_swp]
    · rfl
theorem size_insOuter {α : Type} [Inhabited α] (lt : α → α → Bool) (a b : Nat) : ∀ (k i : Nat) (d : Array α), b - i = k → (insOuter lt a b i d).size = d.size
  | 0, i, d, h => by rw [insOuter_stop lt a b i d (by omega)]
  | k + 1, i, d, h => by rw [insOuter_go lt a b i d (by omega), size_insOuter lt a b k (i + 1) _ (by omega), size_insInner]
theorem size_sortN (l : List Od) (lt : Od → Od → Bool) : (sortN l lt).size = l.length := by
  unfold sortN Sort.insertionSort
  rw [size_insOuter _ _ _ _ _ _ rfl]
  simp
section
variable {α : Type} [Inhabited α] {enc : α → Value} {w0 W : World} {g off : Nat} {dk : Array α}
theorem sw_block (h : SW enc w0 g 0 dk W) {cur : Array Value} {t : Nat} (hg : w0.heap[g]? = some (.cells cur t (0, 0))) (hs : dk.size ≤ cur.size) :
    ∃ cur', W.heap[g]? = some (.cells cur' t (0, 0)) ∧ cur'.size = cur.size ∧ ∀ (i : Nat) (u : Value), (dk.toList.map enc)[i]? = some u → cur'[i]? = some u := by
  obtain ⟨n, os, rfl⟩ := h
  have hb : g < w0.heap.size := (Array.getElem?_eq_some_iff.1 hg).1
  refine ⟨Go.Sort.putCells enc 0 dk cur, ?_, by simp [Go.Sort.putCells], fun i u hu => ?_⟩
  · unfold sortWorld
    rw [heap_grow_old _ _ (by rw [size_putRow]; exact hb)]
    unfold putRow mapBlock
    show (w0.heap.modify g _)[g]? = _
    rw [Array.getElem?_modify, if_pos rfl, hg]
    rfl
  · simp only [List.getElem?_map, Option.map_eq_some_iff] at hu
    obtain ⟨x, hx, rfl⟩ := hu
    rw [Array.getElem?_toList] at hx
    obtain ⟨hi, hx⟩ := Array.getElem?_eq_some_iff.1 hx
    have hic : i < cur.size := by omega
    unfold Go.Sort.putCells
    rw [Array.getElem?_mapIdx, Array.getElem?_eq_getElem hic]
    simp [hi, hx]
theorem sw_below (h : SW enc w0 g off dk W) {B : Nat} (hB : B ≤ g) (hs : B ≤ w0.heap.size) : Below B w0 W := by
  have hle := h.le
  obtain ⟨n, os, rfl⟩ := h
  refine ⟨rfl, rfl, rfl, hle, fun k hk => ?_⟩
  unfold sortWorld
  rw [heap_grow_old _ _ (by rw [size_putRow]; show k < w0.heap.size; omega)]
  unfold putRow mapBlock
  show (w0.heap.modify g _)[k]? = _
  rw [Array.getElem?_modify, if_neg (by omega)]
end
theorem info3 : (Tryz.prog.info? 3).map (fun i => (i.zero, i.size, i.bytes)) = some (some (.int .i64 0), 1, 8) := by kernel_rfl

theorem grown_set (w : World) (b : Nat) (v : Value) : w.grownBy (w.setCell ⟨b, 0, none⟩ v) (some b) :=
  ⟨rfl, rfl, rfl, by simp [World.setCell], fun k _ h => heap_setCell_other w ⟨b, 0, none⟩ k v (fun e => h (by rw [e]))⟩
theorem row_ne_box {w : World} {base e size n t b : Nat} {v x : Value} {xs : List Value} (h : w.ownsRow base e size v n xs) (hb : w.heap[b]? = some (.cells #[x] t (0, 0))) (ht : t ≠ e) : v.ownBlock ≠ some b := by
  obtain ⟨_, ⟨rfl, _⟩ | ⟨g, cap, cur, rfl, _, hg, _⟩⟩ := h
  · simp [Value.ownBlock]
  · intro e
    simp only [Value.ownBlock, Option.some.injEq] at e
    rw [e, hb] at hg
    simp only [Option.some.injEq, Obj.cells.injEq] at hg
    exact ht hg.2.1
theorem box_kept {wr w2 : World} {o : Obj} {b t : Nat} {v x : Value} (q : wr.heap[b]? = some (.cells #[x] t (0, 0))) (hg : (wr.alloc o).grownBy w2 v.ownBlock) (hn : v.ownBlock ≠ some b) : w2.heap[b]? = some (.cells #[x] t (0, 0)) := by
  have hb : b < wr.heap.size := (Array.getElem?_eq_some_iff.1 q).1
  have h1 : (wr.alloc o).heap[b]? = wr.heap[b]? := (World.grownBy_alloc wr o none).block b hb (by simp)
  exact (hg.block b (Nat.lt_of_lt_of_le hb (World.grownBy_alloc wr o none).size) (fun e => hn e.symm)).trans (h1.trans q)
theorem box_cell {w : World} {b t : Nat} {x : Value} (q : w.heap[b]? = some (.cells #[x] t (0, 0))) : w.cell? ⟨b, 0, none⟩ = some x ∧ w.frozen? ⟨b, 0, none⟩ = false :=
  ⟨by rw [Lib.cell_of_heap q]; rfl, Lib.frozen_of_heap q 0⟩
theorem row_slice {w : World} {base e size n : Nat} {v : Value} {xs : List Value} (h : w.ownsRow base e size v (n + 1) xs) : ∃ g cap, v = .slice (some ⟨g, 0, none⟩) (n + 1) cap := by
  obtain ⟨_, ⟨rfl, h⟩ | ⟨g, cap, cur, rfl, _⟩⟩ := h
  · cases h
  · exact ⟨g, cap, rfl⟩
theorem below_grow (w : World) (os : Array Obj) {B : Nat} (hs : B ≤ w.heap.size) : Below B w (grow w os) :=
  ⟨rfl, rfl, rfl, by rw [size_grow]; omega, fun k hk => heap_grow_old w os (by omega)⟩
theorem cellsO_at {w : World} {b o : Nat} {x : Od} (h : CellsAt w b o (cellsO x)) : w.cell? ⟨b, o, none⟩ = some (.int .i64 x.1) ∧ w.cell? ⟨b, o + 1, none⟩ = some (.int .i64 x.2.1) ∧ w.cell? ⟨b, o + 2, none⟩ = some (.int .i64 x.2.2.1) ∧ w.cell? ⟨b, o + 3, none⟩ = some (.int .i64 x.2.2.2) :=
  ⟨h 0 _ rfl, h 1 _ rfl, h 2 _ rfl, h 3 _ rfl⟩

set_option maxHeartbeats 1000000 in
/-- The sort's call. -/
theorem seq_sort {gl : Nat} {lt : Od → Od → Bool} (hl : LessO gl lt) (l : List Od) (hlen : l.length ≤ 8) (A : Option Addr) (c B N0 N1 N3 g cap : Nat) (w : World) (cur : Array Value)
    (hA : l ≠ [] → ∃ b o, A = some ⟨b, o, none⟩ ∧ b < w.heap.size ∧ b ≠ g ∧ ∀ (i : Nat) (x : Od), l[i]? = some x → CellsAt w b (o + i * 4) (cellsO x))
    (q0 : w.heap[N0]? = some (.cells #[.slice A l.length c] 23 (0, 0))) (q1 : w.heap[N1]? = some (.cells #[.func (.func gl) #[] #[]] 66 (0, 0)))
    (q3 : w.heap[N3]? = some (.cells #[.slice (some ⟨g, 0, none⟩) l.length cap] 24 (0, 0))) (hg : w.heap[g]? = some (.cells cur 3 (0, 0))) (hB : B ≤ g) (hBw : B ≤ w.heap.size) (hcur : l.length ≤ cur.size)
    (hrow : ∀ (i : Nat), i < l.length → cur[i]? = some (.int .i64 i)) :
    Calls Tryz.prog 62 #[.iface 24 (.slice (some ⟨g, 0, none⟩) l.length cap), .func (.func 63) #[] #[.pointer (some ⟨N1, 0, none⟩), .pointer (some ⟨N0, 0, none⟩), .pointer (some ⟨N3, 0, none⟩)]] w fun e w' =>
      e = .returned (.tuple #[]) ∧ Below B w w' ∧ w'.cell? ⟨N3, 0, none⟩ = some (.slice (some ⟨g, 0, none⟩) l.length cap) ∧
        ∃ cur', w'.heap[g]? = some (.cells cur' 3 (0, 0)) ∧ cur'.size = cur.size ∧ ∀ (i : Nat) (u : Value), ((sortN l lt).toList.map (encN l.length))[i]? = some u → cur'[i]? = some u := by
  have hgl : g < w.heap.size := (Array.getElem?_eq_some_iff.1 hg).1
  have hn0 : N0 ≠ g := fun e => by rw [e, hg] at q0; simp at q0
  have hn1 : N1 ≠ g := fun e => by rw [e, hg] at q1; simp at q1
  have hn3 : N3 ≠ g := fun e => by rw [e, hg] at q3; simp at q3
  by_cases h2 : 2 ≤ l.length
  · obtain ⟨b, o, rfl, hb, hbg, hcells⟩ := hA (fun e => by rw [e] at h2; simp at h2)
    have hsz : (List.range l.length).toArray.size = l.length := by simp
    have hH : Holds (encN l.length) w g 0 (List.range l.length).toArray := fun j hj => by
      rw [hsz] at hj
      refine ⟨?_, Lib.frozen_of_heap hg _⟩
      rw [Lib.cell_of_heap hg, Nat.zero_add, hrow j hj]
      rw [getElem!_pos _ j (by rw [hsz]; exact hj)]
      simp [encN, Nat.mod_eq_of_lt hj]
    have hless : Less2 Tryz.prog 63 #[.pointer (some ⟨N1, 0, none⟩), .pointer (some ⟨N0, 0, none⟩), .pointer (some ⟨N3, 0, none⟩)] (encN l.length) (ltN l lt) g 0 (List.range l.length).toArray.size w := by
      intro dk W hs hsw i j hi hj
      rw [hsz] at hs hi hj
      have hx : dk[i]! % l.length < l.length := Nat.mod_lt _ (by omega)
      have hy : dk[j]! % l.length < l.length := Nat.mod_lt _ (by omega)
      have k0 := (sw_cell hsw hn0 (Array.getElem?_eq_some_iff.1 q0).1).trans (box_cell q0).1
      have k1 := (sw_cell hsw hn1 (Array.getElem?_eq_some_iff.1 q1).1).trans (box_cell q1).1
      have k3 := (sw_cell hsw hn3 (Array.getElem?_eq_some_iff.1 q3).1).trans (box_cell q3).1
      have hold := hsw.holds hgl hH (by rw [hsz, hs])
      have hat : ∀ y, y < l.length → CellsAt W b (o + y * 4) (cellsO (l.getD y (0, 0, 0, 0))) := fun y hy t u hu => by
        have := hcells y _ (by rw [List.getD_eq_getElem?_getD, List.getElem?_eq_getElem hy]; rfl) t u hu
        rw [← this]
        exact sw_cell hsw hbg hb
      obtain ⟨d0, d1, d2, d3⟩ := cellsO_at (hat _ hx)
      obtain ⟨e0, e1, e2, e3⟩ := cellsO_at (hat _ hy)
      exact lessq_walk hl i j _ _ _ _ N1 N0 N3 b o c l.length g 0 cap l.length W k1 k0 k3 hi hj hx hy (hold i (by omega)).1 (hold j (by omega)).1 d0 d1 d2 d3 e0 e1 e2 e3
    have hc := slice_walk (encN l.length) (fun _ => rfl) (ltN l lt) 63 #[.pointer (some ⟨N1, 0, none⟩), .pointer (some ⟨N0, 0, none⟩), .pointer (some ⟨N3, 0, none⟩)] g 0 cap (List.range l.length).toArray w hgl
      (Go.Proofs.enters_of Tryz.func63 (by kernel_rfl) rfl) hless hH (by rw [hsz]; exact h2) (by rw [hsz]; omega)
    rw [hsz] at hc
    refine hc.mono ?_
    rintro e w' ⟨rfl, hsw⟩
    refine ⟨rfl, sw_below hsw hB hBw, (sw_cell hsw hn3 (Array.getElem?_eq_some_iff.1 q3).1).trans (box_cell q3).1, ?_⟩
    exact sw_block hsw hg (by have := size_sortN l lt; unfold sortN at this; omega)
  · refine (slice_tiny 63 _ (some ⟨g, 0, none⟩) l.length cap (by omega) w).mono ?_
    rintro e w' ⟨rfl, os, rfl⟩
    refine ⟨rfl, below_grow w os hBw, (cell?_grow _ _ _ (Array.getElem?_eq_some_iff.1 q3).1).trans (box_cell q3).1, cur, (heap_grow_old _ _ hgl).trans hg, rfl, fun i u hu => ?_⟩
    have he : sortN l lt = (List.range l.length).toArray := by
      unfold sortN Sort.insertionSort
      rw [insOuter_stop _ _ _ _ _ (by omega)]
    rw [he] at hu
    simp only [List.getElem?_map, Option.map_eq_some_iff] at hu
    obtain ⟨x, hx, rfl⟩ := hu
    obtain ⟨hi, rfl⟩ := List.getElem?_eq_some_iff.1 hx
    have hi' : i < l.length := by simpa using hi
    rw [hrow i hi']
    simp [encN, Nat.mod_eq_of_lt hi']

theorem at_alloc {w : World} (o : Obj) {n : Nat} (h : n = w.heap.size) : (w.alloc o).heap[n]? = some o := by
  subst h
  exact Array.getElem?_push_size
theorem past_alloc {w : World} (o : Obj) {n : Nat} {x : Obj} (h : w.heap[n]? = some x) : (w.alloc o).heap[n]? = some x :=
  ((World.grownBy_alloc w o none).block n (Array.getElem?_eq_some_iff.1 h).1 (by simp)).trans h
set_option maxHeartbeats 2000000 in
set_option maxRecDepth 1000000 in
theorem seq_walk {gl : Nat} {lt : Od → Od → Bool} (hl : LessO gl lt) (l : List Od) (hlen : l.length ≤ 8) (A : Option Addr) (c : Nat) (w : World)
    (hA : l ≠ [] → ∃ b o, A = some ⟨b, o, none⟩ ∧ b < w.heap.size ∧ ∀ (i : Nat) (x : Od), l[i]? = some x → CellsAt w b (o + i * 4) (cellsO x)) :
    Calls Tryz.prog 51 #[.slice A l.length c, .func (.func gl) #[] #[]] w fun e w' => ∃ g cap cur, e = .returned (.slice (some ⟨g, 0, none⟩) l.length cap) ∧ Below w.heap.size w w' ∧ w.heap.size ≤ g ∧
      w'.heap[g]? = some (.cells cur 3 (0, 0)) ∧ l.length ≤ cap ∧ cap ≤ cur.size ∧ ∀ (i : Nat) (u : Value), ((sortN l lt).toList.map (encN l.length))[i]? = some u → cur[i]? = some u := by
  obtain ⟨i0, hi, hz0, hz1, hz2⟩ := info_parts info3
  go_enter Tryz.func51, Tryz.ntmps51
  go_wp2
  go_loopw [10] (fun vi wr => ∃ (k g cap : Nat), vi = .int .i64 k ∧ k ≤ l.length ∧ wr.heap[w.heap.size]? = some (.cells #[.slice A l.length c] 23 (0, 0)) ∧ wr.heap[w.heap.size + 1]? = some (.cells #[.func (.func gl) #[] #[]] 66 (0, 0)) ∧
      wr.heap[w.heap.size + 1 + 1 + 1]? = some (.cells #[.slice (some ⟨g, 0, none⟩) k cap] 24 (0, 0)) ∧ wr.ownsRow (w.heap.size + 1 + 1) 3 1 (.slice (some ⟨g, 0, none⟩) k cap) k ((idxL k).map (Value.int .i64)) ∧ Below w.heap.size w wr ∧ w.heap.size + 4 ≤ wr.heap.size) (fun vi _ => l.length - (intOf vi).toNat)
  case atStart =>
    refine ⟨0, w.heap.size + 1 + 1, 0, rfl, Nat.zero_le _, ?_, ?_, ?_, ⟨rfl, .inr ⟨_, 0, #[], rfl, Nat.le_refl _, ?_, Nat.le_refl _, Nat.zero_le _, rfl, rfl⟩⟩, ((((Below.refl _ w).alloc (Nat.le_refl _) _).alloc (by simp) _).alloc (by simp; omega) _).alloc (by simp; omega) _, by simp⟩
    · exact past_alloc _ (past_alloc _ (past_alloc _ (at_alloc _ rfl)))
    · exact past_alloc _ (past_alloc _ (at_alloc _ (by simp)))
    · exact at_alloc _ (by simp)
    · exact past_alloc _ (at_alloc _ (by simp))
  case round =>
    obtain ⟨k, g, cap, rfl, hk, q0, q1, q3, hrow, hbw, hsz⟩ := hrel
    by_cases hp : k < l.length
    · have hpi : (k : Int) < (l.length : Int) := by omega
      obtain ⟨s0, s00⟩ := box_cell q3
      have hnb := row_ne_box hrow q3 (by decide)
      go_wp2_with (first
        | (at_builtin; refine wpList_append_own _ rfl _ _ 24 rfl (w.heap.size + 1 + 1) 3 i0 (.int .i64 0) 1 8 Tryz.underlying24 hi hz0 hz1 hz2 rfl (by decide) _ _ _ rfl (hrow.alloc _) ⟨wr.heap.size, 0, none⟩ 1 1 [.int .i64 k] rfl rfl (cell_one_new _ _ _) (by intro u hu; simp at hu; subst hu; rfl) (by unfold maxLen; omega) (by omega) (by simp; omega) ?_; intro v' w2 hown' hgrow hnil; obtain ⟨g', cap', rfl⟩ := row_slice hown'; have h3 := box_kept q3 hgrow hnb; obtain ⟨s1, s2⟩ := box_cell h3)
        | go_in)
      have h0 := box_kept q0 hgrow (row_ne_box hrow q0 (by decide))
      have h1 := box_kept q1 hgrow (row_ne_box hrow q1 (by decide))
      have hb1 : Below w.heap.size w w2 := (hbw.alloc hbw.size (.cells #[.int .i64 (k : Int)] 3)).grown hgrow (by simp; omega) (fun j hj => by have := (hrow.lt j hj).1; omega)
      refine ⟨⟨k + 1, g', cap', congrArg (Value.int .i64) (by omega), by omega, ?_, ?_, ?_, ?_, hb1.setCell (by simp; omega) _, ?_⟩, ?_⟩
      · rw [heap_setCell_other _ _ _ _ (by simp; omega)]
        exact h0
      · rw [heap_setCell_other _ _ _ _ (by simp)]
        exact h1
      · rw [heap_setCell_same _ _ _ _ _ _ h3]
        rfl
      · rw [idxL_succ, List.map_append]
        exact hown'.kept (grown_set _ _ _) (.inr (row_ne_box hown' h3 (by decide)))
      · have e1 := hgrow.size
        have e2 : (w2.setCell ⟨w.heap.size + 1 + 1 + 1, 0, none⟩ (Value.slice (some ⟨g', 0, none⟩) (k + 1) cap')).heap.size = w2.heap.size := by simp [World.setCell]
        simp at e1
        omega
      · show l.length - ((k : Int) + 1).toNat < l.length - (k : Int).toNat
        omega
    · have hpi : ¬ (k : Int) < (l.length : Int) := by omega
      have hkn : k = l.length := by omega
      subst hkn
      obtain ⟨hxs, ⟨hv, _⟩ | ⟨g2, cap2, cur, hv, hge, hg, hcap, _, hcs, htake⟩⟩ := hrow
      · cases hv
      cases hv
      have hwsz := hbw.size
      have hrow : ∀ (i : Nat), i < l.length → cur[i]? = some (.int .i64 i) := fun i hi => by
        have e : ((idxL l.length).map (Value.int .i64))[i]? = some (.int .i64 i) := by simp [idxL, hi]
        rw [← htake, List.getElem?_take_of_lt (by omega)] at e
        simpa using e
      have hs := seq_sort hl l hlen A c w.heap.size w.heap.size (w.heap.size + 1) (w.heap.size + 1 + 1 + 1) g cap wr cur (fun hne => by
        obtain ⟨b, o, h1, h2, h3⟩ := hA hne
        exact ⟨b, o, h1, by omega, by omega, fun i x hx t u hu => (hbw.cell (by exact h2)).trans (h3 i x hx t u hu)⟩) q0 q1 q3 hg (by omega) hwsz (by omega) hrow
      obtain ⟨s0, s00⟩ := box_cell q3
      go_wp2_with (go_at_call 62; refine hs.mono ?_; rintro e w' ⟨rfl, hB, hbox, hfin⟩)
      go_ret
      obtain ⟨cur', f1, f2, f3⟩ := hfin
      exact ⟨g, cap, cur', rfl, hbw.trans hB, by omega, f1, hcap, by omega, f3⟩
end Go.Proofs.YtaphcpfkgpaefaaGreat
