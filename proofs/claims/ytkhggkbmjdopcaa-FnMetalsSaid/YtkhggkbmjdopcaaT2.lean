/-
  What the functions compute: their evaluated texts, printed.
-/
import Derived.Test.YtkhggkbmjdopcaaC1
namespace Go.Proofs.Ytkhggkbmjdopcaa
open Go Go.V
theorem t_laws_big (x0 x1 : D) : F_laws_big [x0, x1] =
  ((lenD false x0).bind fun z => (bin BinOp.gtr false [] z (D.v (Value.int IntKind.i64 1048576))).bind fun z => (gate (D.tup []) z false (some x1)).bind fun z_1 => (gate (D.tup []) z false (lenD false z_1)).bind fun z_2 =>
 (gate (D.tup []) z false (some x0)).bind fun z_3 => (gate (D.tup []) z false (lenD false z_3)).bind fun z_4 => (gate (D.tup []) z false (bin BinOp.sub false [] (D.v (Value.int IntKind.i64 1048576)) z_4)).bind fun z_5 =>
 (gate (D.tup []) z false (bin BinOp.gtr false [] z_2 z_5)).bind fun z_6 => (pickD z (D.v (Value.bool true)) z_6).bind fun z => some (Out.ret [z] [])) := by kernel_rfl
theorem t_spec_l1Cur_next (x0 : D) : F_spec_l1Cur_next [x0] =
  ((liveD x0 (D.ref 0 0)).bind fun z => (liveD z z).bind fun z => (refAdd 1 z).bind fun z => (((atD x0 z).bind (takeD false 1)).bind chkV).bind fun z => (liveD x0 (D.ref 0 0)).bind fun z_1 => (liveD z_1 z_1).bind fun z_2 =>
 (refAdd 0 z_2).bind fun z_3 => ((atD x0 z_3).bind (takeD false 1)).bind fun z_4 => (lenD false z_4).bind fun z_5 => (bin BinOp.lss false [] z z_5).bind fun z => ifD z ((liveD x0 (D.ref 0 0)).bind fun z =>
 (liveD z z).bind fun z => (refAdd 0 z).bind fun z => ((atD x0 z).bind (takeD false 1)).bind fun z => (liveD x0 (D.ref 0 0)).bind fun z_6 => (liveD z_6 z_6).bind fun z_7 => (refAdd 1 z_7).bind fun z_8 =>
 (((atD x0 z_8).bind (takeD false 1)).bind chkV).bind fun z_9 => (Option.map D.ptr (elemD 1 z z_9)).bind fun z => ((ldD false 1 z).bind chkV).bind fun z => (convD (some IntKind.i64) false z).bind fun z =>
 (liveD x0 (D.ref 0 0)).bind fun z_10 => (liveD z_10 z_10).bind fun z_11 => (refAdd 1 z_11).bind fun z_12 => (((atD x0 z_12).bind (takeD false 1)).bind chkV).bind fun z_13 =>
 (bin BinOp.add false [] z_13 (D.v (Value.int IntKind.i64 1))).bind fun z_14 => (liveD z_10 z_10).bind fun z_15 => (refAdd 1 z_15).bind fun z_16 => (stD 1 x0 z_16 z_14).bind fun b => (liveD b (D.ref 0 0)).bind fun z_17 =>
 (liveD b (D.ref 0 0)).bind fun z_18 => (liveD z_18 z_18).bind fun z_19 => (refAdd 2 z_19).bind fun z_20 => (((atD b z_20).bind (takeD false 1)).bind chkV).bind fun z_21 => (bin BinOp.mul false [] z_21 (D.v
 (Value.int IntKind.u64 6364136223846793005))).bind fun z_22 => (convD (some IntKind.u64) false z).bind fun z_23 => (bin BinOp.add false [] z_22 z_23).bind fun z_24 => (bin BinOp.add false [] z_24 (D.v
 (Value.int IntKind.u64 1442695040888963407))).bind fun z_25 => (liveD z_17 z_17).bind fun z_26 => (refAdd 2 z_26).bind fun z_27 => (stD 1 b z_27 z_25).bind fun b => (liveD b (D.ref 0 0)).bind fun z_28 =>
 (liveD z_28 z_28).bind fun z_29 => (refAdd 1 z_29).bind fun z_30 => (((atD b z_30).bind (takeD false 1)).bind chkV).bind fun z_31 => (liveD b (D.ref 0 0)).bind fun z_32 => (liveD z_32 z_32).bind fun z_33 =>
 (refAdd 0 z_33).bind fun z_34 => ((atD b z_34).bind (takeD false 1)).bind fun z_35 => (lenD false z_35).bind fun z_36 => (bin BinOp.leq false [] z_31 z_36).bind fun z_37 => ifD z_37 ((liveD b b).bind fun _u => some
 (Out.ret [z] [b])) ((liveD b (D.ref 0 0)).bind fun z => (liveD z z).bind fun z => (refAdd 2 z).bind fun z => (((atD b z).bind (takeD false 1)).bind chkV).bind fun z => (bin BinOp.shr false [] z (D.v (Value.int IntKind.u64
 40))).bind fun z => (bin BinOp.and false [] z (D.v (Value.int IntKind.u64 255))).bind fun z => (convD (some IntKind.i64) false z).bind fun z => (liveD b b).bind fun _u => some (Out.ret [z] [b])))
 ((liveD x0 (D.ref 0 0)).bind fun z => (liveD z z).bind fun z_6 => (refAdd 1 z_6).bind fun z_7 => (((atD x0 z_7).bind (takeD false 1)).bind chkV).bind fun z_8 =>
 (bin BinOp.add false [] z_8 (D.v (Value.int IntKind.i64 1))).bind fun z_9 => (liveD z z).bind fun z => (refAdd 1 z).bind fun z => (stD 1 x0 z z_9).bind fun b => (liveD b (D.ref 0 0)).bind fun z =>
 (liveD b (D.ref 0 0)).bind fun z_10 => (liveD z_10 z_10).bind fun z_11 => (refAdd 2 z_11).bind fun z_12 => (((atD b z_12).bind (takeD false 1)).bind chkV).bind fun z_13 => (bin BinOp.mul false [] z_13
 (D.v (Value.int IntKind.u64 6364136223846793005))).bind fun z_14 => (convD (some IntKind.u64) false (D.v (Value.int IntKind.i64 0))).bind fun z_15 => (bin BinOp.add false [] z_14 z_15).bind fun z_16 =>
 (bin BinOp.add false [] z_16 (D.v (Value.int IntKind.u64 1442695040888963407))).bind fun z_17 => (liveD z z).bind fun z => (refAdd 2 z).bind fun z => (stD 1 b z z_17).bind fun b => (liveD b (D.ref 0 0)).bind fun z =>
 (liveD z z).bind fun z => (refAdd 1 z).bind fun z => (((atD b z).bind (takeD false 1)).bind chkV).bind fun z => (liveD b (D.ref 0 0)).bind fun z_18 => (liveD z_18 z_18).bind fun z_19 => (refAdd 0 z_19).bind fun z_20 =>
 ((atD b z_20).bind (takeD false 1)).bind fun z_21 => (lenD false z_21).bind fun z_22 => (bin BinOp.leq false [] z z_22).bind fun z => ifD z ((liveD b b).bind fun _u => some (Out.ret [D.v (Value.int IntKind.i64 0)] [b]))
 ((liveD b (D.ref 0 0)).bind fun z => (liveD z z).bind fun z => (refAdd 2 z).bind fun z => (((atD b z).bind (takeD false 1)).bind chkV).bind fun z => (bin BinOp.shr false [] z (D.v (Value.int IntKind.u64 40))).bind
 fun z => (bin BinOp.and false [] z (D.v (Value.int IntKind.u64 255))).bind fun z => (convD (some IntKind.i64) false z).bind fun z => (liveD b b).bind fun _u => some (Out.ret [z] [b])))) := by kernel_rfl
theorem t_spec_l1Cur_pick (x0 x1 : D) : F_spec_l1Cur_pick [x0, x1] =
  ((bin BinOp.leq false [] x1 (D.v (Value.int IntKind.i64 1))).bind fun z => ifD z ((liveD x0 x0).bind fun _u => some (Out.ret [D.v (Value.int IntKind.i64 0)] [x0])) ((liveD x0 (D.ref 0 0)).bind fun z =>
 (ref0 z x0).bind fun i => (liveD i i).bind fun i => callK (F_spec_l1Cur_next [i]) fun rs us => (bin BinOp.gtr false [] x1 (D.v (Value.int IntKind.i64 200))).bind fun z => ifD z
 ((bin BinOp.mul false [] (sl rs 0) (D.v (Value.int IntKind.i64 256))).bind fun z => (liveD (sl us 0) (D.ref 0 0)).bind fun z_1 => (ref0 z_1 (sl us 0)).bind fun i => (liveD i i).bind fun i =>
 callK (F_spec_l1Cur_next [i]) fun rs us => (bin BinOp.add false [] z (sl rs 0)).bind fun z => (bin BinOp.rem false [] z x1).bind fun z => (liveD (sl us 0) (sl us 0)).bind fun _u => some (Out.ret [z] [sl us 0]))
 ((bin BinOp.rem false [] (sl rs 0) x1).bind fun z => (liveD (sl us 0) (sl us 0)).bind fun _u => some (Out.ret [z] [sl us 0])))) := by kernel_rfl
theorem t_spec_l1Cur_one (x0 x1 : D) : F_spec_l1Cur_one [x0, x1] =
  ((liveD x0 (D.ref 0 0)).bind fun z => (ref0 z x0).bind fun i => (liveD i i).bind fun i => callK (F_spec_l1Cur_pick [i, x1]) fun rs us => (bin BinOp.eql false [] (sl rs 0) (D.v (Value.int IntKind.i64 0))).bind fun z =>
 (liveD (sl us 0) (sl us 0)).bind fun _u => some (Out.ret [z] [sl us 0])) := by kernel_rfl
theorem t_spec_l1Cur_among (x0 x1 : D) : F_spec_l1Cur_among [x0, x1] =
  ((liveD x0 (D.ref 0 0)).bind fun z => (lenD false x1).bind fun z_1 => (ref0 z x0).bind fun i => (liveD i i).bind fun i => callK (F_spec_l1Cur_pick [i, z_1]) fun rs us =>
 (Option.map D.ptr (elemD 1 x1 (sl rs 0))).bind fun z => ((ldD false 1 z).bind chkV).bind fun z => (liveD (sl us 0) (sl us 0)).bind fun _u => some (Out.ret [z] [sl us 0])) := by kernel_rfl
theorem t_spec_l1Cur_note (x0 x1 : D) : F_spec_l1Cur_note [x0, x1] =
  ((liveD x0 (D.ref 0 0)).bind fun z => (ref0 z x0).bind fun i => (liveD i i).bind fun i => callK (F_spec_l1Cur_pick [i, D.v (Value.int IntKind.i64 4)]) fun rs us => (liveD (sl us 0) (D.ref 0 0)).bind fun z =>
 (ref0 z (sl us 0)).bind fun i => (liveD i i).bind fun i => callK (F_spec_l1Cur_pick [i, D.v (Value.int IntKind.i64 500)]) fun rs_1 us => (bin BinOp.add false [] (D.v (Value.int IntKind.i64 1)) (sl rs_1 0)).bind fun z =>
 (bldD [(0, 1), (1, 1), (2, 1)] [D.v (Value.int IntKind.i64 0), D.v (Value.int IntKind.i64 0), D.v (Value.int IntKind.i64 0)] [x1, sl rs 0, z]).bind fun z => (stD 3 (D.agg
 [D.v (Value.int IntKind.i64 0), D.v (Value.int IntKind.i64 0), D.v (Value.int IntKind.i64 0)]) (D.ref 0 0) z).bind fun b => (liveD (sl us 0) (D.ref 0 0)).bind fun z => (ref0 z (sl us 0)).bind fun i =>
 (liveD i i).bind fun i => callK (F_spec_l1Cur_pick [i, D.v (Value.int IntKind.i64 60)]) fun rs us => (bin BinOp.eql false [] (sl rs 0) (D.v (Value.int IntKind.i64 0))).bind fun z => ifD z
 ((liveD (sl us 0) (D.ref 0 0)).bind fun z => (mkArr 1 [D.v (Value.int IntKind.i64 (-1)), D.v (Value.int IntKind.i64 9999), D.v (Value.int IntKind.i64 10000)]).bind fun a => (ref0 z (sl us 0)).bind fun i =>
 (liveD i i).bind fun i => callK (F_spec_l1Cur_among [i, a]) fun rs us => (liveD b (D.ref 0 0)).bind fun z => (stD 1 b z (sl rs 0)).bind fun b => (fldD true 3 0 b).bind fun z => (stD 3 (D.agg
 [D.v (Value.int IntKind.i64 0), D.v (Value.int IntKind.i64 0), D.v (Value.int IntKind.i64 0)]) (D.ref 0 0) z).bind fun b => (fldD true 3 0 b).bind fun y => (liveD (sl us 0) (sl us 0)).bind fun _u =>
 some (Out.ret [y] [sl us 0])) ((bin BinOp.eql false [] (sl rs 0) (D.v (Value.int IntKind.i64 1))).bind fun z => ifD z ((liveD (sl us 0) (D.ref 0 0)).bind fun z => (mkArr 1
 [D.v (Value.int IntKind.i64 (-1)), D.v (Value.int IntKind.i64 4)]).bind fun a => (ref0 z (sl us 0)).bind fun i => (liveD i i).bind fun i => callK (F_spec_l1Cur_among [i, a]) fun rs us =>
 (liveD b (D.ref 0 1)).bind fun z => (stD 1 b z (sl rs 0)).bind fun b => (fldD true 3 0 b).bind fun z => (stD 3 (D.agg [D.v (Value.int IntKind.i64 0), D.v (Value.int IntKind.i64 0), D.v (Value.int IntKind.i64 0)])
 (D.ref 0 0) z).bind fun b => (fldD true 3 0 b).bind fun y => (liveD (sl us 0) (sl us 0)).bind fun _u => some (Out.ret [y] [sl us 0])) ((bin BinOp.eql false [] (sl rs 0) (D.v (Value.int IntKind.i64 2))).bind fun z => ifD z
 ((liveD (sl us 0) (D.ref 0 0)).bind fun z => (mkArr 1 [D.v (Value.int IntKind.i64 0), D.v (Value.int IntKind.i64 99999), D.v (Value.int IntKind.i64 100000), D.v (Value.int IntKind.i64 (-9223372036854775808))]).bind
 fun a => (ref0 z (sl us 0)).bind fun i => (liveD i i).bind fun i => callK (F_spec_l1Cur_among [i, a]) fun rs us => (liveD b (D.ref 0 2)).bind fun z => (stD 1 b z (sl rs 0)).bind fun b => (fldD true 3 0 b).bind fun z =>
 (stD 3 (D.agg [D.v (Value.int IntKind.i64 0), D.v (Value.int IntKind.i64 0), D.v (Value.int IntKind.i64 0)]) (D.ref 0 0) z).bind fun b => (fldD true 3 0 b).bind fun y => (liveD (sl us 0) (sl us 0)).bind fun _u =>
 some (Out.ret [y] [sl us 0])) ((fldD true 3 0 b).bind fun z => (stD 3 (D.agg [D.v (Value.int IntKind.i64 0), D.v (Value.int IntKind.i64 0), D.v (Value.int IntKind.i64 0)]) (D.ref 0 0) z).bind fun b =>
 (fldD true 3 0 b).bind fun y => (liveD (sl us 0) (sl us 0)).bind fun _u => some (Out.ret [y] [sl us 0]))))) := by kernel_rfl
theorem t_spec_l1Cur_notes (x0 : D) : F_spec_l1Cur_notes [x0] =
  ((liveD x0 (D.ref 0 0)).bind fun z => (ref0 z x0).bind fun i => (liveD i i).bind fun i => callK (F_spec_l1Cur_pick [i, D.v (Value.int IntKind.i64 5)]) fun rs us => (liveD (sl us 0) (D.ref 0 0)).bind fun z =>
 (ref0 z (sl us 0)).bind fun i => (liveD i i).bind fun i => callK (F_spec_l1Cur_pick [i, D.v (Value.int IntKind.i64 6)]) fun rs_1 us => (liveD (sl us 0) (D.ref 0 0)).bind fun z => (ref0 z (sl us 0)).bind fun i =>
 (liveD i i).bind fun i => callK (F_spec_l1Cur_one [i, D.v (Value.int IntKind.i64 12)]) fun rs_2 us => ifD (sl rs_2 0) ((liveD (sl us 0) (D.ref 0 0)).bind fun z => (ref0 z (sl us 0)).bind fun i => (liveD i i).bind fun i =>
 callK (F_spec_l1Cur_pick [i, D.v (Value.int IntKind.i64 2)]) fun rs_3 us => (bin BinOp.add false [] (D.v (Value.int IntKind.i64 24)) (sl rs_3 0)).bind fun z => (loopC (fun s => (liveD (sl s 1) (D.ref 0 0)).bind fun z =>
 ((liveD z (sl s 1)).bind (lenD false)).bind fun z => (bin BinOp.lss false [] z (sl s 3)).bind fun z => ifD z ((liveD (sl s 0) (D.ref 0 0)).bind fun z => (ref0 z (sl s 0)).bind fun i => (liveD i i).bind fun i =>
 callK (F_spec_l1Cur_note [i, sl s 2]) fun rs us => (mkArr 3 [sl rs 0]).bind fun a => (chkA a).bind fun b => (appD 3 24 (sl s 1) b).bind fun y => (liveD (sl us 0) (D.ref 0 0)).bind fun z => (ref0 z (sl us 0)).bind fun i =>
 (liveD i i).bind fun i => callK (F_spec_l1Cur_pick [i, D.v (Value.int IntKind.i64 3)]) fun rs us => (bin BinOp.add false [] (sl s 2) (sl rs 0)).bind fun z => some (Out.nrm [sl us 0, y, z, sl s 3]))
 (some (Out.ext 0 [sl s 0, sl s 1, sl s 3]))) [sl us 0, D.arr 3 [], sl rs 0, z]).bind fun o => outK o (fun i s => ifN (i.beq 0) ((bin BinOp.gtr false [] (sl s 2) (D.v (Value.int IntKind.i64 1))).bind fun z =>
 (gate D.bad z true (liveD (sl s 0) (D.ref 0 0))).bind fun z_1 => gateC z true ((ref0 z_1 (sl s 0)).bind fun i => (liveD i i).bind fun i => callK (F_spec_l1Cur_one [i, D.v (Value.int IntKind.i64 16)])
 fun rs us => some (Out.nrm [sl rs 0, sl us 0])) [D.tup [], sl s 0] fun outs => (pickD z (sl outs 0) (D.v (Value.bool false))).bind fun z => ifD z ((liveD (sl s 1) (D.ref 0 0)).bind fun z =>
 (bin BinOp.sub false [] (sl s 2) (D.v (Value.int IntKind.i64 1))).bind fun z_2 => ((liveD z (sl s 1)).bind fun b => refI 3 b z_2).bind fun z => (refAdd 0 z).bind fun z =>
 (stD 1 (sl s 1) z (D.v (Value.int IntKind.i64 0))).bind fun b => (liveD (sl outs 1) (sl outs 1)).bind fun _u => some (Out.ret [b] [sl outs 1])) ((liveD (sl outs 1) (sl outs 1)).bind fun _u =>
 some (Out.ret [sl s 1] [sl outs 1]))) none) fun a b => some (Out.ret a b)) ((loopC (fun s => (liveD (sl s 1) (D.ref 0 0)).bind fun z => ((liveD z (sl s 1)).bind (lenD false)).bind fun z =>
 (bin BinOp.lss false [] z (sl s 3)).bind fun z => ifD z ((liveD (sl s 0) (D.ref 0 0)).bind fun z => (ref0 z (sl s 0)).bind fun i => (liveD i i).bind fun i => callK (F_spec_l1Cur_note [i, sl s 2]) fun rs us =>
 (mkArr 3 [sl rs 0]).bind fun a => (chkA a).bind fun b => (appD 3 24 (sl s 1) b).bind fun y => (liveD (sl us 0) (D.ref 0 0)).bind fun z => (ref0 z (sl us 0)).bind fun i => (liveD i i).bind fun i => callK
 (F_spec_l1Cur_pick [i, D.v (Value.int IntKind.i64 3)]) fun rs us => (bin BinOp.add false [] (sl s 2) (sl rs 0)).bind fun z => some (Out.nrm [sl us 0, y, z, sl s 3])) (some (Out.ext 0 [sl s 0, sl s 1, sl s 3])))
 [sl us 0, D.arr 3 [], sl rs 0, sl rs_1 0]).bind fun o => outK o (fun i s => ifN (i.beq 0) ((bin BinOp.gtr false [] (sl s 2) (D.v (Value.int IntKind.i64 1))).bind fun z =>
 (gate D.bad z true (liveD (sl s 0) (D.ref 0 0))).bind fun z_1 => gateC z true ((ref0 z_1 (sl s 0)).bind fun i => (liveD i i).bind fun i => callK (F_spec_l1Cur_one [i, D.v (Value.int IntKind.i64 16)]) fun rs us =>
 some (Out.nrm [sl rs 0, sl us 0])) [D.tup [], sl s 0] fun outs => (pickD z (sl outs 0) (D.v (Value.bool false))).bind fun z => ifD z ((liveD (sl s 1) (D.ref 0 0)).bind fun z =>
 (bin BinOp.sub false [] (sl s 2) (D.v (Value.int IntKind.i64 1))).bind fun z_2 => ((liveD z (sl s 1)).bind fun b => refI 3 b z_2).bind fun z => (refAdd 0 z).bind fun z =>
 (stD 1 (sl s 1) z (D.v (Value.int IntKind.i64 0))).bind fun b => (liveD (sl outs 1) (sl outs 1)).bind fun _u => some (Out.ret [b] [sl outs 1])) ((liveD (sl outs 1) (sl outs 1)).bind fun _u =>
 some (Out.ret [sl s 1] [sl outs 1]))) none) fun a b => some (Out.ret a b))) := by kernel_rfl
theorem t_spec_DrawLeastMetal (x0 : D) : F_spec_DrawLeastMetal [x0] =
  ((bldD [(0, 1)] [D.arr 1 [], D.v (Value.int IntKind.i64 0), D.v (Value.int IntKind.u64 0)] [x0]).bind fun z => (boxD 3 z).bind fun y => (liveD y (D.ref 0 0)).bind fun z => (liveD z z).bind fun z_1 =>
 (ref0 z_1 y).bind fun i => (liveD i i).bind fun i => callK (F_spec_l1Cur_notes [i]) fun rs us => (liveD z z).bind fun z_2 => (liveD z z).bind fun z => (mkArr 1
 [D.v (Value.int IntKind.i64 1000000), D.v (Value.int IntKind.i64 1000001), D.v (Value.int IntKind.i64 (-1))]).bind fun a => (ref0 z (sl us 0)).bind fun i => (liveD i i).bind fun i =>
 callK (F_spec_l1Cur_among [i, a]) fun rs_1 us => (mkArr 1 [D.v (Value.int IntKind.i64 0), D.v (Value.int IntKind.i64 100), D.v (Value.int IntKind.i64 500), sl rs_1 0]).bind fun a => (ref0 z_2 (sl us 0)).bind fun i =>
 (liveD i i).bind fun i => callK (F_spec_l1Cur_among [i, a]) fun rs_2 _u => some (Out.ret [sl rs 0, sl rs_2 0] [])) := by kernel_rfl
theorem t_spec_DrawNotesOn (x0 : D) : F_spec_DrawNotesOn [x0] =
  ((bldD [(0, 1)] [D.arr 1 [], D.v (Value.int IntKind.i64 0), D.v (Value.int IntKind.u64 0)] [x0]).bind fun z => (boxD 3 z).bind fun y => (liveD y (D.ref 0 0)).bind fun z => (liveD z z).bind fun z_1 =>
 (ref0 z_1 y).bind fun i => (liveD i i).bind fun i => callK (F_spec_l1Cur_notes [i]) fun rs us => (liveD z z).bind fun z_2 => (liveD z z).bind fun z_3 => (mkArr 1
 [D.v (Value.int IntKind.i64 9999), D.v (Value.int IntKind.i64 10000), D.v (Value.int IntKind.i64 (-1))]).bind fun a => (ref0 z_3 (sl us 0)).bind fun i => (liveD i i).bind fun i =>
 callK (F_spec_l1Cur_among [i, a]) fun rs_1 us => (mkArr 1 [D.v (Value.int IntKind.i64 0), D.v (Value.int IntKind.i64 1), D.v (Value.int IntKind.i64 3), D.v (Value.int IntKind.i64 6), sl rs_1 0]).bind fun a =>
 (ref0 z_2 (sl us 0)).bind fun i => (liveD i i).bind fun i => callK (F_spec_l1Cur_among [i, a]) fun rs_2 us => (liveD z z).bind fun z_4 => (liveD z z).bind fun z => (mkArr 1
 [D.v (Value.int IntKind.i64 9999), D.v (Value.int IntKind.i64 10000), D.v (Value.int IntKind.i64 (-1)), D.v (Value.int IntKind.i64 0)]).bind fun a => (ref0 z (sl us 0)).bind fun i => (liveD i i).bind fun i =>
 callK (F_spec_l1Cur_among [i, a]) fun rs_3 us => (mkArr 1 [D.v (Value.int IntKind.i64 2), D.v (Value.int IntKind.i64 4), D.v (Value.int IntKind.i64 8), sl rs_3 0]).bind fun a => (ref0 z_4 (sl us 0)).bind fun i =>
 (liveD i i).bind fun i => callK (F_spec_l1Cur_among [i, a]) fun rs_4 _u => some (Out.ret [sl rs 0, sl rs_2 0, sl rs_4 0] [])) := by kernel_rfl
theorem t_spec_DrawMetalAfter (x0 : D) : F_spec_DrawMetalAfter [x0] =
  ((bldD [(0, 1)] [D.arr 1 [], D.v (Value.int IntKind.i64 0), D.v (Value.int IntKind.u64 0)] [x0]).bind fun z => (boxD 3 z).bind fun y => (liveD y (D.ref 0 0)).bind fun z => (liveD z z).bind fun z_1 =>
 (ref0 z_1 y).bind fun i => (liveD i i).bind fun i => callK (F_spec_l1Cur_notes [i]) fun rs us => (liveD z z).bind fun z_2 => (liveD z z).bind fun z_3 => (mkArr 1
 [D.v (Value.int IntKind.i64 1000000), D.v (Value.int IntKind.i64 1000001), D.v (Value.int IntKind.i64 (-1))]).bind fun a => (ref0 z_3 (sl us 0)).bind fun i => (liveD i i).bind fun i =>
 callK (F_spec_l1Cur_among [i, a]) fun rs_1 us => (mkArr 1 [D.v (Value.int IntKind.i64 0), D.v (Value.int IntKind.i64 100), D.v (Value.int IntKind.i64 500), sl rs_1 0]).bind fun a => (ref0 z_2 (sl us 0)).bind fun i =>
 (liveD i i).bind fun i => callK (F_spec_l1Cur_among [i, a]) fun rs_2 us => (liveD z z).bind fun z_4 => (liveD z z).bind fun z => (mkArr 1 [D.v (Value.int IntKind.i64 9999), D.v (Value.int IntKind.i64 10000),
 D.v (Value.int IntKind.i64 (-1))]).bind fun a => (ref0 z (sl us 0)).bind fun i => (liveD i i).bind fun i => callK (F_spec_l1Cur_among [i, a]) fun rs_3 us => (mkArr 1
 [D.v (Value.int IntKind.i64 0), D.v (Value.int IntKind.i64 2), D.v (Value.int IntKind.i64 5), D.v (Value.int IntKind.i64 9), sl rs_3 0]).bind fun a => (ref0 z_4 (sl us 0)).bind fun i => (liveD i i).bind fun i =>
 callK (F_spec_l1Cur_among [i, a]) fun rs_4 _u => some (Out.ret [sl rs 0, sl rs_2 0, sl rs_4 0] [])) := by kernel_rfl
theorem t_laws_pSameNotes (x0 x1 : D) : F_laws_pSameNotes [x0, x1] =
  ((lenD false x0).bind fun z => (lenD false x1).bind fun z_1 => (bin BinOp.neq false [] z z_1).bind fun z => ifD z (some (Out.ret [D.v (Value.bool false)] [])) ((lenD false x0).bind fun z => (loopC (fun s =>
 (bin BinOp.lss false [] (sl s 3) (sl s 2)).bind fun z => ifD z ((Option.map D.ptr (elemD 3 (sl s 0) (sl s 3))).bind fun z => ((ldD true 3 z).bind chkV).bind fun z =>
 (Option.map D.ptr (elemD 3 (sl s 1) (sl s 3))).bind fun z_2 => ((ldD true 3 z_2).bind chkV).bind fun z_3 => (bin BinOp.neq false [1, 1, 1] z z_3).bind fun z => ifD z (some (Out.ret [D.v (Value.bool false)] []))
 ((bin BinOp.add false [] (sl s 3) (D.v (Value.int IntKind.i64 1))).bind fun z => some (Out.nrm [sl s 0, sl s 1, sl s 2, z]))) (some (Out.ext 0 []))) [x0, x1, z, D.v (Value.int IntKind.i64 0)]).bind fun o =>
 outK o (fun i _u => ifN (i.beq 0) (some (Out.ret [D.v (Value.bool true)] [])) none) fun a b => some (Out.ret a b))) := by kernel_rfl
theorem t_spec_DrawDropNote (x0 : D) : F_spec_DrawDropNote [x0] =
  ((bldD [(0, 1)] [D.arr 1 [], D.v (Value.int IntKind.i64 0), D.v (Value.int IntKind.u64 0)] [x0]).bind fun z => (boxD 3 z).bind fun y => (liveD y (D.ref 0 0)).bind fun z => (liveD z z).bind fun z_1 =>
 (ref0 z_1 y).bind fun i => (liveD i i).bind fun i => callK (F_spec_l1Cur_notes [i]) fun rs us => (liveD z z).bind fun z_2 => (liveD z z).bind fun z_3 => (lenD false (sl rs 0)).bind fun z_4 =>
 (bin BinOp.add false [] z_4 (D.v (Value.int IntKind.i64 1))).bind fun z_5 => (ref0 z_3 (sl us 0)).bind fun i => (liveD i i).bind fun i => callK (F_spec_l1Cur_pick [i, z_5]) fun rs_1 us =>
 (lenD false (sl rs 0)).bind fun z_6 => (bin BinOp.sub false [] z_6 (D.v (Value.int IntKind.i64 1))).bind fun z_7 => (liveD z z).bind fun z => (lenD false (sl rs 0)).bind fun z_8 => (mkArr 1
 [z_8, D.v (Value.int IntKind.i64 (-1)), D.v (Value.int IntKind.i64 (-9223372036854775808))]).bind fun a => (ref0 z (sl us 0)).bind fun i => (liveD i i).bind fun i => callK (F_spec_l1Cur_among [i, a]) fun rs_2 us =>
 (mkArr 1 [D.v (Value.int IntKind.i64 0), sl rs_1 0, z_7, sl rs_2 0]).bind fun a => (ref0 z_2 (sl us 0)).bind fun i => (liveD i i).bind fun i => callK (F_spec_l1Cur_among [i, a]) fun rs_3 _u =>
 some (Out.ret [sl rs 0, sl rs_3 0] [])) := by kernel_rfl
theorem t_spec_DrawNoteCheck (x0 : D) : F_spec_DrawNoteCheck [x0] =
  ((bldD [(0, 1)] [D.arr 1 [], D.v (Value.int IntKind.i64 0), D.v (Value.int IntKind.u64 0)] [x0]).bind fun z => (boxD 3 z).bind fun y => (liveD y (D.ref 0 0)).bind fun z => (liveD z z).bind fun z_1 =>
 (liveD z z).bind fun z_2 => (ref0 z_2 y).bind fun i => (liveD i i).bind fun i => callK (F_spec_l1Cur_pick [i, D.v (Value.int IntKind.i64 9973)]) fun rs us => (liveD z z).bind fun z_3 =>
 (mkArr 1 [D.v (Value.int IntKind.i64 9973), D.v (Value.int IntKind.i64 (-1))]).bind fun a => (ref0 z_3 (sl us 0)).bind fun i => (liveD i i).bind fun i => callK (F_spec_l1Cur_among [i, a]) fun rs_1 us => (mkArr 1
 [D.v (Value.int IntKind.i64 7), D.v (Value.int IntKind.i64 0), D.v (Value.int IntKind.i64 9972), sl rs 0, sl rs_1 0]).bind fun a => (ref0 z_1 (sl us 0)).bind fun i => (liveD i i).bind fun i =>
 callK (F_spec_l1Cur_among [i, a]) fun rs us => (liveD z z).bind fun z_4 => (liveD z z).bind fun z => (ref0 z (sl us 0)).bind fun i => (liveD i i).bind fun i =>
 callK (F_spec_l1Cur_pick [i, D.v (Value.int IntKind.i64 9)]) fun rs_2 us => (ref0 z_4 (sl us 0)).bind fun i => (liveD i i).bind fun i => callK (F_spec_l1Cur_note [i, sl rs_2 0]) fun rs_3 _u => (stD 3 (D.agg
 [D.v (Value.int IntKind.i64 0), D.v (Value.int IntKind.i64 0), D.v (Value.int IntKind.i64 0)]) (D.ref 0 0) (sl rs_3 0)).bind fun b => (fldD true 3 0 b).bind fun y => some (Out.ret [sl rs 0, y] [])) := by kernel_rfl
theorem t_laws_FnMetals (x0 x1 : D) : F_laws_FnMetals [x0, x1] =
  (callK (F_laws_big [x0, x1]) fun rs _u => ifD (sl rs 0) (some (Out.ret [D.v (Value.bool true)] [])) (callK (F_spec_DrawLeastMetal [x0]) fun rs _u => (tupAt (D.tup rs) 0).bind fun y =>
 (tupAt (tupCut (D.tup rs) 0) 1).bind fun z => callK (F_impl_LeastMetal [y, z]) fun rs _u => (tupAt (D.tup rs) 0).bind fun z_1 => (tupAt (D.tup rs) 1).bind fun z_2 => (tupAt (D.tup rs) 2).bind fun z_3 =>
 callK (F_spec_LeastMetal [y, z]) fun rs _u => (tupAt (D.tup rs) 0).bind fun z_4 => (tupAt (D.tup rs) 1).bind fun z_5 => (tupAt (D.tup rs) 2).bind fun z_6 => (bin BinOp.neq true [] z_3 z_6).bind fun z_7 =>
 (gate (D.tup []) z_7 false (some z_1)).bind fun z_8 => (gate (D.tup []) z_7 false (some z_4)).bind fun z_9 => (gate (D.tup []) z_7 false (bin BinOp.neq false [] z_8 z_9)).bind fun z_10 =>
 (pickD z_7 (D.v (Value.bool true)) z_10).bind fun z_11 => (gate (D.tup []) z_11 false (some z_2)).bind fun z_12 => (gate (D.tup []) z_11 false (some z_5)).bind fun z_13 =>
 (gate (D.tup []) z_11 false (bin BinOp.neq false [] z_12 z_13)).bind fun z_14 => (pickD z_11 (D.v (Value.bool true)) z_14).bind fun z_15 => ifD z_15 (some (Out.ret [D.v (Value.bool false)] [])) (ifD z_3
 ((lenD false y).bind fun z_16 => (loopC (fun s => (bin BinOp.lss false [] (sl s 8) (sl s 7)).bind fun z => ifD z ((Option.map D.ptr (elemD 3 (sl s 6) (sl s 8))).bind fun z => ((ldD true 3 z).bind chkV).bind fun z =>
 (stD 3 (D.agg [D.v (Value.int IntKind.i64 0), D.v (Value.int IntKind.i64 0), D.v (Value.int IntKind.i64 0)]) (D.ref 0 0) z).bind fun b => (liveD b (D.ref 0 1)).bind fun z => ((atD b z).bind (takeD false 1)).bind fun z =>
 (bin BinOp.eql false [] z (D.v (Value.int IntKind.i64 0))).bind fun z => (gate D.bad z false (liveD b (D.ref 0 1))).bind fun z_17 => (gate (D.tup []) z false ((atD b z_17).bind (takeD false 1))).bind fun z_18 =>
 (gate (D.tup []) z false (bin BinOp.eql false [] z_18 (D.v (Value.int IntKind.i64 3)))).bind fun z_19 => (pickD z (D.v (Value.bool true)) z_19).bind fun z => ifD z ((liveD b (D.ref 0 2)).bind fun z => ((atD b z).bind
 (takeD false 1)).bind fun z => (bin BinOp.add false [] (sl s 5) z).bind fun z => (bin BinOp.lss false [] z (sl s 3)).bind fun z_20 => (gate (D.tup []) z_20 false (some (sl s 8))).bind fun z_21 => (gate (D.tup []) z_20
 false (some (sl s 4))).bind fun z_22 => (gate (D.tup []) z_20 false (bin BinOp.lss false [] z_21 z_22)).bind fun z_23 => (gate (D.tup []) z_20 false (some z_23)).bind fun z_24 => (gate (D.tup []) z_24 true (some z)).bind
 fun z_25 => (gate (D.tup []) z_24 true (some (sl s 3))).bind fun z_26 => (gate (D.tup []) z_24 true (bin BinOp.eql false [] z_25 z_26)).bind fun z_27 => (gate (D.tup []) z_20 false (pickD z_24 z_27 (D.v (Value.bool
 false)))).bind fun z_28 => (pickD z_20 (D.v (Value.bool true)) z_28).bind fun z_29 => (gate (D.tup []) z_29 false (some (sl s 8))).bind fun z_30 => (gate (D.tup []) z_29 false (some (sl s 4))).bind fun z_31 => (gate
 (D.tup []) z_29 false (bin BinOp.eql false [] z_30 z_31)).bind fun z_32 => (gate (D.tup []) z_29 false (some z_32)).bind fun z_33 => (gate (D.tup []) z_33 true (some z)).bind fun z_34 => (gate (D.tup []) z_33 true (some
 (sl s 3))).bind fun z_35 => (gate (D.tup []) z_33 true (bin BinOp.neq false [] z_34 z_35)).bind fun z_36 => (gate (D.tup []) z_29 false (pickD z_33 z_36 (D.v (Value.bool false)))).bind fun z_37 => (pickD z_29 (D.v
 (Value.bool true)) z_37).bind fun z_38 => ifD z_38 (some (Out.ret [D.v (Value.bool false)] [])) ((bin BinOp.add false [] (sl s 8) (D.v (Value.int IntKind.i64 1))).bind fun z_39 => some (Out.nrm [sl s 0, sl s 1, sl s 2, sl
 s 3, sl s 4, z, sl s 6, sl s 7, z_39]))) ((liveD b (D.ref 0 2)).bind fun z => ((atD b z).bind (takeD false 1)).bind fun z => (bin BinOp.sub false [] (sl s 5) z).bind fun z => (bin BinOp.lss false [] z (sl s 3)).bind
 fun z_20 => (gate (D.tup []) z_20 false (some (sl s 8))).bind fun z_21 => (gate (D.tup []) z_20 false (some (sl s 4))).bind fun z_22 => (gate (D.tup []) z_20 false (bin BinOp.lss false [] z_21 z_22)).bind fun z_23 =>
 (gate (D.tup []) z_20 false (some z_23)).bind fun z_24 => (gate (D.tup []) z_24 true (some z)).bind fun z_25 => (gate (D.tup []) z_24 true (some (sl s 3))).bind fun z_26 => (gate (D.tup []) z_24 true (bin BinOp.eql false
 [] z_25 z_26)).bind fun z_27 => (gate (D.tup []) z_20 false (pickD z_24 z_27 (D.v (Value.bool false)))).bind fun z_28 => (pickD z_20 (D.v (Value.bool true)) z_28).bind fun z_29 => (gate (D.tup []) z_29 false (some (sl s
 8))).bind fun z_30 => (gate (D.tup []) z_29 false (some (sl s 4))).bind fun z_31 => (gate (D.tup []) z_29 false (bin BinOp.eql false [] z_30 z_31)).bind fun z_32 => (gate (D.tup []) z_29 false (some z_32)).bind fun
 z_33 => (gate (D.tup []) z_33 true (some z)).bind fun z_34 => (gate (D.tup []) z_33 true (some (sl s 3))).bind fun z_35 => (gate (D.tup []) z_33 true (bin BinOp.neq false [] z_34 z_35)).bind fun z_36 => (gate (D.tup [])
 z_29 false (pickD z_33 z_36 (D.v (Value.bool false)))).bind fun z_37 => (pickD z_29 (D.v (Value.bool true)) z_37).bind fun z_38 => ifD z_38 (some (Out.ret [D.v (Value.bool false)] [])) ((bin BinOp.add false [] (sl s 8)
 (D.v (Value.int IntKind.i64 1))).bind fun z_39 => some (Out.nrm [sl s 0, sl s 1, sl s 2, sl s 3, sl s 4, z, sl s 6, sl s 7, z_39])))) (some (Out.ext 0 [sl s 0, sl s 1, sl s 2, sl s 5]))) [x1, y, z, z_4, z_5, z, y, z_16,
 D.v (Value.int IntKind.i64 0)]).bind fun o => outK o (fun i s => ifN (i.beq 0) (callK (F_impl_MetalAfter [sl s 1, sl s 2, D.v (Value.int IntKind.i64 9999)]) fun rs _u => (tupAt (D.tup rs) 0).bind fun z =>
 (tupAt (D.tup rs) 1).bind fun z_17 => (un UnOp.not z_17).bind fun z_18 => (gate (D.tup []) z_18 false (some z)).bind fun z => (gate (D.tup []) z_18 false (some (sl s 3))).bind fun z_19 => (gate (D.tup []) z_18 false
 (bin BinOp.neq false [] z z_19)).bind fun z => (pickD z_18 (D.v (Value.bool true)) z).bind fun z => ifD z (some (Out.ret [D.v (Value.bool false)] [])) ((lenD false (sl s 1)).bind fun z => (bin BinOp.sub false [] z (D.v
 (Value.int IntKind.i64 1))).bind fun z => callK (F_impl_DropNote [sl s 1, z]) fun rs _u => (tupAt (D.tup rs) 0).bind fun y => (tupAt (tupCut (D.tup rs) 0) 1).bind fun z => callK (F_impl_MetalAfter [y, sl s 2, D.v
 (Value.int IntKind.i64 9999)]) fun rs _u => (tupAt (D.tup rs) 0).bind fun z_20 => (tupAt (D.tup rs) 1).bind fun z_21 => (un UnOp.not z).bind fun z => (gate (D.tup []) z false (some z_21)).bind fun z_22 =>
 (gate (D.tup []) z false (un UnOp.not z_22)).bind fun z_23 => (pickD z (D.v (Value.bool true)) z_23).bind fun z => (gate (D.tup []) z false (some y)).bind fun z_24 => (gate (D.tup []) z false (lenD false z_24)).bind
 fun z_25 => (gate (D.tup []) z false (some (sl s 1))).bind fun z_26 => (gate (D.tup []) z false (lenD false z_26)).bind fun z_27 => (gate (D.tup []) z false (bin BinOp.sub false [] z_27 (D.v (Value.int IntKind.i64
 1)))).bind fun z_28 => (gate (D.tup []) z false (bin BinOp.neq false [] z_25 z_28)).bind fun z_29 => (pickD z (D.v (Value.bool true)) z_29).bind fun z => (gate (D.tup []) z false (some z_20)).bind fun z_30 => (gate (D.tup
 []) z false (some (sl s 3))).bind fun z_31 => (gate (D.tup []) z false (bin BinOp.eql false [] z_30 z_31)).bind fun z_32 => (pickD z (D.v (Value.bool true)) z_32).bind fun z => ifD z (some (Out.ret [D.v (Value.bool
 false)] [])) (callK (F_spec_DrawNotesOn [sl s 0]) fun rs _u => (tupAt (D.tup rs) 0).bind fun y => (tupAt (tupCut (D.tup rs) 0) 1).bind fun z => (tupAt (tupCut (D.tup rs) 0) 2).bind fun z_33 => callK (F_impl_NotesOn [y, z,
 z_33]) fun rs _u => (tupAt (D.tup rs) 0).bind fun y_1 => (tupAt (tupCut (D.tup rs) 0) 1).bind fun z_34 => callK (F_spec_NotesOn [y, z, z_33]) fun rs _u => (tupAt (D.tup rs) 0).bind fun y => (tupAt (tupCut (D.tup rs) 0)
 1).bind fun z_35 => callK (F_spec_DrawMetalAfter [sl s 0]) fun rs _u => (tupAt (D.tup rs) 0).bind fun y_2 => (tupAt (tupCut (D.tup rs) 0) 1).bind fun z_36 => (tupAt (tupCut (D.tup rs) 0) 2).bind fun z_37 => callK
 (F_impl_MetalAfter [y_2, z_36, z_37]) fun rs _u => (tupAt (D.tup rs) 0).bind fun z_38 => (tupAt (D.tup rs) 1).bind fun z_39 => callK (F_spec_MetalAfter [y_2, z_36, z_37]) fun rs _u => (tupAt (D.tup rs) 0).bind fun z_40 =>
 (tupAt (D.tup rs) 1).bind fun z_41 => (bin BinOp.neq true [] z_34 z_35).bind fun z_42 => (gate (D.tup []) z_42 false (some y_1)).bind fun z_43 => (gate (D.tup []) z_42 false (some y)).bind fun z_44 => gateC z_42 false
 (callK (F_laws_pSameNotes [z_43, z_44]) fun rs _u => some (Out.nrm [sl rs 0])) [D.tup []] fun outs => (gate (D.tup []) z_42 false (un UnOp.not (sl outs 0))).bind fun z_45 => (pickD z_42 (D.v (Value.bool true)) z_45).bind
 fun z_46 => (gate (D.tup []) z_46 false (some z_39)).bind fun z_47 => (gate (D.tup []) z_46 false (some z_41)).bind fun z_48 => (gate (D.tup []) z_46 false (bin BinOp.neq true [] z_47 z_48)).bind fun z_49 => (pickD z_46
 (D.v (Value.bool true)) z_49).bind fun z_50 => (gate (D.tup []) z_50 false (some z_38)).bind fun z_51 => (gate (D.tup []) z_50 false (some z_40)).bind fun z_52 => (gate (D.tup []) z_50 false (bin BinOp.neq false [] z_51
 z_52)).bind fun z_53 => (pickD z_50 (D.v (Value.bool true)) z_53).bind fun z_54 => ifD z_54 (some (Out.ret [D.v (Value.bool false)] [])) ((lenD false y).bind fun z_55 => (loopC (fun s => (bin BinOp.lss false [] (sl s 5)
 (sl s 4)).bind fun z => ifD z ((Option.map D.ptr (elemD 3 (sl s 3) (sl s 5))).bind fun z => ((ldD true 3 z).bind chkV).bind fun z => (stD 3 (D.agg [D.v (Value.int IntKind.i64 0), D.v (Value.int IntKind.i64 0), D.v
 (Value.int IntKind.i64 0)]) (D.ref 0 0) z).bind fun b => (liveD b (D.ref 0 0)).bind fun z => ((atD b z).bind (takeD false 1)).bind fun z => (bin BinOp.lss false [] z (sl s 1)).bind fun z => (gate D.bad z false (liveD b
 (D.ref 0 0))).bind fun z_56 => (gate (D.tup []) z false ((atD b z_56).bind (takeD false 1))).bind fun z_57 => (gate (D.tup []) z false (some (sl s 2))).bind fun z_58 => (gate (D.tup []) z false (bin BinOp.gtr false []
 z_57 z_58)).bind fun z_59 => (pickD z (D.v (Value.bool true)) z_59).bind fun z => ifD z (some (Out.ret [D.v (Value.bool false)] [])) ((bin BinOp.add false [] (sl s 5) (D.v (Value.int IntKind.i64 1))).bind fun z => some
 (Out.nrm [sl s 0, sl s 1, sl s 2, sl s 3, sl s 4, z]))) (some (Out.ext 2 [sl s 0]))) [sl s 0, z, z_33, y, z_55, D.v (Value.int IntKind.i64 0)]).bind fun o => outK o (fun i s => ifN (i.beq 2) (callK (F_spec_DrawDropNote
 [sl s 0]) fun rs _u => (tupAt (D.tup rs) 0).bind fun z => (tupAt (D.tup rs) 1).bind fun z_56 => callK (F_impl_DropNote [z, z_56]) fun rs _u => (tupAt (D.tup rs) 0).bind fun y => (tupAt (tupCut (D.tup rs) 0) 1).bind fun
 z_57 => callK (F_spec_DropNote [z, z_56]) fun rs _u => (tupAt (D.tup rs) 0).bind fun y_3 => (tupAt (tupCut (D.tup rs) 0) 1).bind fun z => callK (F_spec_DrawNoteCheck [sl s 0]) fun rs _u => (tupAt (D.tup rs) 0).bind fun
 z_58 => (tupAt (D.tup rs) 1).bind fun z_59 => (stD 3 (D.agg [D.v (Value.int IntKind.i64 0), D.v (Value.int IntKind.i64 0), D.v (Value.int IntKind.i64 0)]) (D.ref 0 0) z_59).bind fun b => (fldD true 3 0 b).bind fun z_60 =>
 callK (F_impl_NoteCheck [z_58, z_60]) fun rs _u => (tupAt (D.tup rs) 0).bind fun z_61 => (tupAt (D.tup rs) 1).bind fun z_62 => (fldD true 3 0 b).bind fun z_63 => callK (F_spec_NoteCheck [z_58, z_63]) fun rs _u => (tupAt
 (D.tup rs) 0).bind fun z_64 => (tupAt (D.tup rs) 1).bind fun z_65 => (bin BinOp.eql true [] z_57 z).bind fun z => (gate (D.tup []) z true (some y)).bind fun z_66 => (gate (D.tup []) z true (some y_3)).bind fun z_67 =>
 gateC z true (callK (F_laws_pSameNotes [z_66, z_67]) fun rs _u => some (Out.nrm [sl rs 0])) [D.tup []] fun outs => (pickD z (sl outs 0) (D.v (Value.bool false))).bind fun z => (gate (D.tup []) z true (some z_62)).bind fun
 z_68 => (gate (D.tup []) z true (some z_65)).bind fun z_69 => (gate (D.tup []) z true (bin BinOp.eql true [] z_68 z_69)).bind fun z_70 => (pickD z z_70 (D.v (Value.bool false))).bind fun z => (gate (D.tup []) z true (some
 z_61)).bind fun z_71 => (gate (D.tup []) z true (some z_64)).bind fun z_72 => (gate (D.tup []) z true (bin BinOp.eql false [] z_71 z_72)).bind fun z_73 => (pickD z z_73 (D.v (Value.bool false))).bind fun z => (gate (D.tup
 []) z true (some z_62)).bind fun z_74 => (gate (D.tup []) z true (un UnOp.not z_74)).bind fun z_75 => (gate (D.tup []) z true (some z_75)).bind fun z_76 => (gate (D.tup []) z_76 false (some z_64)).bind fun z_77 => (gate
 (D.tup []) z_76 false (bin BinOp.geq false [] z_77 (D.v (Value.int IntKind.i64 0)))).bind fun z_78 => (gate (D.tup []) z_76 false (some z_78)).bind fun z_79 => (gate (D.tup []) z_79 true (some z_64)).bind fun z_80 =>
 (gate (D.tup []) z_79 true (bin BinOp.lss false [] z_80 (D.v (Value.int IntKind.i64 9973)))).bind fun z_81 => (gate (D.tup []) z_76 false (pickD z_79 z_81 (D.v (Value.bool false)))).bind fun z_82 => (gate (D.tup []) z
 true (pickD z_76 (D.v (Value.bool true)) z_82)).bind fun z_83 => (pickD z z_83 (D.v (Value.bool false))).bind fun z => some (Out.ret [z] [])) none) fun a b => some (Out.ret a b))))) none) fun a b => some (Out.ret a b))
 (callK (F_spec_DrawNotesOn [x1]) fun rs _u => (tupAt (D.tup rs) 0).bind fun y => (tupAt (tupCut (D.tup rs) 0) 1).bind fun z => (tupAt (tupCut (D.tup rs) 0) 2).bind fun z_16 =>
 callK (F_impl_NotesOn [y, z, z_16]) fun rs _u => (tupAt (D.tup rs) 0).bind fun y_1 => (tupAt (tupCut (D.tup rs) 0) 1).bind fun z_17 => callK (F_spec_NotesOn [y, z, z_16]) fun rs _u => (tupAt (D.tup rs) 0).bind fun y =>
 (tupAt (tupCut (D.tup rs) 0) 1).bind fun z_18 => callK (F_spec_DrawMetalAfter [x1]) fun rs _u => (tupAt (D.tup rs) 0).bind fun y_2 => (tupAt (tupCut (D.tup rs) 0) 1).bind fun z_19 => (tupAt (tupCut (D.tup rs) 0) 2).bind
 fun z_20 => callK (F_impl_MetalAfter [y_2, z_19, z_20]) fun rs _u => (tupAt (D.tup rs) 0).bind fun z_21 => (tupAt (D.tup rs) 1).bind fun z_22 => callK (F_spec_MetalAfter [y_2, z_19, z_20]) fun rs _u =>
 (tupAt (D.tup rs) 0).bind fun z_23 => (tupAt (D.tup rs) 1).bind fun z_24 => (bin BinOp.neq true [] z_17 z_18).bind fun z_25 => (gate (D.tup []) z_25 false (some y_1)).bind fun z_26 => (gate (D.tup []) z_25
 false (some y)).bind fun z_27 => gateC z_25 false (callK (F_laws_pSameNotes [z_26, z_27]) fun rs _u => some (Out.nrm [sl rs 0])) [D.tup []] fun outs => (gate (D.tup []) z_25 false (un UnOp.not (sl outs 0))).bind
 fun z_28 => (pickD z_25 (D.v (Value.bool true)) z_28).bind fun z_29 => (gate (D.tup []) z_29 false (some z_22)).bind fun z_30 => (gate (D.tup []) z_29 false (some z_24)).bind fun z_31 => (gate (D.tup []) z_29 false (bin
 BinOp.neq true [] z_30 z_31)).bind fun z_32 => (pickD z_29 (D.v (Value.bool true)) z_32).bind fun z_33 => (gate (D.tup []) z_33 false (some z_21)).bind fun z_34 => (gate (D.tup []) z_33 false (some z_23)).bind fun z_35 =>
 (gate (D.tup []) z_33 false (bin BinOp.neq false [] z_34 z_35)).bind fun z_36 => (pickD z_33 (D.v (Value.bool true)) z_36).bind fun z_37 => ifD z_37 (some (Out.ret [D.v (Value.bool false)] [])) ((lenD false y).bind fun
 z_38 => (loopC (fun s => (bin BinOp.lss false [] (sl s 5) (sl s 4)).bind fun z => ifD z ((Option.map D.ptr (elemD 3 (sl s 3) (sl s 5))).bind fun z => ((ldD true 3 z).bind chkV).bind fun z => (stD 3 (D.agg [D.v (Value.int
 IntKind.i64 0), D.v (Value.int IntKind.i64 0), D.v (Value.int IntKind.i64 0)]) (D.ref 0 0) z).bind fun b => (liveD b (D.ref 0 0)).bind fun z => ((atD b z).bind (takeD false 1)).bind fun z => (bin BinOp.lss false [] z (sl
 s 1)).bind fun z => (gate D.bad z false (liveD b (D.ref 0 0))).bind fun z_39 => (gate (D.tup []) z false ((atD b z_39).bind (takeD false 1))).bind fun z_40 => (gate (D.tup []) z false (some (sl s 2))).bind fun z_41 =>
 (gate (D.tup []) z false (bin BinOp.gtr false [] z_40 z_41)).bind fun z_42 => (pickD z (D.v (Value.bool true)) z_42).bind fun z => ifD z (some (Out.ret [D.v (Value.bool false)] [])) ((bin BinOp.add false [] (sl s 5) (D.v
 (Value.int IntKind.i64 1))).bind fun z => some (Out.nrm [sl s 0, sl s 1, sl s 2, sl s 3, sl s 4, z]))) (some (Out.ext 2 [sl s 0]))) [x1, z, z_16, y, z_38, D.v (Value.int IntKind.i64 0)]).bind fun o => outK o (fun i s =>
 ifN (i.beq 2) (callK (F_spec_DrawDropNote [sl s 0]) fun rs _u => (tupAt (D.tup rs) 0).bind fun z => (tupAt (D.tup rs) 1).bind fun z_39 => callK (F_impl_DropNote [z, z_39]) fun rs _u => (tupAt (D.tup rs) 0).bind fun y =>
 (tupAt (tupCut (D.tup rs) 0) 1).bind fun z_40 => callK (F_spec_DropNote [z, z_39]) fun rs _u => (tupAt (D.tup rs) 0).bind fun y_3 => (tupAt (tupCut (D.tup rs) 0) 1).bind fun z => callK (F_spec_DrawNoteCheck [sl s 0]) fun
 rs _u => (tupAt (D.tup rs) 0).bind fun z_41 => (tupAt (D.tup rs) 1).bind fun z_42 => (stD 3 (D.agg [D.v (Value.int IntKind.i64 0), D.v (Value.int IntKind.i64 0), D.v (Value.int IntKind.i64 0)]) (D.ref 0 0) z_42).bind fun
 b => (fldD true 3 0 b).bind fun z_43 => callK (F_impl_NoteCheck [z_41, z_43]) fun rs _u => (tupAt (D.tup rs) 0).bind fun z_44 => (tupAt (D.tup rs) 1).bind fun z_45 => (fldD true 3 0 b).bind fun z_46 => callK
 (F_spec_NoteCheck [z_41, z_46]) fun rs _u => (tupAt (D.tup rs) 0).bind fun z_47 => (tupAt (D.tup rs) 1).bind fun z_48 => (bin BinOp.eql true [] z_40 z).bind fun z => (gate (D.tup []) z true (some y)).bind fun z_49 =>
 (gate (D.tup []) z true (some y_3)).bind fun z_50 => gateC z true (callK (F_laws_pSameNotes [z_49, z_50]) fun rs _u => some (Out.nrm [sl rs 0])) [D.tup []] fun outs => (pickD z (sl outs 0) (D.v (Value.bool false))).bind
 fun z => (gate (D.tup []) z true (some z_45)).bind fun z_51 => (gate (D.tup []) z true (some z_48)).bind fun z_52 => (gate (D.tup []) z true (bin BinOp.eql true [] z_51 z_52)).bind fun z_53 => (pickD z z_53 (D.v
 (Value.bool false))).bind fun z => (gate (D.tup []) z true (some z_44)).bind fun z_54 => (gate (D.tup []) z true (some z_47)).bind fun z_55 => (gate (D.tup []) z true (bin BinOp.eql false [] z_54 z_55)).bind fun z_56 =>
 (pickD z z_56 (D.v (Value.bool false))).bind fun z => (gate (D.tup []) z true (some z_45)).bind fun z_57 => (gate (D.tup []) z true (un UnOp.not z_57)).bind fun z_58 => (gate (D.tup []) z true (some z_58)).bind fun
 z_59 => (gate (D.tup []) z_59 false (some z_47)).bind fun z_60 => (gate (D.tup []) z_59 false (bin BinOp.geq false [] z_60 (D.v (Value.int IntKind.i64 0)))).bind fun z_61 => (gate (D.tup []) z_59 false (some z_61)).bind
 fun z_62 => (gate (D.tup []) z_62 true (some z_47)).bind fun z_63 => (gate (D.tup []) z_62 true (bin BinOp.lss false [] z_63 (D.v (Value.int IntKind.i64 9973)))).bind fun z_64 => (gate (D.tup []) z_59 false (pickD z_62
 z_64 (D.v (Value.bool false)))).bind fun z_65 => (gate (D.tup []) z true (pickD z_59 (D.v (Value.bool true)) z_65)).bind fun z_66 => (pickD z z_66 (D.v (Value.bool false))).bind fun z => some (Out.ret [z] [])) none) fun a
 b => some (Out.ret a b)))))) := by kernel_rfl
end Go.Proofs.Ytkhggkbmjdopcaa
