/-
  What the functions compute: their evaluated texts, printed.
-/
import Derived.Test.YtbbfddflmnclaaaDoorRows
import Derived.Test.YtbbfddflmnclaaaDoorTie
import Derived.Test.YtbbfddflmnclaaaDoorCards
import Derived.Test.YtbbfddflmnclaaaDoorM5
namespace Go.Proofs.YtbbfddflmnclaaaDoor
open Go Go.V
theorem t_spec_l1Cur_next (x0 : D) : F_spec_l1Cur_next [x0] =
  ((liveD x0 (D.ref 0 0)).bind fun z => (liveD z z).bind fun z => (refAdd 1 z).bind fun z => (((atD x0 z).bind (takeD false 1)).bind chkV).bind fun z => (liveD x0 (D.ref 0 0)).bind fun z_1 => (liveD z_1 z_1).bind fun z_2 =>
 (refAdd 0 z_2).bind fun z_3 => ((atD x0 z_3).bind (takeD false 1)).bind fun z_4 => (lenD false z_4).bind fun z_5 => (bin BinOp.lss false [] z z_5).bind fun z => ifD z ((liveD x0 (D.ref 0 0)).bind fun z =>
 (liveD z z).bind fun z => (refAdd 0 z).bind fun z => ((atD x0 z).bind (takeD false 1)).bind fun z => (liveD x0 (D.ref 0 0)).bind fun z_6 => (liveD z_6 z_6).bind fun z_7 => (refAdd 1 z_7).bind fun z_8 =>
 (((atD x0 z_8).bind (takeD false 1)).bind chkV).bind fun z_9 => (Option.map D.ptr (elemD 1 z z_9)).bind fun z => ((ldD false 1 z).bind chkV).bind fun z => (convD (some IntKind.i64) false z).bind fun z =>
 (liveD x0 (D.ref 0 0)).bind fun z_10 => (liveD z_10 z_10).bind fun z_11 => (refAdd 1 z_11).bind fun z_12 => (((atD x0 z_12).bind (takeD false 1)).bind chkV).bind fun z_13 =>
 (bin BinOp.add false [] z_13 (D.v (Value.int IntKind.i64 1))).bind fun z_14 => (liveD z_10 z_10).bind fun z_15 => (refAdd 1 z_15).bind fun z_16 => (stD 1 x0 z_16 z_14).bind fun b => (liveD b (D.ref 0 0)).bind fun z_17 =>
 (liveD b (D.ref 0 0)).bind fun z_18 => (liveD z_18 z_18).bind fun z_19 => (refAdd 2 z_19).bind fun z_20 => (((atD b z_20).bind (takeD false 1)).bind chkV).bind fun z_21 => (bin BinOp.mul false [] z_21 (D.v
 (Value.int IntKind.u64 6364136223846793005))).bind fun z_22 => (convD (some IntKind.u64) false z).bind fun z_23 => (bin BinOp.add false [] z_22 z_23).bind fun z_24 => (bin BinOp.add false [] z_24 (D.v
 (Value.int IntKind.u64 1442695040888963407))).bind fun z_25 => (liveD z_17 z_17).bind fun z_26 => (refAdd 2 z_26).bind fun z_27 => (stD 1 b z_27 z_25).bind fun b => (liveD b (D.ref 0 0)).bind fun z_28 =>
 (liveD z_28 z_28).bind fun z_29 => (refAdd 1 z_29).bind fun z_30 => (((atD b z_30).bind (takeD false 1)).bind chkV).bind fun z_31 => (liveD b (D.ref 0 0)).bind fun z_32 => (liveD z_32 z_32).bind fun z_33 =>
 (refAdd 0 z_33).bind fun z_34 => ((atD b z_34).bind (takeD false 1)).bind fun z_35 => (lenD false z_35).bind fun z_36 => (bin BinOp.leq false [] z_31 z_36).bind fun z_37 => ifD z_37 ((liveD b b).bind fun _u => some
 (Out.ret [z] [b])) ((liveD b (D.ref 0 0)).bind fun z => (liveD z z).bind fun z => (refAdd 2 z).bind fun z => (((atD b z).bind (takeD false 1)).bind chkV).bind fun z => (bin BinOp.shr false [] z (D.v (Value.int IntKind.u64
 40))).bind fun z => (bin BinOp.and false [] z (D.v (Value.int IntKind.u64 255))).bind fun z => (convD (some IntKind.i64) false z).bind fun z => (liveD b b).bind fun _u => some (Out.ret [z] [b])))
 ((liveD x0 (D.ref 0 0)).bind fun z => (liveD z z).bind fun z_6 => (refAdd 1 z_6).bind fun z_7 => (((atD x0 z_7).bind (takeD false 1)).bind chkV).bind fun z_8 =>
 (bin BinOp.add false [] z_8 (D.v (Value.int IntKind.i64 1))).bind fun z_9 => (liveD z z).bind fun z => (refAdd 1 z).bind fun z => (stD 1 x0 z z_9).bind fun b => (liveD b (D.ref 0 0)).bind fun z =>
 (liveD b (D.ref 0 0)).bind fun z_10 => (liveD z_10 z_10).bind fun z_11 => (refAdd 2 z_11).bind fun z_12 => (((atD b z_12).bind (takeD false 1)).bind chkV).bind fun z_13 => (bin BinOp.mul false [] z_13
 (D.v (Value.int IntKind.u64 6364136223846793005))).bind fun z_14 => (convD (some IntKind.u64) false (D.v (Value.int IntKind.i64 0))).bind fun z_15 => (bin BinOp.add false [] z_14 z_15).bind fun z_16 =>
 (bin BinOp.add false [] z_16 (D.v (Value.int IntKind.u64 1442695040888963407))).bind fun z_17 => (liveD z z).bind fun z => (refAdd 2 z).bind fun z => (stD 1 b z z_17).bind fun b => (liveD b (D.ref 0 0)).bind fun z =>
 (liveD z z).bind fun z => (refAdd 1 z).bind fun z => (((atD b z).bind (takeD false 1)).bind chkV).bind fun z => (liveD b (D.ref 0 0)).bind fun z_18 => (liveD z_18 z_18).bind fun z_19 => (refAdd 0 z_19).bind fun z_20 =>
 ((atD b z_20).bind (takeD false 1)).bind fun z_21 => (lenD false z_21).bind fun z_22 => (bin BinOp.leq false [] z z_22).bind fun z => ifD z ((liveD b b).bind fun _u => some (Out.ret [D.v (Value.int IntKind.i64 0)] [b]))
 ((liveD b (D.ref 0 0)).bind fun z => (liveD z z).bind fun z => (refAdd 2 z).bind fun z => (((atD b z).bind (takeD false 1)).bind chkV).bind fun z => (bin BinOp.shr false [] z (D.v (Value.int IntKind.u64 40))).bind
 fun z => (bin BinOp.and false [] z (D.v (Value.int IntKind.u64 255))).bind fun z => (convD (some IntKind.i64) false z).bind fun z => (liveD b b).bind fun _u => some (Out.ret [z] [b])))) := by kernel_rfl
theorem t_spec_l1Cur_pick (x0 x1 : D) : F_spec_l1Cur_pick [x0, x1] =
  ((bin BinOp.leq false [] x1 (D.v (Value.int IntKind.i64 1))).bind fun z => ifD z ((liveD x0 x0).bind fun _u => some (Out.ret [D.v (Value.int IntKind.i64 0)] [x0])) ((liveD x0 (D.ref 0 0)).bind fun z =>
 (ref0 z x0).bind fun i => (liveD i i).bind fun i => callK (F_spec_l1Cur_next [i]) fun rs us => (bin BinOp.gtr false [] x1 (D.v (Value.int IntKind.i64 200))).bind fun z => ifD z
 ((bin BinOp.mul false [] (sl rs 0) (D.v (Value.int IntKind.i64 256))).bind fun z => (liveD (sl us 0) (D.ref 0 0)).bind fun z_1 => (ref0 z_1 (sl us 0)).bind fun i => (liveD i i).bind fun i =>
 callK (F_spec_l1Cur_next [i]) fun rs us => (bin BinOp.add false [] z (sl rs 0)).bind fun z => (bin BinOp.rem false [] z x1).bind fun z => (liveD (sl us 0) (sl us 0)).bind fun _u => some (Out.ret [z] [sl us 0]))
 ((bin BinOp.rem false [] (sl rs 0) x1).bind fun z => (liveD (sl us 0) (sl us 0)).bind fun _u => some (Out.ret [z] [sl us 0])))) := by kernel_rfl
theorem t_spec_l1Cur_one (x0 x1 : D) : F_spec_l1Cur_one [x0, x1] =
  ((liveD x0 (D.ref 0 0)).bind fun z => (ref0 z x0).bind fun i => (liveD i i).bind fun i => callK (F_spec_l1Cur_pick [i, x1]) fun rs us => (bin BinOp.eql false [] (sl rs 0) (D.v (Value.int IntKind.i64 0))).bind fun z =>
 (liveD (sl us 0) (sl us 0)).bind fun _u => some (Out.ret [z] [sl us 0])) := by kernel_rfl
theorem t_spec_l1Cur_font (x0 : D) : F_spec_l1Cur_font [x0] =
  ((mkArr 1 [D.v (Value.string { data := { toList := [97] } }), D.v (Value.string { data := { toList := [97, 98] } }),
 D.v (Value.string { data := { toList := [97, 98, 99] } }), D.v (Value.string { data := { toList := [98] } }), D.v (Value.string { data := { toList := [98, 98] } }), D.v (Value.string { data := { toList := [99] } }),
 D.v (Value.string { data := { toList := [100] } }), D.v (Value.string { data := { toList := [101] } }), D.v (Value.string { data := { toList := [102] } }), D.v (Value.string { data := { toList := [102, 102] } }),
 D.v (Value.string { data := { toList := [102, 105] } }), D.v (Value.string { data := { toList := [105] } })]).bind fun a => (lenD false a).bind fun z => (loopC (fun s =>
 (bin BinOp.lss false [] (sl s 4) (sl s 3)).bind fun z => ifD z ((Option.map D.ptr (elemD 1 (sl s 2) (sl s 4))).bind fun z => ((ldD false 1 z).bind chkV).bind fun z => (lenD true z).bind fun z_1 =>
 (bin BinOp.eql false [] z_1 (D.v (Value.int IntKind.i64 1))).bind fun z_2 => (gate D.bad z_2 true (liveD (sl s 0) (D.ref 0 0))).bind fun z_3 => gateC z_2 true ((ref0 z_3 (sl s 0)).bind fun i => (liveD i i).bind fun i =>
 callK (F_spec_l1Cur_one [i, D.v (Value.int IntKind.i64 12)]) fun rs us => some (Out.nrm [sl rs 0, sl us 0])) [D.tup [], sl s 0] fun outs => (gate (D.tup []) z_2 true (un UnOp.not (sl outs 0))).bind fun z_4 =>
 (pickD z_2 z_4 (D.v (Value.bool false))).bind fun z_5 => (gate (D.tup []) z_5 false (some z)).bind fun z_6 => (gate (D.tup []) z_5 false (lenD true z_6)).bind fun z_7 => (gate (D.tup []) z_5 false
 (bin BinOp.gtr false [] z_7 (D.v (Value.int IntKind.i64 1)))).bind fun z_8 => (gate (D.tup []) z_5 false (some z_8)).bind fun z_9 => (gate D.bad z_9 true (liveD (sl outs 1) (D.ref 0 0))).bind fun z_10 => gateC z_9 true
 ((ref0 z_10 (sl outs 1)).bind fun i => (liveD i i).bind fun i => callK (F_spec_l1Cur_one [i, D.v (Value.int IntKind.i64 3)]) fun rs us => some (Out.nrm [sl rs 0, sl us 0])) [D.tup [], sl outs 1] fun outs =>
 (gate (D.tup []) z_5 false (pickD z_9 (sl outs 0) (D.v (Value.bool false)))).bind fun z_11 => (pickD z_5 (D.v (Value.bool true)) z_11).bind fun z_12 => ifD z_12 ((lenD true z).bind fun z_13 =>
 (liveD (sl outs 1) (D.ref 0 0)).bind fun z_14 => (ref0 z_14 (sl outs 1)).bind fun i => (liveD i i).bind fun i => callK (F_spec_l1Cur_pick [i, D.v (Value.int IntKind.i64 4)]) fun rs us =>
 (bin BinOp.add false [] (D.v (Value.int IntKind.i64 2)) (sl rs 0)).bind fun z_15 => (bin BinOp.mul false [] z_13 z_15).bind fun z_16 => (bin BinOp.add false [] (D.v (Value.int IntKind.i64 4)) z_16).bind fun z_17 =>
 (bldD [(0, 1), (1, 1)] [D.v (Value.string { data := { toList := [] } }), D.v (Value.int IntKind.i64 0)] [z, z_17]).bind fun z => (mkArr 2 [z]).bind fun a => (chkA a).bind fun b => (appD 2 24 (sl s 1) b).bind fun y =>
 (bin BinOp.add false [] (sl s 4) (D.v (Value.int IntKind.i64 1))).bind fun z => some (Out.nrm [sl us 0, y, sl s 2, sl s 3, z])) ((bin BinOp.add false [] (sl s 4) (D.v (Value.int IntKind.i64 1))).bind
 fun z => some (Out.nrm [sl outs 1, sl s 1, sl s 2, sl s 3, z]))) (some (Out.ext 0 [sl s 0, sl s 1]))) [x0, D.arr 2 [], a, z, D.v (Value.int IntKind.i64 0)]).bind fun o => outK o (fun i s => ifN (i.beq 0)
 ((liveD (sl s 1) (D.ref 0 0)).bind fun z => ((liveD z (sl s 1)).bind (lenD false)).bind fun z => (bin BinOp.eql false [] z (D.v (Value.int IntKind.i64 0))).bind fun z => ifD z ((bldD [(0, 1), (1, 1)]
 [D.v (Value.string { data := { toList := [] } }), D.v (Value.int IntKind.i64 0)] [D.v (Value.string { data := { toList := [97] } }), D.v (Value.int IntKind.i64 9)]).bind fun z => (mkArr 2 [z]).bind fun a =>
 (liveD (sl s 0) (sl s 0)).bind fun _u => some (Out.ret [a] [sl s 0])) ((liveD (sl s 0) (sl s 0)).bind fun _u => some (Out.ret [sl s 1] [sl s 0]))) none) fun a b => some (Out.ret a b)) := by kernel_rfl
theorem t_spec_l1Cur_among (x0 x1 : D) : F_spec_l1Cur_among [x0, x1] =
  ((liveD x0 (D.ref 0 0)).bind fun z => (lenD false x1).bind fun z_1 => (ref0 z x0).bind fun i => (liveD i i).bind fun i => callK (F_spec_l1Cur_pick [i, z_1]) fun rs us =>
 (Option.map D.ptr (elemD 1 x1 (sl rs 0))).bind fun z => ((ldD false 1 z).bind chkV).bind fun z => (liveD (sl us 0) (sl us 0)).bind fun _u => some (Out.ret [z] [sl us 0])) := by kernel_rfl
theorem t_spec_l1Cur_boxes (x0 x1 : D) : F_spec_l1Cur_boxes [x0, x1] =
  ((liveD x0 (D.ref 0 0)).bind fun z => (ref0 z x0).bind fun i => (liveD i i).bind fun i => callK (F_spec_l1Cur_pick [i, D.v (Value.int IntKind.i64 20)]) fun rs us => (lenD false x1).bind fun z => (loopC (fun s =>
 (bin BinOp.lss false [] (sl s 5) (sl s 4)).bind fun z => ifD z ((Option.map D.ptr (elemD 2 (sl s 3) (sl s 5))).bind fun z => ((ldD true 2 z).bind chkV).bind fun z => (stD 2 (D.agg
 [D.v (Value.string { data := { toList := [] } }), D.v (Value.int IntKind.i64 0)]) (D.ref 0 0) z).bind fun b => (liveD b (D.ref 0 0)).bind fun z => ((atD b z).bind (takeD false 1)).bind fun z =>
 (bin BinOp.quo false [] (sl s 2) (D.v (Value.int IntKind.i64 10))).bind fun z_1 => (bin BinOp.rem false [] z_1 (D.v (Value.int IntKind.i64 10))).bind fun z_2 =>
 (bin BinOp.rem false [] (sl s 2) (D.v (Value.int IntKind.i64 10))).bind fun z_3 => (liveD (sl s 0) (D.ref 0 0)).bind fun z_4 => (mkArr 1 [D.v (Value.int IntKind.i64 0), D.v (Value.int IntKind.i64 1),
 D.v (Value.int IntKind.i64 2), D.v (Value.int IntKind.i64 5), D.v (Value.int IntKind.i64 20)]).bind fun a => (ref0 z_4 (sl s 0)).bind fun i => (liveD i i).bind fun i => callK (F_spec_l1Cur_among [i, a]) fun rs us =>
 (bldD [(0, 1), (1, 1), (2, 1), (3, 1)] [D.v (Value.string { data := { toList := [] } }), D.v (Value.int IntKind.i64 0), D.v (Value.int IntKind.i64 0), D.v (Value.int IntKind.i64 0)] [z, z_2, z_3, sl rs 0]).bind fun z =>
 (mkArr 4 [z]).bind fun a => (chkA a).bind fun b => (appD 4 40 (sl s 1) b).bind fun y => (liveD (sl us 0) (D.ref 0 0)).bind fun z => (ref0 z (sl us 0)).bind fun i => (liveD i i).bind fun i => callK
 (F_spec_l1Cur_pick [i, D.v (Value.int IntKind.i64 2)]) fun rs us => (bin BinOp.add false [] (D.v (Value.int IntKind.i64 1)) (sl rs 0)).bind fun z => (bin BinOp.add false [] (sl s 2) z).bind fun z =>
 (bin BinOp.add false [] (sl s 5) (D.v (Value.int IntKind.i64 1))).bind fun z_5 => some (Out.nrm [sl us 0, y, z, sl s 3, sl s 4, z_5])) (some (Out.ext 0 [sl s 0, sl s 1])))
 [sl us 0, D.arr 4 [], sl rs 0, x1, z, D.v (Value.int IntKind.i64 0)]).bind fun o => outK o (fun i s => ifN (i.beq 0) ((liveD (sl s 0) (sl s 0)).bind fun _u => some (Out.ret [sl s 1] [sl s 0])) none)
 fun a b => some (Out.ret a b)) := by kernel_rfl
theorem t_spec_l1Cur_of (x0 x1 : D) : F_spec_l1Cur_of [x0, x1] =
  ((liveD x0 (D.ref 0 0)).bind fun z => (lenD false x1).bind fun z_1 => (ref0 z x0).bind fun i => (liveD i i).bind fun i => callK (F_spec_l1Cur_pick [i, z_1]) fun rs us =>
 (Option.map D.ptr (elemD 1 x1 (sl rs 0))).bind fun z => ((ldD false 1 z).bind chkV).bind fun z => (liveD (sl us 0) (sl us 0)).bind fun _u => some (Out.ret [z] [sl us 0])) := by kernel_rfl
theorem t_spec_l1Cur_anyCase (x0 : D) : F_spec_l1Cur_anyCase [x0] =
  ((liveD x0 (D.ref 0 0)).bind fun z => (liveD x0 (D.ref 0 0)).bind fun z_1 => (ref0 z_1 x0).bind fun i => (liveD i i).bind fun i => callK (F_spec_l1Cur_font [i]) fun rs us => (ref0 z (sl us 0)).bind fun i =>
 (liveD i i).bind fun i => callK (F_spec_l1Cur_boxes [i, sl rs 0]) fun rs us => (liveD (sl us 0) (D.ref 0 0)).bind fun z => (liveD (sl rs 0) (D.ref 0 0)).bind fun z_2 =>
 ((liveD z_2 (sl rs 0)).bind (lenD false)).bind fun z_3 => (ref0 z (sl us 0)).bind fun i => (liveD i i).bind fun i => callK (F_spec_l1Cur_pick [i, z_3]) fun rs_1 us => (liveD (sl us 0) (D.ref 0 0)).bind fun z =>
 (ref0 z (sl us 0)).bind fun i => (liveD i i).bind fun i => callK (F_spec_l1Cur_pick [i, D.v (Value.int IntKind.i64 30)]) fun rs_2 us => (bin BinOp.eql false [] (sl rs_2 0) (D.v (Value.int IntKind.i64 0))).bind fun z =>
 ifD z ((liveD (sl rs 0) (D.ref 0 0)).bind fun z => (liveD (sl us 0) (D.ref 0 0)).bind fun z_4 => (mkArr 1 [D.v (Value.int IntKind.i64 10), D.v (Value.int IntKind.i64 (-1)), D.v (Value.int IntKind.i64 9)]).bind fun a =>
 (ref0 z_4 (sl us 0)).bind fun i => (liveD i i).bind fun i => callK (F_spec_l1Cur_among [i, a]) fun rs_3 us => ((liveD z (sl rs 0)).bind fun b => refI 4 b (sl rs_1 0)).bind fun z => (refAdd 1 z).bind fun z =>
 (stD 1 (sl rs 0) z (sl rs_3 0)).bind fun b => (liveD (sl us 0) (sl us 0)).bind fun _u => some (Out.ret [b] [sl us 0])) ((bin BinOp.eql false [] (sl rs_2 0) (D.v (Value.int IntKind.i64 1))).bind fun z => ifD z
 ((liveD (sl rs 0) (D.ref 0 0)).bind fun z => (liveD (sl us 0) (D.ref 0 0)).bind fun z_4 => (mkArr 1 [D.v (Value.int IntKind.i64 9999), D.v (Value.int IntKind.i64 10000), D.v (Value.int IntKind.i64 (-1))]).bind fun a =>
 (ref0 z_4 (sl us 0)).bind fun i => (liveD i i).bind fun i => callK (F_spec_l1Cur_among [i, a]) fun rs_3 us => ((liveD z (sl rs 0)).bind fun b => refI 4 b (sl rs_1 0)).bind fun z => (refAdd 3 z).bind fun z =>
 (stD 1 (sl rs 0) z (sl rs_3 0)).bind fun b => (liveD (sl us 0) (sl us 0)).bind fun _u => some (Out.ret [b] [sl us 0])) ((bin BinOp.eql false [] (sl rs_2 0) (D.v (Value.int IntKind.i64 2))).bind fun z => ifD z
 ((liveD (sl rs 0) (D.ref 0 0)).bind fun z => (liveD (sl us 0) (D.ref 0 0)).bind fun z_4 => (mkArr 1 [D.v (Value.string { data := { toList := [] } }), D.v (Value.string { data := { toList := [97] } }), D.v (Value.string
 { data := { toList := [122, 122] } })]).bind fun a => (ref0 z_4 (sl us 0)).bind fun i => (liveD i i).bind fun i => callK (F_spec_l1Cur_of [i, a]) fun rs_3 us => ((liveD z (sl rs 0)).bind fun b =>
 refI 4 b (sl rs_1 0)).bind fun z => (refAdd 0 z).bind fun z => (stD 1 (sl rs 0) z (sl rs_3 0)).bind fun b => (liveD (sl us 0) (sl us 0)).bind fun _u => some (Out.ret [b] [sl us 0])) ((bin BinOp.eql false [] (sl rs_2 0)
 (D.v (Value.int IntKind.i64 3))).bind fun z => ifD z ((sliceD false 4 (sl rs 0) (D.v (Value.int IntKind.i64 0)) (D.v (Value.int IntKind.i64 0))).bind fun y => (liveD (sl us 0) (sl us 0)).bind fun _u =>
 some (Out.ret [y] [sl us 0])) ((bin BinOp.eql false [] (sl rs_2 0) (D.v (Value.int IntKind.i64 4))).bind fun z => ifD z ((liveD (sl us 0) (D.ref 0 0)).bind fun z => (ref0 z (sl us 0)).bind fun i =>
 (liveD i i).bind fun i => callK (F_spec_l1Cur_pick [i, D.v (Value.int IntKind.i64 2)]) fun rs us => (bin BinOp.add false [] (D.v (Value.int IntKind.i64 32)) (sl rs 0)).bind fun z => (loopC (fun s =>
 (liveD (sl s 1) (D.ref 0 0)).bind fun z => ((liveD z (sl s 1)).bind (lenD false)).bind fun z => (bin BinOp.lss false [] z (sl s 2)).bind fun z => ifD z ((liveD (sl s 1) (D.ref 0 0)).bind fun z => ((liveD z (sl s 1)).bind
 (lenD false)).bind fun z => (bin BinOp.quo false [] z (D.v (Value.int IntKind.i64 6))).bind fun z_4 => (bin BinOp.add false [] (D.v (Value.int IntKind.i64 97)) z_4).bind fun z_5 => (convD (some IntKind.u8) false z_5).bind
 fun z_6 => (bin BinOp.rem false [] z (D.v (Value.int IntKind.i64 6))).bind fun z_7 => (bin BinOp.add false [] (D.v (Value.int IntKind.i64 97)) z_7).bind fun z_8 => (convD (some IntKind.u8) false z_8).bind fun z_9 =>
 (mkArr 1 [z_6, z_9]).bind fun a => (strD a).bind fun z_10 => (bin BinOp.quo false [] z (D.v (Value.int IntKind.i64 10))).bind fun z_11 => (bin BinOp.rem false [] z (D.v (Value.int IntKind.i64 10))).bind fun z => (bldD
 [(0, 1), (1, 1), (2, 1), (3, 1)] [D.v (Value.string { data := { toList := [] } }), D.v (Value.int IntKind.i64 0), D.v (Value.int IntKind.i64 0), D.v (Value.int IntKind.i64 0)] [z_10, z_11, z, D.v (Value.int IntKind.i64
 1)]).bind fun z => (mkArr 4 [z]).bind fun a => (chkA a).bind fun b => (appD 4 40 (sl s 1) b).bind fun y => some (Out.nrm [sl s 0, y, sl s 2])) (some (Out.ext 1 [sl s 0, sl s 1]))) [sl us 0, D.arr 4 [], z]).bind fun o =>
 outK o (fun i s => ifN (i.beq 1) ((liveD (sl s 0) (sl s 0)).bind fun _u => some (Out.ret [sl s 1] [sl s 0])) (ifN (i.beq 0) ((liveD (sl s 0) (sl s 0)).bind fun _u => some (Out.ret [sl s 1] [sl s 0])) none))
 fun a b => some (Out.ret a b)) ((liveD (sl us 0) (sl us 0)).bind fun _u => some (Out.ret [sl rs 0] [sl us 0]))))))) := by kernel_rfl
theorem t_spec_l1Cur_codesOf (x0 x1 : D) : F_spec_l1Cur_codesOf [x0, x1] =
  ((liveD x0 (D.ref 0 0)).bind fun z => (ref0 z x0).bind fun i => (liveD i i).bind fun i => callK (F_spec_l1Cur_pick [i, D.v (Value.int IntKind.i64 7)]) fun rs us => (liveD (sl us 0) (D.ref 0 0)).bind fun z =>
 (ref0 z (sl us 0)).bind fun i => (liveD i i).bind fun i => callK (F_spec_l1Cur_one [i, D.v (Value.int IntKind.i64 12)]) fun rs_1 us => ifD (sl rs_1 0) ((liveD (sl us 0) (D.ref 0 0)).bind fun z =>
 (ref0 z (sl us 0)).bind fun i => (liveD i i).bind fun i => callK (F_spec_l1Cur_pick [i, D.v (Value.int IntKind.i64 2)]) fun rs us => (bin BinOp.add false [] (D.v (Value.int IntKind.i64 60)) (sl rs 0)).bind fun z => (loopC
 (fun s => (liveD (sl s 2) (D.ref 0 0)).bind fun z => ((liveD z (sl s 2)).bind (lenD false)).bind fun z => (bin BinOp.lss false [] z (sl s 3)).bind fun z => ifD z ((lenD false (sl s 1)).bind fun z =>
 (bin BinOp.eql false [] z (D.v (Value.int IntKind.i64 0))).bind fun z => (gate D.bad z false (liveD (sl s 0) (D.ref 0 0))).bind fun z_1 => gateC z false ((ref0 z_1 (sl s 0)).bind fun i => (liveD i i).bind fun i =>
 callK (F_spec_l1Cur_one [i, D.v (Value.int IntKind.i64 60)]) fun rs us => some (Out.nrm [sl rs 0, sl us 0])) [D.tup [], sl s 0] fun outs => (pickD z (D.v (Value.bool true)) (sl outs 0)).bind fun z => ifD z
 ((liveD (sl outs 1) (D.ref 0 0)).bind fun z => (mkArr 1 [D.v (Value.string { data := { toList := [122, 122, 122] } }), D.v (Value.string { data := { toList := [] } }), D.v (Value.string
 { data := { toList := [97] } })]).bind fun a => (ref0 z (sl outs 1)).bind fun i => (liveD i i).bind fun i => callK (F_spec_l1Cur_of [i, a]) fun rs us => (mkArr 1 [sl rs 0]).bind fun a => (chkA a).bind fun b =>
 (appD 1 16 (sl s 2) b).bind fun y => some (Out.nrm [sl us 0, sl s 1, y, sl s 3])) ((liveD (sl outs 1) (D.ref 0 0)).bind fun z => (lenD false (sl s 1)).bind fun z_2 => (ref0 z (sl outs 1)).bind fun i =>
 (liveD i i).bind fun i => callK (F_spec_l1Cur_pick [i, z_2]) fun rs us => (Option.map D.ptr (elemD 4 (sl s 1) (sl rs 0))).bind fun z => (offD 0 z).bind fun z => ((ldD false 1 z).bind chkV).bind fun z =>
 (mkArr 1 [z]).bind fun a => (chkA a).bind fun b => (appD 1 16 (sl s 2) b).bind fun y => some (Out.nrm [sl us 0, sl s 1, y, sl s 3]))) (some (Out.ext 0 [sl s 0, sl s 2]))) [sl us 0, x1, D.arr 1 [], z]).bind fun o => outK o
 (fun i s => ifN (i.beq 0) ((liveD (sl s 0) (sl s 0)).bind fun _u => some (Out.ret [sl s 1] [sl s 0])) none) fun a b => some (Out.ret a b)) ((loopC (fun s => (liveD (sl s 2) (D.ref 0 0)).bind fun z =>
 ((liveD z (sl s 2)).bind (lenD false)).bind fun z => (bin BinOp.lss false [] z (sl s 3)).bind fun z => ifD z ((lenD false (sl s 1)).bind fun z => (bin BinOp.eql false [] z (D.v (Value.int IntKind.i64 0))).bind fun z =>
 (gate D.bad z false (liveD (sl s 0) (D.ref 0 0))).bind fun z_1 => gateC z false ((ref0 z_1 (sl s 0)).bind fun i => (liveD i i).bind fun i => callK (F_spec_l1Cur_one [i, D.v (Value.int IntKind.i64 60)])
 fun rs us => some (Out.nrm [sl rs 0, sl us 0])) [D.tup [], sl s 0] fun outs => (pickD z (D.v (Value.bool true)) (sl outs 0)).bind fun z => ifD z ((liveD (sl outs 1) (D.ref 0 0)).bind fun z => (mkArr 1
 [D.v (Value.string { data := { toList := [122, 122, 122] } }), D.v (Value.string { data := { toList := [] } }), D.v (Value.string { data := { toList := [97] } })]).bind fun a => (ref0 z (sl outs 1)).bind fun i =>
 (liveD i i).bind fun i => callK (F_spec_l1Cur_of [i, a]) fun rs us => (mkArr 1 [sl rs 0]).bind fun a => (chkA a).bind fun b => (appD 1 16 (sl s 2) b).bind fun y => some (Out.nrm [sl us 0, sl s 1, y, sl s 3]))
 ((liveD (sl outs 1) (D.ref 0 0)).bind fun z => (lenD false (sl s 1)).bind fun z_2 => (ref0 z (sl outs 1)).bind fun i => (liveD i i).bind fun i => callK (F_spec_l1Cur_pick [i, z_2]) fun rs us =>
 (Option.map D.ptr (elemD 4 (sl s 1) (sl rs 0))).bind fun z => (offD 0 z).bind fun z => ((ldD false 1 z).bind chkV).bind fun z => (mkArr 1 [z]).bind fun a => (chkA a).bind fun b => (appD 1 16 (sl s 2) b).bind fun y =>
 some (Out.nrm [sl us 0, sl s 1, y, sl s 3]))) (some (Out.ext 0 [sl s 0, sl s 2]))) [sl us 0, x1, D.arr 1 [], sl rs 0]).bind fun o => outK o (fun i s =>
 ifN (i.beq 0) ((liveD (sl s 0) (sl s 0)).bind fun _u => some (Out.ret [sl s 1] [sl s 0])) none) fun a b => some (Out.ret a b))) := by kernel_rfl
theorem t_spec_DrawHandWay (x0 : D) : F_spec_DrawHandWay [x0] =
  ((bldD [(0, 1)] [D.arr 1 [], D.v (Value.int IntKind.i64 0), D.v (Value.int IntKind.u64 0)] [x0]).bind fun z => (boxD 3 z).bind fun y => (liveD y (D.ref 0 0)).bind fun z => (liveD z z).bind fun z_1 =>
 (ref0 z_1 y).bind fun i => (liveD i i).bind fun i => callK (F_spec_l1Cur_anyCase [i]) fun rs us => (liveD z z).bind fun z => (ref0 z (sl us 0)).bind fun i => (liveD i i).bind fun i =>
 callK (F_spec_l1Cur_codesOf [i, sl rs 0]) fun rs_1 _u => some (Out.ret [sl rs 0, sl rs_1 0] [])) := by kernel_rfl
theorem t_spec_DrawTakeTypes (x0 : D) : F_spec_DrawTakeTypes [x0] =
  (callK (F_spec_DrawHandWay [x0]) fun rs _u => (tupAt (D.tup rs) 0).bind fun z => (tupAt (D.tup rs) 1).bind fun y => some (Out.ret [z, y] [])) := by kernel_rfl
theorem t_impl_boxAt (x0 x1 : D) : F_impl_boxAt [x0, x1] =
  ((lenD false x0).bind fun z => (loopC (fun s => (bin BinOp.lss false [] (sl s 3) (sl s 2)).bind fun z => ifD z ((Option.map D.ptr (elemD 4 (sl s 1) (sl s 3))).bind fun z => ((ldD true 4 z).bind chkV).bind fun z => (stD 4
 (D.agg [D.v (Value.string { data := { toList := [] } }), D.v (Value.int IntKind.i64 0), D.v (Value.int IntKind.i64 0), D.v (Value.int IntKind.i64 0)]) (D.ref 0 0) z).bind fun b => (liveD b (D.ref 0 0)).bind fun z =>
 ((atD b z).bind (takeD false 1)).bind fun z => (bin BinOp.eql false [] z (sl s 0)).bind fun z => ifD z (some (Out.ret [sl s 3] [])) ((bin BinOp.add false [] (sl s 3) (D.v (Value.int IntKind.i64 1))).bind fun z =>
 some (Out.nrm [sl s 0, sl s 1, sl s 2, z]))) (some (Out.ext 0 []))) [x1, x0, z, D.v (Value.int IntKind.i64 0)]).bind fun o =>
 outK o (fun i _u => ifN (i.beq 0) (some (Out.ret [D.v (Value.int IntKind.i64 (-1))] [])) none) fun a b => some (Out.ret a b)) := by kernel_rfl
theorem t_impl_within (x0 x1 x2 : D) : F_impl_within [x0, x1, x2] =
  ((bin BinOp.geq false [] x0 x1).bind fun z => (gate (D.tup []) z true (some x0)).bind fun z_1 => (gate (D.tup []) z true (some x2)).bind fun z_2 => (gate (D.tup []) z true (bin BinOp.leq false [] z_1 z_2)).bind fun z_3 =>
 (pickD z z_3 (D.v (Value.bool false))).bind fun z => some (Out.ret [z] [])) := by kernel_rfl
theorem t_impl_areLetters (x0 x1 x2 : D) : F_impl_areLetters [x0, x1, x2] =
  ((loopC (fun s => (lenD true (sl s 0)).bind fun z => (bin BinOp.lss false [] (sl s 3) z).bind fun z => ifD z ((charD (sl s 0) (sl s 3)).bind fun z => (bin BinOp.lss false [] z (D.v (Value.int IntKind.u8 97))).bind fun z =>
 (gate (D.tup []) z false (some (sl s 0))).bind fun z_1 => (gate (D.tup []) z false (some (sl s 3))).bind fun z_2 => (gate (D.tup []) z false (charD z_1 z_2)).bind fun z_3 =>
 (gate (D.tup []) z false (bin BinOp.gtr false [] z_3 (D.v (Value.int IntKind.u8 122)))).bind fun z_4 => (pickD z (D.v (Value.bool true)) z_4).bind fun z => ifD z (some (Out.ret [D.v (Value.bool false)] []))
 ((bin BinOp.add false [] (sl s 3) (D.v (Value.int IntKind.i64 1))).bind fun z => some (Out.nrm [sl s 0, sl s 1, sl s 2, z]))) (some (Out.ext 0 [sl s 0, sl s 1, sl s 2]))) [x0, x1, x2, D.v (Value.int IntKind.i64 0)]).bind
 fun o => outK o (fun i s => ifN (i.beq 0) ((lenD true (sl s 0)).bind fun z => callK (F_impl_within [z, sl s 1, sl s 2]) fun rs _u => some (Out.ret [sl rs 0] [])) none) fun a b => some (Out.ret a b)) := by kernel_rfl
theorem t_impl_isCode (x0 : D) : F_impl_isCode [x0] =
  (callK (F_impl_areLetters [x0, D.v (Value.int IntKind.i64 1), D.v (Value.int IntKind.i64 3)]) fun rs _u => some (Out.ret [sl rs 0] [])) := by kernel_rfl
theorem t_impl_isPlace (x0 : D) : F_impl_isPlace [x0] =
  (callK (F_impl_within [x0, D.v (Value.int IntKind.i64 0), D.v (Value.int IntKind.i64 9)]) fun rs _u => some (Out.ret [sl rs 0] [])) := by kernel_rfl
theorem t_impl_IsBox (x0 : D) : F_impl_IsBox [x0] =
  ((boxD 4 x0).bind fun y => (liveD y (D.ref 0 0)).bind fun z => ((atD y z).bind (takeD false 1)).bind fun z => callK (F_impl_isCode [z]) fun rs _u => (gate D.bad (sl rs 0) true (liveD y (D.ref 0 1))).bind fun z =>
 (gate (D.tup []) (sl rs 0) true ((atD y z).bind (takeD false 1))).bind fun z => gateC (sl rs 0) true (callK (F_impl_isPlace [z]) fun rs _u => some (Out.nrm [sl rs 0])) [D.tup []] fun outs =>
 (pickD (sl rs 0) (sl outs 0) (D.v (Value.bool false))).bind fun z => (gate D.bad z true (liveD y (D.ref 0 2))).bind fun z_1 => (gate (D.tup []) z true ((atD y z_1).bind (takeD false 1))).bind fun z_2 =>
 gateC z true (callK (F_impl_isPlace [z_2]) fun rs _u => some (Out.nrm [sl rs 0])) [D.tup []] fun outs => (pickD z (sl outs 0) (D.v (Value.bool false))).bind fun z =>
 (gate D.bad z true (liveD y (D.ref 0 3))).bind fun z_3 => (gate (D.tup []) z true ((atD y z_3).bind (takeD false 1))).bind fun z_4 => gateC z true (callK
 (F_impl_within [z_4, D.v (Value.int IntKind.i64 0), D.v (Value.int IntKind.i64 9999)]) fun rs _u => some (Out.nrm [sl rs 0])) [D.tup []] fun outs =>
 (pickD z (sl outs 0) (D.v (Value.bool false))).bind fun z => some (Out.ret [z] [])) := by kernel_rfl
theorem t_impl_isTaken (x0 x1 x2 : D) : F_impl_isTaken [x0, x1, x2] =
  ((lenD false x0).bind fun z => (loopC (fun s => (bin BinOp.lss false [] (sl s 4) (sl s 3)).bind fun z => ifD z ((Option.map D.ptr (elemD 4 (sl s 2) (sl s 4))).bind fun z => ((ldD true 4 z).bind chkV).bind fun z => (stD 4
 (D.agg [D.v (Value.string { data := { toList := [] } }), D.v (Value.int IntKind.i64 0), D.v (Value.int IntKind.i64 0), D.v (Value.int IntKind.i64 0)]) (D.ref 0 0) z).bind fun b => (liveD b (D.ref 0 1)).bind fun z =>
 ((atD b z).bind (takeD false 1)).bind fun z => (bin BinOp.eql false [] z (sl s 0)).bind fun z => (gate D.bad z true (liveD b (D.ref 0 2))).bind fun z_1 =>
 (gate (D.tup []) z true ((atD b z_1).bind (takeD false 1))).bind fun z_2 => (gate (D.tup []) z true (some (sl s 1))).bind fun z_3 => (gate (D.tup []) z true (bin BinOp.eql false [] z_2 z_3)).bind fun z_4 =>
 (pickD z z_4 (D.v (Value.bool false))).bind fun z => ifD z (some (Out.ret [D.v (Value.bool true)] [])) ((bin BinOp.add false [] (sl s 4) (D.v (Value.int IntKind.i64 1))).bind fun z =>
 some (Out.nrm [sl s 0, sl s 1, sl s 2, sl s 3, z]))) (some (Out.ext 0 []))) [x1, x2, x0, z, D.v (Value.int IntKind.i64 0)]).bind fun o =>
 outK o (fun i _u => ifN (i.beq 0) (some (Out.ret [D.v (Value.bool false)] [])) none) fun a b => some (Out.ret a b)) := by kernel_rfl
theorem t_impl_IsCase (x0 : D) : F_impl_IsCase [x0] =
  ((lenD false x0).bind fun z => (loopC (fun s => (bin BinOp.lss false [] (sl s 3) (sl s 2)).bind fun z => ifD z ((Option.map D.ptr (elemD 4 (sl s 1) (sl s 3))).bind fun z => ((ldD true 4 z).bind chkV).bind fun z => (stD 4
 (D.agg [D.v (Value.string { data := { toList := [] } }), D.v (Value.int IntKind.i64 0), D.v (Value.int IntKind.i64 0), D.v (Value.int IntKind.i64 0)]) (D.ref 0 0) z).bind fun b => (fldD true 4 0 b).bind fun z =>
 callK (F_impl_IsBox [z]) fun rs _u => (un UnOp.not (sl rs 0)).bind fun z => (gate (D.tup []) z false (some (sl s 3))).bind fun z_1 => (gate (D.tup []) z false
 (bin BinOp.gtr false [] z_1 (D.v (Value.int IntKind.i64 0)))).bind fun z_2 => (gate (D.tup []) z false (some z_2)).bind fun z_3 => (gate (D.tup []) z_3 true (some (sl s 0))).bind fun z_4 =>
 (gate (D.tup []) z_3 true (some (sl s 3))).bind fun z_5 => (gate (D.tup []) z_3 true (bin BinOp.sub false [] z_5 (D.v (Value.int IntKind.i64 1)))).bind fun z_6 =>
 (gate (D.tup []) z_3 true (Option.map D.ptr (elemD 4 z_4 z_6))).bind fun z_7 => (gate (D.tup []) z_3 true (offD 0 z_7)).bind fun z_8 => (gate (D.tup []) z_3 true ((ldD false 1 z_8).bind chkV)).bind fun z_9 =>
 (gate D.bad z_3 true (liveD b (D.ref 0 0))).bind fun z_10 => (gate (D.tup []) z_3 true ((atD b z_10).bind (takeD false 1))).bind fun z_11 => (gate (D.tup []) z_3 true (bin BinOp.geq false [] z_9 z_11)).bind fun z_12 =>
 (gate (D.tup []) z false (pickD z_3 z_12 (D.v (Value.bool false)))).bind fun z_13 => (pickD z (D.v (Value.bool true)) z_13).bind fun z => (gate (D.tup []) z false (some (sl s 0))).bind fun z_14 =>
 (gate (D.tup []) z false (some (sl s 3))).bind fun z_15 => (gate (D.tup []) z false (sliceD false 4 z_14 (D.v (Value.int IntKind.i64 0)) z_15)).bind fun z_16 => (gate D.bad z false (liveD b (D.ref 0 1))).bind fun z_17 =>
 (gate (D.tup []) z false ((atD b z_17).bind (takeD false 1))).bind fun z_18 => (gate D.bad z false (liveD b (D.ref 0 2))).bind fun z_19 => (gate (D.tup []) z false ((atD b z_19).bind (takeD false 1))).bind fun z_20 =>
 gateC z false (callK (F_impl_isTaken [z_16, z_18, z_20]) fun rs _u => some (Out.nrm [sl rs 0])) [D.tup []] fun outs => (pickD z (D.v (Value.bool true)) (sl outs 0)).bind fun z => ifD z
 (some (Out.ret [D.v (Value.bool false)] [])) ((bin BinOp.add false [] (sl s 3) (D.v (Value.int IntKind.i64 1))).bind fun z => some (Out.nrm [sl s 0, sl s 1, sl s 2, z]))) (some (Out.ext 0 [sl s 0])))
 [x0, x0, z, D.v (Value.int IntKind.i64 0)]).bind fun o => outK o (fun i s => ifN (i.beq 0) ((lenD false (sl s 0)).bind fun z =>
 callK (F_impl_within [z, D.v (Value.int IntKind.i64 1), D.v (Value.int IntKind.i64 32)]) fun rs _u => some (Out.ret [sl rs 0] [])) none) fun a b => some (Out.ret a b)) := by kernel_rfl
theorem t_impl_areCodes (x0 x1 : D) : F_impl_areCodes [x0, x1] =
  ((lenD false x1).bind fun z => (loopC (fun s => (bin BinOp.lss false [] (sl s 4) (sl s 3)).bind fun z => ifD z ((Option.map D.ptr (elemD 1 (sl s 2) (sl s 4))).bind fun z => ((ldD false 1 z).bind chkV).bind fun z =>
 callK (F_impl_boxAt [sl s 0, z]) fun rs _u => (bin BinOp.lss false [] (sl rs 0) (D.v (Value.int IntKind.i64 0))).bind fun z => ifD z (some (Out.ret [D.v (Value.bool false)] []))
 ((bin BinOp.add false [] (sl s 4) (D.v (Value.int IntKind.i64 1))).bind fun z => some (Out.nrm [sl s 0, sl s 1, sl s 2, sl s 3, z]))) (some (Out.ext 0 [sl s 0, sl s 1])))
 [x0, x1, x1, z, D.v (Value.int IntKind.i64 0)]).bind fun o => outK o (fun i s => ifN (i.beq 0) (callK (F_impl_IsCase [sl s 0]) fun rs _u => (gate (D.tup []) (sl rs 0) true (some (sl s 1))).bind fun z =>
 (gate (D.tup []) (sl rs 0) true (lenD false z)).bind fun z => (gate (D.tup []) (sl rs 0) true (bin BinOp.leq false [] z (D.v (Value.int IntKind.i64 60)))).bind
 fun z => (pickD (sl rs 0) z (D.v (Value.bool false))).bind fun z => some (Out.ret [z] [])) none) fun a b => some (Out.ret a b)) := by kernel_rfl
theorem t_impl_changed (x0 x1 x2 : D) : F_impl_changed [x0, x1, x2] =
  (callK (F_impl_areCodes [x0, x1]) fun rs _u => (un UnOp.not (sl rs 0)).bind fun z => ifD z ((mkArr 4 []).bind fun a => some (Out.ret [a, D.v (Value.bool false)] [])) ((mkArr 4 []).bind fun a => (chkA x0).bind fun b =>
 (appD 4 40 a b).bind fun y => (lenD false x1).bind fun z => (loopC (fun s => (bin BinOp.lss false [] (sl s 5) (sl s 4)).bind fun z => ifD z ((Option.map D.ptr (elemD 1 (sl s 3) (sl s 5))).bind fun z =>
 ((ldD false 1 z).bind chkV).bind fun z => (liveD (sl s 2) (D.ref 0 0)).bind fun z_1 => callK (F_impl_boxAt [sl s 0, z]) fun rs _u => ((liveD z_1 (sl s 2)).bind fun b => refI 4 b (sl rs 0)).bind fun z =>
 (refAdd 3 z).bind fun z => ((atD (sl s 2) z).bind (takeD false 1)).bind fun z => (bin BinOp.add false [] z (sl s 1)).bind fun z => ((liveD z_1 (sl s 2)).bind fun b => refI 4 b (sl rs 0)).bind fun z_2 =>
 (refAdd 3 z_2).bind fun z_3 => (stD 1 (sl s 2) z_3 z).bind fun b => (bin BinOp.add false [] (sl s 5) (D.v (Value.int IntKind.i64 1))).bind fun z => some (Out.nrm [sl s 0, sl s 1, b, sl s 3, sl s 4, z]))
 (some (Out.ext 0 [sl s 2]))) [x0, x2, y, x1, z, D.v (Value.int IntKind.i64 0)]).bind fun o => outK o (fun i s => ifN (i.beq 0) ((liveD (sl s 0) (D.ref 0 0)).bind fun z => (liveD z (sl s 0)).bind fun i =>
 callK (F_impl_IsCase [i]) fun rs _u => (un UnOp.not (sl rs 0)).bind fun z => ifD z ((mkArr 4 []).bind fun a => some (Out.ret [a, D.v (Value.bool false)] [])) (some (Out.ret [sl s 0, D.v (Value.bool true)] []))) none)
 fun a b => some (Out.ret a b))) := by kernel_rfl
theorem t_impl_TakeTypes (x0 x1 : D) : F_impl_TakeTypes [x0, x1] =
  (callK (F_impl_changed [x0, x1, D.v (Value.int IntKind.i64 (-1))]) fun rs _u => (tupAt (D.tup rs) 0).bind fun y => (tupAt (tupCut (D.tup rs) 0) 1).bind fun z => some (Out.ret [y, z] [])) := by kernel_rfl
theorem t_spec_caFind (x0 x1 : D) : F_spec_caFind [x0, x1] =
  ((lenD false x0).bind fun z => (loopC (fun s => (bin BinOp.lss false [] (sl s 3) (sl s 2)).bind fun z => ifD z ((Option.map D.ptr (elemD 4 (sl s 1) (sl s 3))).bind fun z => ((ldD true 4 z).bind chkV).bind fun z => (stD 4
 (D.agg [D.v (Value.string { data := { toList := [] } }), D.v (Value.int IntKind.i64 0), D.v (Value.int IntKind.i64 0), D.v (Value.int IntKind.i64 0)]) (D.ref 0 0) z).bind fun b => (liveD b (D.ref 0 0)).bind fun z =>
 ((atD b z).bind (takeD false 1)).bind fun z => (bin BinOp.eql false [] z (sl s 0)).bind fun z => ifD z (some (Out.ret [sl s 3] [])) ((bin BinOp.add false [] (sl s 3) (D.v (Value.int IntKind.i64 1))).bind fun z =>
 some (Out.nrm [sl s 0, sl s 1, sl s 2, z]))) (some (Out.ext 0 []))) [x1, x0, z, D.v (Value.int IntKind.i64 0)]).bind fun o =>
 outK o (fun i _u => ifN (i.beq 0) (some (Out.ret [D.v (Value.int IntKind.i64 (-1))] [])) none) fun a b => some (Out.ret a b)) := by kernel_rfl
theorem t_spec_l1In (x0 x1 x2 : D) : F_spec_l1In [x0, x1, x2] =
  ((bin BinOp.geq false [] x0 x1).bind fun z => (gate (D.tup []) z true (some x0)).bind fun z_1 => (gate (D.tup []) z true (some x2)).bind fun z_2 => (gate (D.tup []) z true (bin BinOp.leq false [] z_1 z_2)).bind fun z_3 =>
 (pickD z z_3 (D.v (Value.bool false))).bind fun z => some (Out.ret [z] [])) := by kernel_rfl
theorem t_spec_tyLetters (x0 x1 : D) : F_spec_tyLetters [x0, x1] =
  ((loopC (fun s => (lenD true (sl s 0)).bind fun z => (bin BinOp.lss false [] (sl s 2) z).bind fun z => ifD z ((charD (sl s 0) (sl s 2)).bind fun z => (bin BinOp.lss false [] z (D.v (Value.int IntKind.u8 97))).bind fun z =>
 (gate (D.tup []) z false (some (sl s 0))).bind fun z_1 => (gate (D.tup []) z false (some (sl s 2))).bind fun z_2 => (gate (D.tup []) z false (charD z_1 z_2)).bind fun z_3 =>
 (gate (D.tup []) z false (bin BinOp.gtr false [] z_3 (D.v (Value.int IntKind.u8 122)))).bind fun z_4 => (pickD z (D.v (Value.bool true)) z_4).bind fun z => ifD z (some (Out.ret [D.v (Value.bool false)] []))
 ((bin BinOp.add false [] (sl s 2) (D.v (Value.int IntKind.i64 1))).bind fun z => some (Out.nrm [sl s 0, sl s 1, z]))) (some (Out.ext 0 [sl s 0, sl s 1]))) [x0, x1, D.v (Value.int IntKind.i64 0)]).bind fun o => outK o
 (fun i s => ifN (i.beq 0) ((lenD true (sl s 0)).bind fun z => callK (F_spec_l1In [z, D.v (Value.int IntKind.i64 1), sl s 1]) fun rs _u => some (Out.ret [sl rs 0] [])) none) fun a b => some (Out.ret a b)) := by kernel_rfl
theorem t_spec_caBox (x0 : D) : F_spec_caBox [x0] =
  ((boxD 4 x0).bind fun y => (liveD y (D.ref 0 0)).bind fun z => ((atD y z).bind (takeD false 1)).bind fun z => callK (F_spec_tyLetters [z, D.v (Value.int IntKind.i64 3)]) fun rs _u =>
 (gate D.bad (sl rs 0) true (liveD y (D.ref 0 1))).bind fun z => (gate (D.tup []) (sl rs 0) true ((atD y z).bind (takeD false 1))).bind fun z => gateC (sl rs 0) true
 (callK (F_spec_l1In [z, D.v (Value.int IntKind.i64 0), D.v (Value.int IntKind.i64 9)]) fun rs _u => some (Out.nrm [sl rs 0])) [D.tup []] fun outs => (pickD (sl rs 0) (sl outs 0) (D.v (Value.bool false))).bind fun z =>
 (gate D.bad z true (liveD y (D.ref 0 2))).bind fun z_1 => (gate (D.tup []) z true ((atD y z_1).bind (takeD false 1))).bind fun z_2 => gateC z true
 (callK (F_spec_l1In [z_2, D.v (Value.int IntKind.i64 0), D.v (Value.int IntKind.i64 9)]) fun rs _u => some (Out.nrm [sl rs 0])) [D.tup []] fun outs => (pickD z (sl outs 0) (D.v (Value.bool false))).bind fun z =>
 (gate D.bad z true (liveD y (D.ref 0 3))).bind fun z_3 => (gate (D.tup []) z true ((atD y z_3).bind (takeD false 1))).bind fun z_4 => gateC z true (callK
 (F_spec_l1In [z_4, D.v (Value.int IntKind.i64 0), D.v (Value.int IntKind.i64 9999)]) fun rs _u => some (Out.nrm [sl rs 0])) [D.tup []] fun outs =>
 (pickD z (sl outs 0) (D.v (Value.bool false))).bind fun z => some (Out.ret [z] [])) := by kernel_rfl
theorem t_spec_caGood (x0 : D) : F_spec_caGood [x0] =
  ((lenD false x0).bind fun z => (loopC (fun s => (bin BinOp.lss false [] (sl s 3) (sl s 2)).bind fun z => ifD z ((Option.map D.ptr (elemD 4 (sl s 1) (sl s 3))).bind fun z => ((ldD true 4 z).bind chkV).bind fun z => (stD 4
 (D.agg [D.v (Value.string { data := { toList := [] } }), D.v (Value.int IntKind.i64 0), D.v (Value.int IntKind.i64 0), D.v (Value.int IntKind.i64 0)]) (D.ref 0 0) z).bind fun b => (fldD true 4 0 b).bind fun z =>
 callK (F_spec_caBox [z]) fun rs _u => (un UnOp.not (sl rs 0)).bind fun z => (gate (D.tup []) z false (some (sl s 3))).bind fun z_1 => (gate (D.tup []) z false
 (bin BinOp.gtr false [] z_1 (D.v (Value.int IntKind.i64 0)))).bind fun z_2 => (gate (D.tup []) z false (some z_2)).bind fun z_3 => (gate (D.tup []) z_3 true (some (sl s 0))).bind fun z_4 =>
 (gate (D.tup []) z_3 true (some (sl s 3))).bind fun z_5 => (gate (D.tup []) z_3 true (bin BinOp.sub false [] z_5 (D.v (Value.int IntKind.i64 1)))).bind fun z_6 =>
 (gate (D.tup []) z_3 true (Option.map D.ptr (elemD 4 z_4 z_6))).bind fun z_7 => (gate (D.tup []) z_3 true (offD 0 z_7)).bind fun z_8 => (gate (D.tup []) z_3 true ((ldD false 1 z_8).bind chkV)).bind fun z_9 =>
 (gate D.bad z_3 true (liveD b (D.ref 0 0))).bind fun z_10 => (gate (D.tup []) z_3 true ((atD b z_10).bind (takeD false 1))).bind fun z_11 => (gate (D.tup []) z_3 true (bin BinOp.geq false [] z_9 z_11)).bind fun z_12 =>
 (gate (D.tup []) z false (pickD z_3 z_12 (D.v (Value.bool false)))).bind fun z_13 => (pickD z (D.v (Value.bool true)) z_13).bind fun z => ifD z (some (Out.ret [D.v (Value.bool false)] []))
 ((sliceD false 4 (sl s 0) (D.v (Value.int IntKind.i64 0)) (sl s 3)).bind fun z => (lenD false z).bind fun z_14 => (loopC (fun s => (bin BinOp.lss false [] (sl s 7) (sl s 6)).bind fun z => ifD z ((Option.map D.ptr
 (elemD 4 (sl s 5) (sl s 7))).bind fun z => ((ldD true 4 z).bind chkV).bind fun z => (stD 4 (D.agg [D.v (Value.string { data := { toList := [] } }), D.v (Value.int IntKind.i64 0), D.v (Value.int IntKind.i64 0),
 D.v (Value.int IntKind.i64 0)]) (D.ref 0 0) z).bind fun b => (liveD b (D.ref 0 1)).bind fun z => ((atD b z).bind (takeD false 1)).bind fun z => (liveD (sl s 1) (D.ref 0 1)).bind fun z_15 => ((atD (sl s 1) z_15).bind
 (takeD false 1)).bind fun z_16 => (bin BinOp.eql false [] z z_16).bind fun z => (gate D.bad z true (liveD b (D.ref 0 2))).bind fun z_17 => (gate (D.tup []) z true ((atD b z_17).bind (takeD false 1))).bind fun z_18 =>
 (gate D.bad z true (liveD (sl s 1) (D.ref 0 2))).bind fun z_19 => (gate (D.tup []) z true ((atD (sl s 1) z_19).bind (takeD false 1))).bind fun z_20 => (gate (D.tup []) z true (bin BinOp.eql false [] z_18 z_20)).bind
 fun z_21 => (pickD z z_21 (D.v (Value.bool false))).bind fun z => ifD z (some (Out.ret [D.v (Value.bool false)] [])) ((bin BinOp.add false [] (sl s 7) (D.v (Value.int IntKind.i64 1))).bind fun z => some (Out.nrm [sl s 0,
 sl s 1, sl s 2, sl s 3, sl s 4, sl s 5, sl s 6, z]))) (some (Out.ext 2 [sl s 0, sl s 2, sl s 3, sl s 4]))) [sl s 0, b, sl s 1, sl s 2, sl s 3, z, z_14, D.v (Value.int IntKind.i64 0)]).bind fun o => outK o (fun i s =>
 ifN (i.beq 2) ((bin BinOp.add false [] (sl s 3) (D.v (Value.int IntKind.i64 1))).bind fun z => some (Out.nrm [sl s 0, sl s 1, sl s 2, z])) (ifN (i.beq 1) ((bin BinOp.add false [] (sl s 3)
 (D.v (Value.int IntKind.i64 1))).bind fun z => some (Out.nrm [sl s 0, sl s 1, sl s 2, z])) (some (Out.ext i [sl s 0])))) fun a b => some (Out.ret a b))) (some (Out.ext 0 [sl s 0])))
 [x0, x0, z, D.v (Value.int IntKind.i64 0)]).bind fun o => outK o (fun i s => ifN (i.beq 0) ((lenD false (sl s 0)).bind fun z =>
 callK (F_spec_l1In [z, D.v (Value.int IntKind.i64 1), D.v (Value.int IntKind.i64 32)]) fun rs _u => some (Out.ret [sl rs 0] [])) none) fun a b => some (Out.ret a b)) := by kernel_rfl
theorem t_spec_caAsked (x0 x1 : D) : F_spec_caAsked [x0, x1] =
  ((lenD false x1).bind fun z => (loopC (fun s => (bin BinOp.lss false [] (sl s 4) (sl s 3)).bind fun z => ifD z ((Option.map D.ptr (elemD 1 (sl s 2) (sl s 4))).bind fun z => ((ldD false 1 z).bind chkV).bind fun z =>
 callK (F_spec_caFind [sl s 0, z]) fun rs _u => (bin BinOp.lss false [] (sl rs 0) (D.v (Value.int IntKind.i64 0))).bind fun z => ifD z (some (Out.ret [D.v (Value.bool false)] []))
 ((bin BinOp.add false [] (sl s 4) (D.v (Value.int IntKind.i64 1))).bind fun z => some (Out.nrm [sl s 0, sl s 1, sl s 2, sl s 3, z]))) (some (Out.ext 0 [sl s 0, sl s 1])))
 [x0, x1, x1, z, D.v (Value.int IntKind.i64 0)]).bind fun o => outK o (fun i s => ifN (i.beq 0) (callK (F_spec_caGood [sl s 0]) fun rs _u => (gate (D.tup []) (sl rs 0) true (some (sl s 1))).bind fun z =>
 (gate (D.tup []) (sl rs 0) true (lenD false z)).bind fun z => (gate (D.tup []) (sl rs 0) true (bin BinOp.leq false [] z (D.v (Value.int IntKind.i64 60)))).bind
 fun z => (pickD (sl rs 0) z (D.v (Value.bool false))).bind fun z => some (Out.ret [z] [])) none) fun a b => some (Out.ret a b)) := by kernel_rfl
theorem t_spec_caMove (x0 x1 x2 : D) : F_spec_caMove [x0, x1, x2] =
  ((mkArr 4 []).bind fun a => (chkA x0).bind fun b => (appD 4 40 a b).bind fun y => (lenD false x1).bind fun z => (loopC (fun s => (bin BinOp.lss false [] (sl s 4) (sl s 3)).bind fun z => ifD z
 ((Option.map D.ptr (elemD 1 (sl s 2) (sl s 4))).bind fun z => ((ldD false 1 z).bind chkV).bind fun z => (liveD (sl s 1) (D.ref 0 0)).bind fun z_1 => (liveD (sl s 1) (D.ref 0 0)).bind fun z_2 =>
 (liveD z_2 (sl s 1)).bind fun i => callK (F_spec_caFind [i, z]) fun rs _u => ((liveD z_1 (sl s 1)).bind fun b => refI 4 b (sl rs 0)).bind fun z => (refAdd 3 z).bind fun z =>
 ((atD (sl s 1) z).bind (takeD false 1)).bind fun z => (bin BinOp.add false [] z (sl s 0)).bind fun z => ((liveD z_1 (sl s 1)).bind fun b => refI 4 b (sl rs 0)).bind fun z_3 => (refAdd 3 z_3).bind fun z_4 =>
 (stD 1 (sl s 1) z_4 z).bind fun b => (bin BinOp.add false [] (sl s 4) (D.v (Value.int IntKind.i64 1))).bind fun z => some (Out.nrm [sl s 0, b, sl s 2, sl s 3, z])) (some (Out.ext 0 [sl s 1])))
 [x2, y, x1, z, D.v (Value.int IntKind.i64 0)]).bind fun o => outK o (fun i s => ifN (i.beq 0) ((liveD (sl s 0) (D.ref 0 0)).bind fun z => (liveD z (sl s 0)).bind fun i => callK (F_spec_caGood [i]) fun rs _u =>
 (un UnOp.not (sl rs 0)).bind fun z => ifD z (some (Out.ret [D.arr 4 [], D.v (Value.bool false)] [])) (some (Out.ret [sl s 0, D.v (Value.bool true)] []))) none) fun a b => some (Out.ret a b)) := by kernel_rfl
theorem t_spec_TakeTypes (x0 x1 : D) : F_spec_TakeTypes [x0, x1] =
  (callK (F_spec_caAsked [x0, x1]) fun rs _u => (un UnOp.not (sl rs 0)).bind fun z => ifD z (some (Out.ret [D.arr 4 [], D.v (Value.bool false)] []))
 (callK (F_spec_caMove [x0, x1, D.v (Value.int IntKind.i64 (-1))]) fun rs _u => (tupAt (D.tup rs) 0).bind fun y => (tupAt (tupCut (D.tup rs) 0) 1).bind fun z => some (Out.ret [y, z] []))) := by kernel_rfl
theorem t_impl_TypesIn (x0 : D) : F_impl_TypesIn [x0] =
  (callK (F_impl_IsCase [x0]) fun rs _u => (un UnOp.not (sl rs 0)).bind fun z => ifD z (some (Out.ret [D.v (Value.int IntKind.i64 0), D.v (Value.bool false)] [])) ((lenD false x0).bind fun z => (loopC (fun s =>
 (bin BinOp.lss false [] (sl s 3) (sl s 2)).bind fun z => ifD z ((Option.map D.ptr (elemD 4 (sl s 1) (sl s 3))).bind fun z => ((ldD true 4 z).bind chkV).bind fun z => (stD 4 (D.agg
 [D.v (Value.string { data := { toList := [] } }), D.v (Value.int IntKind.i64 0), D.v (Value.int IntKind.i64 0), D.v (Value.int IntKind.i64 0)]) (D.ref 0 0) z).bind fun b => (liveD b (D.ref 0 3)).bind fun z =>
 ((atD b z).bind (takeD false 1)).bind fun z => (bin BinOp.add false [] (sl s 0) z).bind fun z => (bin BinOp.add false [] (sl s 3) (D.v (Value.int IntKind.i64 1))).bind fun z_1 => some (Out.nrm [z, sl s 1, sl s 2, z_1]))
 (some (Out.ext 0 [sl s 0]))) [D.v (Value.int IntKind.i64 0), x0, z, D.v (Value.int IntKind.i64 0)]).bind fun o => outK o (fun i s => ifN (i.beq 0) (some (Out.ret [sl s 0, D.v (Value.bool true)] [])) none) fun a b =>
 some (Out.ret a b))) := by kernel_rfl
theorem t_spec_caSum (x0 : D) : F_spec_caSum [x0] =
  ((lenD false x0).bind fun z => (loopC (fun s => (bin BinOp.lss false [] (sl s 3) (sl s 2)).bind fun z => ifD z ((Option.map D.ptr (elemD 4 (sl s 1) (sl s 3))).bind fun z => ((ldD true 4 z).bind chkV).bind fun z => (stD 4
 (D.agg [D.v (Value.string { data := { toList := [] } }), D.v (Value.int IntKind.i64 0), D.v (Value.int IntKind.i64 0), D.v (Value.int IntKind.i64 0)]) (D.ref 0 0) z).bind fun b => (liveD b (D.ref 0 3)).bind fun z =>
 ((atD b z).bind (takeD false 1)).bind fun z => (bin BinOp.add false [] (sl s 0) z).bind fun z => (bin BinOp.add false [] (sl s 3) (D.v (Value.int IntKind.i64 1))).bind fun z_1 => some (Out.nrm [z, sl s 1, sl s 2, z_1]))
 (some (Out.ext 0 [sl s 0]))) [D.v (Value.int IntKind.i64 0), x0, z, D.v (Value.int IntKind.i64 0)]).bind fun o => outK o (fun i s => ifN (i.beq 0) (some (Out.ret [sl s 0] [])) none) fun a b => some (Out.ret a b)) := by kernel_rfl
theorem t_spec_TypesIn (x0 : D) : F_spec_TypesIn [x0] =
  (callK (F_spec_caGood [x0]) fun rs _u => (un UnOp.not (sl rs 0)).bind fun z => ifD z (some (Out.ret [D.v (Value.int IntKind.i64 0), D.v (Value.bool false)] []))
 (callK (F_spec_caSum [x0]) fun rs _u => some (Out.ret [sl rs 0, D.v (Value.bool true)] []))) := by kernel_rfl
theorem t_impl_CaseText (x0 : D) : F_impl_CaseText [x0] =
  (callK (F_impl_IsCase [x0]) fun rs _u => (un UnOp.not (sl rs 0)).bind fun z => ifD z (some (Out.ret [D.v (Value.string { data := { toList := [] } }), D.v (Value.bool false)] [])) ((lenD false x0).bind fun z => (loopC
 (fun s => (bin BinOp.lss false [] (sl s 3) (sl s 2)).bind fun z => ifD z ((Option.map D.ptr (elemD 4 (sl s 1) (sl s 3))).bind fun z => ((ldD true 4 z).bind chkV).bind fun z => (stD 4 (D.agg
 [D.v (Value.string { data := { toList := [] } }), D.v (Value.int IntKind.i64 0), D.v (Value.int IntKind.i64 0), D.v (Value.int IntKind.i64 0)]) (D.ref 0 0) z).bind fun b => (liveD b (D.ref 0 0)).bind fun z =>
 ((atD b z).bind (takeD false 1)).bind fun z => (bin BinOp.add false [] z (D.v (Value.string { data := { toList := [64] } }))).bind fun z => (liveD b (D.ref 0 1)).bind fun z_1 =>
 ((atD b z_1).bind (takeD false 1)).bind fun z_2 => callK (fItoa [z_2]) fun rs _u => (bin BinOp.add false [] z (sl rs 0)).bind fun z => (bin BinOp.add false [] z (D.v (Value.string { data := { toList := [46] } }))).bind
 fun z => (liveD b (D.ref 0 2)).bind fun z_3 => ((atD b z_3).bind (takeD false 1)).bind fun z_4 => callK (fItoa [z_4]) fun rs _u => (bin BinOp.add false [] z (sl rs 0)).bind fun z => (bin BinOp.add false [] z
 (D.v (Value.string { data := { toList := [120] } }))).bind fun z => (liveD b (D.ref 0 3)).bind fun z_5 => ((atD b z_5).bind (takeD false 1)).bind fun z_6 => callK (fItoa [z_6]) fun rs _u =>
 (bin BinOp.add false [] z (sl rs 0)).bind fun z => (bin BinOp.add false [] z (D.v (Value.string { data := { toList := [59] } }))).bind fun z => (bin BinOp.add false [] (sl s 0) z).bind fun z =>
 (bin BinOp.add false [] (sl s 3) (D.v (Value.int IntKind.i64 1))).bind fun z_7 => some (Out.nrm [z, sl s 1, sl s 2, z_7])) (some (Out.ext 0 [sl s 0])))
 [D.v (Value.string { data := { toList := [] } }), x0, z, D.v (Value.int IntKind.i64 0)]).bind fun o => outK o (fun i s => ifN (i.beq 0) (some (Out.ret [sl s 0, D.v (Value.bool true)] [])) none) fun a b =>
 some (Out.ret a b))) := by kernel_rfl
theorem t_spec_caText (x0 : D) : F_spec_caText [x0] =
  ((lenD false x0).bind fun z => (loopC (fun s => (bin BinOp.lss false [] (sl s 3) (sl s 2)).bind fun z => ifD z ((Option.map D.ptr (elemD 4 (sl s 1) (sl s 3))).bind fun z => ((ldD true 4 z).bind chkV).bind fun z => (stD 4
 (D.agg [D.v (Value.string { data := { toList := [] } }), D.v (Value.int IntKind.i64 0), D.v (Value.int IntKind.i64 0), D.v (Value.int IntKind.i64 0)]) (D.ref 0 0) z).bind fun b => (liveD b (D.ref 0 0)).bind fun z =>
 ((atD b z).bind (takeD false 1)).bind fun z => (bin BinOp.add false [] z (D.v (Value.string { data := { toList := [64] } }))).bind fun z => (liveD b (D.ref 0 1)).bind fun z_1 =>
 ((atD b z_1).bind (takeD false 1)).bind fun z_2 => callK (F_spec_l1Num [z_2]) fun rs _u => (bin BinOp.add false [] z (sl rs 0)).bind fun z =>
 (bin BinOp.add false [] z (D.v (Value.string { data := { toList := [46] } }))).bind fun z => (liveD b (D.ref 0 2)).bind fun z_3 => ((atD b z_3).bind (takeD false 1)).bind fun z_4 => callK (F_spec_l1Num [z_4]) fun rs _u =>
 (bin BinOp.add false [] z (sl rs 0)).bind fun z => (bin BinOp.add false [] z (D.v (Value.string { data := { toList := [120] } }))).bind fun z => (liveD b (D.ref 0 3)).bind fun z_5 =>
 ((atD b z_5).bind (takeD false 1)).bind fun z_6 => callK (F_spec_l1Num [z_6]) fun rs _u => (bin BinOp.add false [] z (sl rs 0)).bind fun z => (bin BinOp.add false [] z
 (D.v (Value.string { data := { toList := [59] } }))).bind fun z => (bin BinOp.add false [] (sl s 0) z).bind fun z => (bin BinOp.add false [] (sl s 3) (D.v (Value.int IntKind.i64 1))).bind
 fun z_7 => some (Out.nrm [z, sl s 1, sl s 2, z_7])) (some (Out.ext 0 [sl s 0]))) [D.v (Value.string { data := { toList := [] } }), x0, z, D.v (Value.int IntKind.i64 0)]).bind
 fun o => outK o (fun i s => ifN (i.beq 0) (some (Out.ret [sl s 0] [])) none) fun a b => some (Out.ret a b)) := by kernel_rfl
theorem t_spec_CaseText (x0 : D) : F_spec_CaseText [x0] =
  (callK (F_spec_caGood [x0]) fun rs _u => (un UnOp.not (sl rs 0)).bind fun z => ifD z (some (Out.ret [D.v (Value.string { data := { toList := [] } }), D.v (Value.bool false)] []))
 (callK (F_spec_caText [x0]) fun rs _u => some (Out.ret [sl rs 0, D.v (Value.bool true)] []))) := by kernel_rfl
theorem t_laws_qBoxes (x0 x1 : D) : F_laws_qBoxes [x0, x1] =
  ((lenD false x0).bind fun z => (lenD false x1).bind fun z_1 => (bin BinOp.neq false [] z z_1).bind fun z => ifD z (some (Out.ret [D.v (Value.bool false)] [])) ((lenD false x0).bind fun z => (loopC (fun s =>
 (bin BinOp.lss false [] (sl s 3) (sl s 2)).bind fun z => ifD z ((Option.map D.ptr (elemD 4 (sl s 0) (sl s 3))).bind fun z => ((ldD true 4 z).bind chkV).bind fun z =>
 (Option.map D.ptr (elemD 4 (sl s 1) (sl s 3))).bind fun z_2 => ((ldD true 4 z_2).bind chkV).bind fun z_3 => (bin BinOp.neq false [3, 1, 1, 1] z z_3).bind fun z => ifD z (some (Out.ret [D.v (Value.bool false)] []))
 ((bin BinOp.add false [] (sl s 3) (D.v (Value.int IntKind.i64 1))).bind fun z => some (Out.nrm [sl s 0, sl s 1, sl s 2, z]))) (some (Out.ext 0 []))) [x0, x1, z, D.v (Value.int IntKind.i64 0)]).bind fun o =>
 outK o (fun i _u => ifN (i.beq 0) (some (Out.ret [D.v (Value.bool true)] [])) none) fun a b => some (Out.ret a b))) := by kernel_rfl
theorem t_impl_PutTypes (x0 x1 : D) : F_impl_PutTypes [x0, x1] =
  (callK (F_impl_changed [x0, x1, D.v (Value.int IntKind.i64 1)]) fun rs _u => (tupAt (D.tup rs) 0).bind fun y => (tupAt (tupCut (D.tup rs) 0) 1).bind fun z => some (Out.ret [y, z] [])) := by kernel_rfl
theorem t_impl_BoxOf (x0 x1 : D) : F_impl_BoxOf [x0, x1] =
  (callK (F_impl_boxAt [x0, x1]) fun rs _u => callK (F_impl_IsCase [x0]) fun rs_1 _u => (un UnOp.not (sl rs_1 0)).bind fun z => (gate (D.tup []) z false (some (sl rs 0))).bind fun z_1 =>
 (gate (D.tup []) z false (bin BinOp.lss false [] z_1 (D.v (Value.int IntKind.i64 0)))).bind fun z_2 => (pickD z (D.v (Value.bool true)) z_2).bind fun z =>
 ifD z (some (Out.ret [D.v (Value.int IntKind.i64 0), D.v (Value.bool false)] [])) (some (Out.ret [sl rs 0, D.v (Value.bool true)] []))) := by kernel_rfl
theorem t_spec_l1Most (x0 x1 : D) : F_spec_l1Most [x0, x1] =
  ((bin BinOp.gtr false [] x0 x1).bind fun z => ifD z (some (Out.ret [x0] [])) (some (Out.ret [x1] []))) := by kernel_rfl
theorem t_spec_DrawSwapBoxes (x0 : D) : F_spec_DrawSwapBoxes [x0] =
  ((bldD [(0, 1)] [D.arr 1 [], D.v (Value.int IntKind.i64 0), D.v (Value.int IntKind.u64 0)] [x0]).bind fun z => (boxD 3 z).bind fun y => (liveD y (D.ref 0 0)).bind fun z => (liveD z z).bind fun z_1 =>
 (ref0 z_1 y).bind fun i => (liveD i i).bind fun i => callK (F_spec_l1Cur_anyCase [i]) fun rs us => (liveD z z).bind fun z_2 => (lenD false (sl rs 0)).bind fun z_3 =>
 callK (F_spec_l1Most [D.v (Value.int IntKind.i64 1), z_3]) fun rs_1 _u => (ref0 z_2 (sl us 0)).bind fun i => (liveD i i).bind fun i => callK (F_spec_l1Cur_pick [i, sl rs_1 0]) fun rs_2 us => (liveD z z).bind fun z_4 =>
 (liveD z z).bind fun z_5 => (lenD false (sl rs 0)).bind fun z_6 => callK (F_spec_l1Most [D.v (Value.int IntKind.i64 1), z_6]) fun rs_3 _u => (ref0 z_5 (sl us 0)).bind fun i => (liveD i i).bind fun i =>
 callK (F_spec_l1Cur_pick [i, sl rs_3 0]) fun rs_4 us => (lenD false (sl rs 0)).bind fun z_7 => (bin BinOp.sub false [] z_7 (D.v (Value.int IntKind.i64 1))).bind fun z_8 => (liveD z z).bind fun z =>
 (lenD false (sl rs 0)).bind fun z_9 => (mkArr 1 [D.v (Value.int IntKind.i64 0), z_9, D.v (Value.int IntKind.i64 (-1))]).bind fun a => (ref0 z (sl us 0)).bind fun i => (liveD i i).bind fun i =>
 callK (F_spec_l1Cur_among [i, a]) fun rs_5 us => (mkArr 1 [D.v (Value.int IntKind.i64 0), sl rs_4 0, z_8, sl rs_5 0]).bind fun a => (ref0 z_4 (sl us 0)).bind fun i => (liveD i i).bind fun i =>
 callK (F_spec_l1Cur_among [i, a]) fun rs_6 _u => some (Out.ret [sl rs 0, sl rs_2 0, sl rs_6 0] [])) := by kernel_rfl
theorem t_impl_swap (x0 x1 x2 : D) : F_impl_swap [x0, x1, x2] =
  ((mkArr 4 []).bind fun a => (chkA x0).bind fun b => (appD 4 40 a b).bind fun y => (liveD y (D.ref 0 0)).bind fun z => (liveD y (D.ref 0 0)).bind fun z_1 => (Option.map D.ptr (elemD 4 x0 x2)).bind fun z_2 =>
 (offD 1 z_2).bind fun z_3 => ((ldD false 1 z_3).bind chkV).bind fun z_4 => (Option.map D.ptr (elemD 4 x0 x2)).bind fun z_5 => (offD 2 z_5).bind fun z_6 => ((ldD false 1 z_6).bind chkV).bind fun z_7 =>
 ((liveD z y).bind fun b => refI 4 b x1).bind fun z => (refAdd 1 z).bind fun z => (stD 1 y z z_4).bind fun b => ((liveD z_1 b).bind fun b => refI 4 b x1).bind fun z => (refAdd 2 z).bind fun z =>
 (stD 1 b z z_7).bind fun b => (liveD b (D.ref 0 0)).bind fun z => (liveD b (D.ref 0 0)).bind fun z_8 => (Option.map D.ptr (elemD 4 x0 x1)).bind fun z_9 => (offD 1 z_9).bind fun z_10 =>
 ((ldD false 1 z_10).bind chkV).bind fun z_11 => (Option.map D.ptr (elemD 4 x0 x1)).bind fun z_12 => (offD 2 z_12).bind fun z_13 => ((ldD false 1 z_13).bind chkV).bind fun z_14 =>
 ((liveD z b).bind fun b => refI 4 b x2).bind fun z => (refAdd 1 z).bind fun z => (stD 1 b z z_11).bind fun b => ((liveD z_8 b).bind fun b => refI 4 b x2).bind fun z => (refAdd 2 z).bind fun z =>
 (stD 1 b z z_14).bind fun b => some (Out.ret [b] [])) := by kernel_rfl
theorem t_impl_SwapBoxes (x0 x1 x2 : D) : F_impl_SwapBoxes [x0, x1, x2] =
  ((lenD false x0).bind fun z => (bin BinOp.sub false [] z (D.v (Value.int IntKind.i64 1))).bind fun z => callK (F_impl_IsCase [x0]) fun rs _u => (un UnOp.not (sl rs 0)).bind fun z_1 =>
 (gate (D.tup []) z_1 false (some x1)).bind fun z_2 => (gate (D.tup []) z_1 false (some z)).bind fun z_3 => gateC z_1 false
 (callK (F_impl_within [z_2, D.v (Value.int IntKind.i64 0), z_3]) fun rs _u => some (Out.nrm [sl rs 0])) [D.tup []] fun outs => (gate (D.tup []) z_1 false (un UnOp.not (sl outs 0))).bind fun z_4 =>
 (pickD z_1 (D.v (Value.bool true)) z_4).bind fun z_5 => (gate (D.tup []) z_5 false (some x2)).bind fun z_6 => (gate (D.tup []) z_5 false (some z)).bind fun z => gateC z_5 false
 (callK (F_impl_within [z_6, D.v (Value.int IntKind.i64 0), z]) fun rs _u => some (Out.nrm [sl rs 0])) [D.tup []] fun outs => (gate (D.tup []) z_5 false (un UnOp.not (sl outs 0))).bind fun z =>
 (pickD z_5 (D.v (Value.bool true)) z).bind fun z => ifD z ((mkArr 4 []).bind fun a => some (Out.ret [a, D.v (Value.bool false)] [])) (callK (F_impl_swap [x0, x1, x2]) fun rs _u =>
 some (Out.ret [sl rs 0, D.v (Value.bool true)] []))) := by kernel_rfl
theorem t_spec_caSwap (x0 x1 x2 : D) : F_spec_caSwap [x0, x1, x2] =
  ((mkArr 4 []).bind fun a => (chkA x0).bind fun b => (appD 4 40 a b).bind fun y => (liveD y (D.ref 0 0)).bind fun z => (Option.map D.ptr (elemD 4 x0 x2)).bind fun z_1 => (offD 1 z_1).bind fun z_2 =>
 ((ldD false 1 z_2).bind chkV).bind fun z_3 => ((liveD z y).bind fun b => refI 4 b x1).bind fun z => (refAdd 1 z).bind fun z => (stD 1 y z z_3).bind fun b => (liveD b (D.ref 0 0)).bind fun z =>
 (Option.map D.ptr (elemD 4 x0 x2)).bind fun z_4 => (offD 2 z_4).bind fun z_5 => ((ldD false 1 z_5).bind chkV).bind fun z_6 => ((liveD z b).bind fun b => refI 4 b x1).bind fun z => (refAdd 2 z).bind fun z =>
 (stD 1 b z z_6).bind fun b => (liveD b (D.ref 0 0)).bind fun z => (Option.map D.ptr (elemD 4 x0 x1)).bind fun z_7 => (offD 1 z_7).bind fun z_8 => ((ldD false 1 z_8).bind chkV).bind fun z_9 =>
 ((liveD z b).bind fun b => refI 4 b x2).bind fun z => (refAdd 1 z).bind fun z => (stD 1 b z z_9).bind fun b => (liveD b (D.ref 0 0)).bind fun z => (Option.map D.ptr (elemD 4 x0 x1)).bind fun z_10 =>
 (offD 2 z_10).bind fun z_11 => ((ldD false 1 z_11).bind chkV).bind fun z_12 => ((liveD z b).bind fun b => refI 4 b x2).bind fun z => (refAdd 2 z).bind fun z => (stD 1 b z z_12).bind fun b => some (Out.ret [b] [])) := by kernel_rfl
theorem t_spec_SwapBoxes (x0 x1 x2 : D) : F_spec_SwapBoxes [x0, x1, x2] =
  (callK (F_spec_caGood [x0]) fun rs _u => (un UnOp.not (sl rs 0)).bind fun z => (gate (D.tup []) z false (some x1)).bind fun z_1 => (gate (D.tup []) z false (some x0)).bind fun z_2 =>
 (gate (D.tup []) z false (lenD false z_2)).bind fun z_3 => (gate (D.tup []) z false (bin BinOp.sub false [] z_3 (D.v (Value.int IntKind.i64 1)))).bind fun z_4 => gateC z false
 (callK (F_spec_l1In [z_1, D.v (Value.int IntKind.i64 0), z_4]) fun rs _u => some (Out.nrm [sl rs 0])) [D.tup []] fun outs => (gate (D.tup []) z false (un UnOp.not (sl outs 0))).bind fun z_5 =>
 (pickD z (D.v (Value.bool true)) z_5).bind fun z => (gate (D.tup []) z false (some x2)).bind fun z_6 => (gate (D.tup []) z false (some x0)).bind fun z_7 => (gate (D.tup []) z false (lenD false z_7)).bind fun z_8 =>
 (gate (D.tup []) z false (bin BinOp.sub false [] z_8 (D.v (Value.int IntKind.i64 1)))).bind fun z_9 => gateC z false (callK (F_spec_l1In [z_6, D.v (Value.int IntKind.i64 0), z_9]) fun rs _u => some (Out.nrm [sl rs 0]))
 [D.tup []] fun outs => (gate (D.tup []) z false (un UnOp.not (sl outs 0))).bind fun z_10 => (pickD z (D.v (Value.bool true)) z_10).bind fun z => ifD z (some (Out.ret [D.arr 4 [], D.v (Value.bool false)] []))
 (callK (F_spec_caSwap [x0, x1, x2]) fun rs _u => some (Out.ret [sl rs 0, D.v (Value.bool true)] []))) := by kernel_rfl
theorem t_spec_DrawPutTypes (x0 : D) : F_spec_DrawPutTypes [x0] =
  ((bldD [(0, 1)] [D.arr 1 [], D.v (Value.int IntKind.i64 0), D.v (Value.int IntKind.u64 0)] [x0]).bind fun z => (boxD 3 z).bind fun y => (liveD y (D.ref 0 0)).bind fun z => (liveD z z).bind fun z_1 =>
 (ref0 z_1 y).bind fun i => (liveD i i).bind fun i => callK (F_spec_l1Cur_anyCase [i]) fun rs us => (liveD (sl rs 0) (D.ref 0 0)).bind fun z_2 => (liveD z_2 (D.ref 0 0)).bind fun z_3 =>
 ((liveD z_3 (sl rs 0)).bind (lenD false)).bind fun z_4 => (bin BinOp.gtr false [] z_4 (D.v (Value.int IntKind.i64 0))).bind fun z_5 => (gate D.bad z_5 true (liveD z z)).bind fun z_6 => gateC z_5 true
 ((ref0 z_6 (sl us 0)).bind fun i => (liveD i i).bind fun i => callK (F_spec_l1Cur_one [i, D.v (Value.int IntKind.i64 8)]) fun rs us => some (Out.nrm [sl rs 0, sl us 0])) [D.tup [], sl us 0] fun outs =>
 (pickD z_5 (sl outs 0) (D.v (Value.bool false))).bind fun z_7 => ifD z_7 ((liveD z_2 (D.ref 0 0)).bind fun z_8 => (liveD z z).bind fun z => (ref0 z (sl outs 1)).bind fun i => (liveD i i).bind fun i =>
 callK (F_spec_l1Cur_pick [i, D.v (Value.int IntKind.i64 2)]) fun rs_1 _u => (bin BinOp.add false [] (D.v (Value.int IntKind.i64 9998)) (sl rs_1 0)).bind fun z => ((liveD z_8 (sl rs 0)).bind fun b =>
 refI 4 b (D.v (Value.int IntKind.i64 0))).bind fun z_9 => (refAdd 3 z_9).bind fun z_10 => (stD 1 (sl rs 0) z_10 z).bind fun b => (Option.map D.ptr (elemD 4 (viaD z_2 b) (D.v (Value.int IntKind.i64 0)))).bind fun z =>
 (offD 0 z).bind fun z => ((ldD false 1 z).bind chkV).bind fun z => (mkArr 1 [z]).bind fun a => some (Out.ret [viaD z_2 b, a] [])) ((liveD z z).bind fun z => (ref0 z (sl outs 1)).bind fun i => (liveD i i).bind fun i =>
 callK (F_spec_l1Cur_codesOf [i, viaD z_2 (sl rs 0)]) fun rs_1 _u => some (Out.ret [viaD z_2 (sl rs 0), sl rs_1 0] []))) := by kernel_rfl
theorem t_spec_PutTypes (x0 x1 : D) : F_spec_PutTypes [x0, x1] =
  (callK (F_spec_caAsked [x0, x1]) fun rs _u => (un UnOp.not (sl rs 0)).bind fun z => ifD z (some (Out.ret [D.arr 4 [], D.v (Value.bool false)] [])) (callK (F_spec_caMove [x0, x1, D.v (Value.int IntKind.i64 1)]) fun rs _u =>
 (tupAt (D.tup rs) 0).bind fun y => (tupAt (tupCut (D.tup rs) 0) 1).bind fun z => some (Out.ret [y, z] []))) := by kernel_rfl
theorem t_spec_DrawIsBox (x0 : D) : F_spec_DrawIsBox [x0] =
  ((bldD [(0, 1)] [D.arr 1 [], D.v (Value.int IntKind.i64 0), D.v (Value.int IntKind.u64 0)] [x0]).bind fun z => (boxD 3 z).bind fun y => (liveD y (D.ref 0 0)).bind fun z => (liveD z z).bind fun z_1 =>
 (ref0 z_1 y).bind fun i => (liveD i i).bind fun i => callK (F_spec_l1Cur_anyCase [i]) fun rs us => (lenD false (sl rs 0)).bind fun z_2 => (bin BinOp.eql false [] z_2 (D.v (Value.int IntKind.i64 0))).bind fun z_3 =>
 ifD z_3 ((bldD [] [D.v (Value.string { data := { toList := [] } }), D.v (Value.int IntKind.i64 0), D.v (Value.int IntKind.i64 0), D.v (Value.int IntKind.i64 0)] []).bind fun z => (stD 4 (D.agg
 [D.v (Value.string { data := { toList := [] } }), D.v (Value.int IntKind.i64 0), D.v (Value.int IntKind.i64 0), D.v (Value.int IntKind.i64 0)]) (D.ref 0 0) z).bind
 fun b => (fldD true 4 0 b).bind fun y => some (Out.ret [y] [])) ((liveD z z).bind fun z => (lenD false (sl rs 0)).bind fun z_4 => (ref0 z (sl us 0)).bind fun i => (liveD i i).bind fun i =>
 callK (F_spec_l1Cur_pick [i, z_4]) fun rs_1 _u => (Option.map D.ptr (elemD 4 (sl rs 0) (sl rs_1 0))).bind fun z => ((ldD true 4 z).bind chkV).bind fun z => (stD 4 (D.agg [D.v (Value.string { data := { toList := [] } }),
 D.v (Value.int IntKind.i64 0), D.v (Value.int IntKind.i64 0), D.v (Value.int IntKind.i64 0)]) (D.ref 0 0) z).bind fun b => (fldD true 4 0 b).bind fun y => some (Out.ret [y] []))) := by kernel_rfl
theorem t_spec_DrawBoxOf (x0 : D) : F_spec_DrawBoxOf [x0] =
  ((bldD [(0, 1)] [D.arr 1 [], D.v (Value.int IntKind.i64 0), D.v (Value.int IntKind.u64 0)] [x0]).bind fun z => (boxD 3 z).bind fun y => (liveD y (D.ref 0 0)).bind fun z => (liveD z z).bind fun z_1 =>
 (ref0 z_1 y).bind fun i => (liveD i i).bind fun i => callK (F_spec_l1Cur_anyCase [i]) fun rs us => (liveD z z).bind fun z => (mkArr 1 [D.v (Value.string { data := { toList := [97] } }),
 D.v (Value.string { data := { toList := [97, 98] } }), D.v (Value.string { data := { toList := [102] } }), D.v (Value.string { data := { toList := [101] } }), D.v (Value.string { data := { toList := [122, 122] } }),
 D.v (Value.string { data := { toList := [] } })]).bind fun a => (ref0 z (sl us 0)).bind fun i => (liveD i i).bind fun i => callK (F_spec_l1Cur_of [i, a]) fun rs_1 _u => some (Out.ret [sl rs 0, sl rs_1 0] [])) := by kernel_rfl
theorem t_spec_BoxOf (x0 x1 : D) : F_spec_BoxOf [x0, x1] =
  (callK (F_spec_caFind [x0, x1]) fun rs _u => callK (F_spec_caGood [x0]) fun rs_1 _u => (un UnOp.not (sl rs_1 0)).bind fun z => (gate (D.tup []) z false (some (sl rs 0))).bind fun z_1 =>
 (gate (D.tup []) z false (bin BinOp.lss false [] z_1 (D.v (Value.int IntKind.i64 0)))).bind fun z_2 => (pickD z (D.v (Value.bool true)) z_2).bind fun z =>
 ifD z (some (Out.ret [D.v (Value.int IntKind.i64 0), D.v (Value.bool false)] [])) (some (Out.ret [sl rs 0, D.v (Value.bool true)] []))) := by kernel_rfl
theorem t_spec_IsBox (x0 : D) : F_spec_IsBox [x0] =
  ((boxD 4 x0).bind fun y => (fldD true 4 0 y).bind fun z => callK (F_spec_caBox [z]) fun rs _u => some (Out.ret [sl rs 0] [])) := by kernel_rfl
theorem t_laws_FnCases (x0 x1 : D) : F_laws_FnCases [x0, x1] =
  ((lenD false x0).bind fun z => (lenD false x1).bind fun z_1 => (bin BinOp.add false [] z z_1).bind fun z => (bin BinOp.gtr false [] z (D.v (Value.int IntKind.i64 1048576))).bind fun z =>
 ifD z (some (Out.ret [D.v (Value.bool true)] [])) (callK (F_spec_DrawTakeTypes [x0]) fun rs _u => (tupAt (D.tup rs) 0).bind fun z => (tupAt (D.tup rs) 1).bind fun y => callK (F_impl_TakeTypes [z, y]) fun rs _u =>
 (tupAt (D.tup rs) 0).bind fun y_1 => (tupAt (tupCut (D.tup rs) 0) 1).bind fun z_2 => callK (F_spec_TakeTypes [z, y]) fun rs _u => (tupAt (D.tup rs) 0).bind fun y_2 => (tupAt (tupCut (D.tup rs) 0) 1).bind fun z_3 =>
 callK (F_impl_TypesIn [z]) fun rs _u => (tupAt (D.tup rs) 0).bind fun z_4 => (tupAt (D.tup rs) 1).bind fun z_5 => callK (F_spec_TypesIn [z]) fun rs _u => (tupAt (D.tup rs) 0).bind fun z_6 =>
 (tupAt (D.tup rs) 1).bind fun z_7 => callK (F_impl_CaseText [z]) fun rs _u => (tupAt (D.tup rs) 0).bind fun z_8 => (tupAt (D.tup rs) 1).bind fun z_9 => callK (F_spec_CaseText [z]) fun rs _u =>
 (tupAt (D.tup rs) 0).bind fun z_10 => (tupAt (D.tup rs) 1).bind fun z_11 => (bin BinOp.neq true [] z_2 z_3).bind fun z_12 => (gate (D.tup []) z_12 false (some y_1)).bind fun z_13 =>
 (gate (D.tup []) z_12 false (some y_2)).bind fun z_14 => gateC z_12 false (callK (F_laws_qBoxes [z_13, z_14]) fun rs _u => some (Out.nrm [sl rs 0])) [D.tup []] fun outs => (gate (D.tup []) z_12 false
 (un UnOp.not (sl outs 0))).bind fun z_15 => (pickD z_12 (D.v (Value.bool true)) z_15).bind fun z_16 => (gate (D.tup []) z_16 false (some z_5)).bind fun z_17 => (gate (D.tup []) z_16 false (some z_7)).bind fun z_18 =>
 (gate (D.tup []) z_16 false (bin BinOp.neq true [] z_17 z_18)).bind fun z_19 => (pickD z_16 (D.v (Value.bool true)) z_19).bind fun z_20 => (gate (D.tup []) z_20 false (some z_4)).bind fun z_21 =>
 (gate (D.tup []) z_20 false (some z_6)).bind fun z_22 => (gate (D.tup []) z_20 false (bin BinOp.neq false [] z_21 z_22)).bind fun z_23 => (pickD z_20 (D.v (Value.bool true)) z_23).bind fun z_24 =>
 (gate (D.tup []) z_24 false (some z_9)).bind fun z_25 => (gate (D.tup []) z_24 false (some z_11)).bind fun z_26 => (gate (D.tup []) z_24 false (bin BinOp.neq true [] z_25 z_26)).bind fun z_27 => (pickD z_24
 (D.v (Value.bool true)) z_27).bind fun z_28 => (gate (D.tup []) z_28 false (some z_8)).bind fun z_29 => (gate (D.tup []) z_28 false (some z_10)).bind fun z_30 => (gate (D.tup []) z_28 false (bin BinOp.neq false [] z_29
 z_30)).bind fun z_31 => (pickD z_28 (D.v (Value.bool true)) z_31).bind fun z_32 => (gate (D.tup []) z_32 false (some z_5)).bind fun z_33 => (gate (D.tup []) z_32 false (some z)).bind fun z_34 => gateC z_32 false (callK
 (F_impl_IsCase [z_34]) fun rs _u => some (Out.nrm [sl rs 0])) [D.tup []] fun outs => (gate (D.tup []) z_32 false (bin BinOp.neq true [] z_33 (sl outs 0))).bind fun z_35 => (pickD z_32 (D.v (Value.bool true)) z_35).bind
 fun z_36 => (gate (D.tup []) z_36 false (some z_9)).bind fun z_37 => (gate (D.tup []) z_36 false (some z_5)).bind fun z_38 => (gate (D.tup []) z_36 false (bin BinOp.neq true [] z_37 z_38)).bind fun z_39 => (pickD z_36
 (D.v (Value.bool true)) z_39).bind fun z_40 => (gate (D.tup []) z_40 false (some z_2)).bind fun z_41 => (gate (D.tup []) z_40 false (some z_41)).bind fun z_42 => (gate (D.tup []) z_42 true (some z_5)).bind fun z_43 =>
 (gate (D.tup []) z_42 true (un UnOp.not z_43)).bind fun z_44 => (gate (D.tup []) z_40 false (pickD z_42 z_44 (D.v (Value.bool false)))).bind fun z_45 => (pickD z_40 (D.v (Value.bool true)) z_45).bind fun z_46 => ifD z_46
 (some (Out.ret [D.v (Value.bool false)] [])) (joinC (fun j => ifD z_2 (callK (F_impl_PutTypes [y_1, y]) fun rs _u => (tupAt (D.tup rs) 0).bind fun y_3 => (tupAt (tupCut (D.tup rs) 0) 1).bind fun z_47 => callK
 (F_impl_TypesIn [y_1]) fun rs _u => (tupAt (D.tup rs) 0).bind fun z_48 => (tupAt (D.tup rs) 1).bind fun z_49 => (un UnOp.not z_47).bind fun z_50 => (gate (D.tup []) z_50 false (some y_3)).bind fun z_51 => (gate (D.tup [])
 z_50 false (some z)).bind fun z_52 => gateC z_50 false (callK (F_laws_qBoxes [z_51, z_52]) fun rs _u => some (Out.nrm [sl rs 0])) [D.tup []] fun outs => (gate (D.tup []) z_50 false (un UnOp.not (sl outs 0))).bind fun
 z_53 => (pickD z_50 (D.v (Value.bool true)) z_53).bind fun z_54 => (gate (D.tup []) z_54 false (some z_49)).bind fun z_55 => (gate (D.tup []) z_54 false (un UnOp.not z_55)).bind fun z_56 => (pickD z_54 (D.v (Value.bool
 true)) z_56).bind fun z_57 => (gate (D.tup []) z_57 false (some z_48)).bind fun z_58 => (gate (D.tup []) z_57 false (some z_6)).bind fun z_59 => (gate (D.tup []) z_57 false (some y)).bind fun z_60 => (gate (D.tup []) z_57
 false (lenD false z_60)).bind fun z_61 => (gate (D.tup []) z_57 false (bin BinOp.sub false [] z_59 z_61)).bind fun z_62 => (gate (D.tup []) z_57 false (bin BinOp.neq false [] z_58 z_62)).bind fun z_63 => (pickD z_57 (D.v
 (Value.bool true)) z_63).bind fun z_64 => ifD z_64 (some (Out.ret [D.v (Value.bool false)] [])) (j [x1, z, z_5])) (j [x1, z, z_5])) fun s => (lenD false (sl s 1)).bind fun z => (loopC (fun s => (bin BinOp.lss false [] (sl
 s 5) (sl s 4)).bind fun z => ifD z ((Option.map D.ptr (elemD 4 (sl s 3) (sl s 5))).bind fun z => ((ldD true 4 z).bind chkV).bind fun z => (stD 4 (D.agg [D.v (Value.string { data := { toList := [] } }), D.v (Value.int
 IntKind.i64 0), D.v (Value.int IntKind.i64 0), D.v (Value.int IntKind.i64 0)]) (D.ref 0 0) z).bind fun b => (liveD b (D.ref 0 0)).bind fun z => ((atD b z).bind (takeD false 1)).bind fun z => callK (F_impl_BoxOf [sl s 1,
 z]) fun rs _u => (tupAt (D.tup rs) 0).bind fun z => (tupAt (D.tup rs) 1).bind fun z_47 => (bin BinOp.neq true [] z_47 (sl s 2)).bind fun z_48 => (gate (D.tup []) z_48 false (some (sl s 2))).bind fun z_49 => (gate (D.tup
 []) z_48 false (some z_49)).bind fun z_50 => (gate (D.tup []) z_50 true (some z)).bind fun z => (gate (D.tup []) z_50 true (some (sl s 5))).bind fun z_51 => (gate (D.tup []) z_50 true (bin BinOp.neq false [] z z_51)).bind
 fun z => (gate (D.tup []) z_50 true (some z)).bind fun z => (gate (D.tup []) z false (fldD true 4 0 b)).bind fun z_52 => gateC z false (callK (F_impl_IsBox [z_52]) fun rs _u => some (Out.nrm [sl rs 0])) [D.tup []] fun
 outs => (gate (D.tup []) z false (un UnOp.not (sl outs 0))).bind fun z_53 => (gate (D.tup []) z_50 true (pickD z (D.v (Value.bool true)) z_53)).bind fun z => (gate (D.tup []) z_48 false (pickD z_50 z (D.v (Value.bool
 false)))).bind fun z => (pickD z_48 (D.v (Value.bool true)) z).bind fun z => ifD z (some (Out.ret [D.v (Value.bool false)] [])) ((bin BinOp.add false [] (sl s 5) (D.v (Value.int IntKind.i64 1))).bind fun z => some
 (Out.nrm [sl s 0, sl s 1, sl s 2, sl s 3, sl s 4, z]))) (some (Out.ext 0 [sl s 0]))) [sl s 0, sl s 1, sl s 2, sl s 1, z, D.v (Value.int IntKind.i64 0)]).bind fun o => outK o (fun i s => ifN (i.beq 0) (callK
 (F_spec_DrawSwapBoxes [sl s 0]) fun rs _u => (tupAt (D.tup rs) 0).bind fun z => (tupAt (D.tup rs) 1).bind fun z_47 => (tupAt (D.tup rs) 2).bind fun z_48 => callK (F_impl_SwapBoxes [z, z_47, z_48]) fun rs _u => (tupAt
 (D.tup rs) 0).bind fun y => (tupAt (tupCut (D.tup rs) 0) 1).bind fun z_49 => callK (F_spec_SwapBoxes [z, z_47, z_48]) fun rs _u => (tupAt (D.tup rs) 0).bind fun y_3 => (tupAt (tupCut (D.tup rs) 0) 1).bind fun z_50 =>
 callK (F_spec_DrawPutTypes [sl s 0]) fun rs _u => (tupAt (D.tup rs) 0).bind fun z_51 => (tupAt (D.tup rs) 1).bind fun y_4 => callK (F_impl_PutTypes [z_51, y_4]) fun rs _u => (tupAt (D.tup rs) 0).bind fun y_5 => (tupAt
 (tupCut (D.tup rs) 0) 1).bind fun z_52 => callK (F_spec_PutTypes [z_51, y_4]) fun rs _u => (tupAt (D.tup rs) 0).bind fun y_6 => (tupAt (tupCut (D.tup rs) 0) 1).bind fun z_53 => callK (F_spec_DrawIsBox [sl s 0]) fun rs
 _u => (stD 4 (D.agg [D.v (Value.string { data := { toList := [] } }), D.v (Value.int IntKind.i64 0), D.v (Value.int IntKind.i64 0), D.v (Value.int IntKind.i64 0)]) (D.ref 0 0) (sl rs 0)).bind fun b => callK
 (F_spec_DrawBoxOf [sl s 0]) fun rs _u => (tupAt (D.tup rs) 0).bind fun y_7 => (tupAt (tupCut (D.tup rs) 0) 1).bind fun z_54 => callK (F_impl_BoxOf [y_7, z_54]) fun rs _u => (tupAt (D.tup rs) 0).bind fun z_55 => (tupAt
 (D.tup rs) 1).bind fun z_56 => callK (F_spec_BoxOf [y_7, z_54]) fun rs _u => (tupAt (D.tup rs) 0).bind fun z_57 => (tupAt (D.tup rs) 1).bind fun z_58 => (bin BinOp.neq true [] z_49 z_50).bind fun z_59 => (gate (D.tup [])
 z_59 false (some y)).bind fun z_60 => (gate (D.tup []) z_59 false (some y_3)).bind fun z_61 => gateC z_59 false (callK (F_laws_qBoxes [z_60, z_61]) fun rs _u => some (Out.nrm [sl rs 0])) [D.tup []] fun outs => (gate
 (D.tup []) z_59 false (un UnOp.not (sl outs 0))).bind fun z_62 => (pickD z_59 (D.v (Value.bool true)) z_62).bind fun z_63 => (gate (D.tup []) z_63 false (some z_52)).bind fun z_64 => (gate (D.tup []) z_63 false (some
 z_53)).bind fun z_65 => (gate (D.tup []) z_63 false (bin BinOp.neq true [] z_64 z_65)).bind fun z_66 => (pickD z_63 (D.v (Value.bool true)) z_66).bind fun z_67 => (gate (D.tup []) z_67 false (some y_5)).bind fun z_68 =>
 (gate (D.tup []) z_67 false (some y_6)).bind fun z_69 => gateC z_67 false (callK (F_laws_qBoxes [z_68, z_69]) fun rs _u => some (Out.nrm [sl rs 0])) [D.tup []] fun outs => (gate (D.tup []) z_67 false (un UnOp.not (sl outs
 0))).bind fun z_70 => (pickD z_67 (D.v (Value.bool true)) z_70).bind fun z_71 => (gate (D.tup []) z_71 false (fldD true 4 0 b)).bind fun z_72 => gateC z_71 false (callK (F_impl_IsBox [z_72]) fun rs _u => some (Out.nrm [sl
 rs 0])) [D.tup []] fun outs => (gate (D.tup []) z_71 false (fldD true 4 0 b)).bind fun z_73 => gateC z_71 false (callK (F_spec_IsBox [z_73]) fun rs _u => some (Out.nrm [sl rs 0])) [D.tup []] fun outs_1 => (gate (D.tup [])
 z_71 false (bin BinOp.neq true [] (sl outs 0) (sl outs_1 0))).bind fun z_74 => (pickD z_71 (D.v (Value.bool true)) z_74).bind fun z_75 => (gate (D.tup []) z_75 false (some z_56)).bind fun z_76 => (gate (D.tup []) z_75
 false (some z_58)).bind fun z_77 => (gate (D.tup []) z_75 false (bin BinOp.neq true [] z_76 z_77)).bind fun z_78 => (pickD z_75 (D.v (Value.bool true)) z_78).bind fun z_79 => (gate (D.tup []) z_79 false (some z_55)).bind
 fun z_80 => (gate (D.tup []) z_79 false (some z_57)).bind fun z_81 => (gate (D.tup []) z_79 false (bin BinOp.neq false [] z_80 z_81)).bind fun z_82 => (pickD z_79 (D.v (Value.bool true)) z_82).bind fun z_83 => ifD z_83
 (some (Out.ret [D.v (Value.bool false)] [])) (ifD z_49 (callK (F_impl_SwapBoxes [y, z_47, z_48]) fun rs _u => (tupAt (D.tup rs) 0).bind fun y => (tupAt (tupCut (D.tup rs) 0) 1).bind fun z_84 => (gate (D.tup []) z_84 true
 (some y)).bind fun z_85 => (gate (D.tup []) z_84 true (some z)).bind fun z => gateC z_84 true (callK (F_laws_qBoxes [z_85, z]) fun rs _u => some (Out.nrm [sl rs 0])) [D.tup []] fun outs => (pickD z_84 (sl outs 0) (D.v
 (Value.bool false))).bind fun z => some (Out.ret [z] [])) (some (Out.ret [D.v (Value.bool true)] [])))) none) fun a b => some (Out.ret a b)))) := by kernel_rfl
theorem t_spec_l1Num (n : Nat) (x0 : D) : R_spec_l1Num (n + 1) [x0] =
  ((bin BinOp.lss false [] x0 (D.v (Value.int IntKind.i64 10))).bind fun z => ifD z ((bin BinOp.add false [] (D.v (Value.int IntKind.i64 48)) x0).bind fun z => (convD (some IntKind.u8) false z).bind fun z =>
 (mkArr 1 [z]).bind fun a => (strD a).bind fun z => some (Out.ret [z] [])) ((bin BinOp.quo false [] x0 (D.v (Value.int IntKind.i64 10))).bind fun z => callK (R_spec_l1Num n [z]) fun rs _u =>
 (bin BinOp.rem false [] x0 (D.v (Value.int IntKind.i64 10))).bind fun z => (bin BinOp.add false [] (D.v (Value.int IntKind.i64 48)) z).bind fun z => (convD (some IntKind.u8) false z).bind fun z =>
 (mkArr 1 [z]).bind fun a => (strD a).bind fun z => (bin BinOp.add false [] (sl rs 0) z).bind fun z => some (Out.ret [z] []))) := by kernel_rfl
end Go.Proofs.YtbbfddflmnclaaaDoor
/-
  Numbers within bounds.
-/
namespace Go.Proofs.YtbbfddflmnclaaaDoor
open Go Go.V

theorem e_spec_l1In (a b c : Int) : F_spec_l1In [I a, I b, I c] = some (.ret [B (decide (b ≤ a ∧ a ≤ c))] []) := by
  rw [t_spec_l1In]
  by_cases h : b ≤ a <;> simp [h]
theorem e_impl_within (a b c : Int) : F_impl_within [I a, I b, I c] = some (.ret [B (decide (b ≤ a ∧ a ≤ c))] []) := by
  rw [t_impl_within]
  by_cases h : b ≤ a <;> simp [h]
end Go.Proofs.YtbbfddflmnclaaaDoor
/-
  More laws of loops; letters; cases.
-/
namespace Go.Proofs.YtbbfddflmnclaaaDoor
open Go Go.V
set_option linter.unusedSimpArgs false

/-- The first place where something holds. -/
def findI {β : Type} (p : β → Bool) : Nat → List β → Option Nat
  | _, [] => none
  | i, x :: l => if p x = true then some i else findI p (i + 1) l
theorem loop_find {β : Type} {body : List D → Option Out} (l : List β) (st : Nat → List D) (p : β → Bool) (o1 : Nat → Out) (o2 : Out) (hs : ∀ (i : Nat) (hi : i < l.length), body (st i) = some (if p l[i] = true then o1 i else .nrm (st (i + 1)))) (he : body (st l.length) = some o2)
    (h1 : ∀ i, (o1 i).ends = true) (h2 : o2.ends = true) {s0 : List D} (h : s0 = st 0) : loopC body s0 = some ((findI p 0 l).elim o2 o1) := by
  have e : ∀ (m : List β) (i : Nat), goL (fun i x (_ : Unit) => if p x = true then .inr (o1 i) else .inl ()) (fun _ => o2) i m () = (findI p i m).elim o2 o1 := by
    intro m
    induction m with
    | nil => intro i; simp [goL, findI]
    | cons x m ih =>
      intro i
      simp only [goL, findI]
      by_cases hp : p x = true
      · simp [hp]
      · simp [hp, ih]
  rw [← e]
  refine loop_list l (fun i _ => st i) (fun _ _ => True) _ _ (fun i x a hx _ => ?_) (fun _ _ => ⟨he, h2⟩) () trivial h
  have hi : i < l.length := (List.getElem?_eq_some_iff.1 hx).1
  have hxe : l[i] = x := (List.getElem?_eq_some_iff.1 hx).2
  have := hs i hi
  rw [hxe] at this
  by_cases hp : p x = true
  · simpa [hp, h1] using this
  · simpa [hp] using this
/-- All is well, and something is gathered. -/
theorem loop_allf {α β : Type} {body : List D → Option Out} (l : List β) (st : Nat → α → List D) (Inv : Nat → α → Prop) (p : Nat → β → Bool) (f : α → β → α) (o1 : Out) (fin : α → Out) (a : α) (hs : ∀ (i : Nat) (a : α) (hi : i < l.length), Inv i a → body (st i a) = some (if p i l[i] = true then .nrm (st (i + 1) (f a l[i])) else o1) ∧ (p i l[i] = true → Inv (i + 1) (f a l[i])))
    (he : ∀ a, Inv l.length a → body (st l.length a) = some (fin a)) (h1 : o1.ends = true) (h2 : ∀ a, (fin a).ends = true) (h0 : Inv 0 a) {s0 : List D} (h : s0 = st 0 a) : loopC body s0 = some (if allI p 0 l = true then fin (l.foldl f a) else o1) := by
  have e : ∀ (m : List β) (i : Nat) (a : α), goL (fun i x (a : α) => if p i x = true then .inl (f a x) else .inr o1) fin i m a = if allI p i m = true then fin (m.foldl f a) else o1 := by
    intro m
    induction m with
    | nil => intro i a; simp [goL, allI]
    | cons x m ih =>
      intro i a
      simp only [goL, allI, List.foldl_cons]
      by_cases hp : p i x = true
      · simp [hp, ih]
      · simp [hp]
  rw [← e]
  refine loop_list l st Inv _ _ (fun i x a hx hI => ?_) (fun a hI => ⟨he a hI, h2 a⟩) a h0 h
  have hi : i < l.length := (List.getElem?_eq_some_iff.1 hx).1
  have hxe : l[i] = x := (List.getElem?_eq_some_iff.1 hx).2
  have := hs i a hi hI
  rw [hxe] at this
  by_cases hp : p i x = true
  · simpa [hp] using this
  · simpa [hp, h1] using this
/-- What is left of a size. -/
theorem sz_loop {β : Type} {body : List D → Option Out} {K : Out → Option Out} {R : Option Out → Prop} (l : List β) (st : Nat → Int → List D) (P : β → Prop)
    (hs : ∀ (i : Nat) (hi : i < l.length) (m : Int), 0 ≤ m → m ≤ 1048576 → body (st i m) = some (.ret [I (-1)] []) ∨ ∃ m', body (st i m) = some (.nrm (st (i + 1) m')) ∧ 0 ≤ m' ∧ m' ≤ m ∧ P l[i])
    (he : ∀ m, body (st l.length m) = some (.ext 0 [I m])) (m0 : Int) (h0 : 0 ≤ m0) (h1 : m0 ≤ 1048576) {s0 : List D} (h : s0 = st 0 m0)
    (hk1 : R (K (.ret [I (-1)] []))) (hk2 : ∀ m, 0 ≤ m → m ≤ m0 → (∀ x ∈ l, P x) → R (K (.ext 0 [I m]))) : R ((loopC body s0).bind K) := by
  have key : ∀ (n i : Nat) (m : Int), i + n = l.length → 0 ≤ m → m ≤ m0 → (∀ (j : Nat) (hj : j < l.length), j < i → P l[j]) → ∃ o, Runs body (st i m) o ∧ (o = .ret [I (-1)] [] ∨ ∃ m', o = .ext 0 [I m'] ∧ 0 ≤ m' ∧ m' ≤ m0 ∧ ∀ x ∈ l, P x) := by
    intro n
    induction n with
    | zero =>
      intro i m hi g0 g1 hP
      have : i = l.length := by omega
      subst this
      refine ⟨_, Runs.one (he m) rfl, .inr ⟨m, rfl, g0, g1, fun x hx => ?_⟩⟩
      obtain ⟨j, hj, rfl⟩ := List.mem_iff_getElem.1 hx
      exact hP j hj hj
    | succ n ih =>
      intro i m hi g0 g1 hP
      have hlt : i < l.length := by omega
      rcases hs i hlt m g0 (by omega) with e | ⟨m', e, k0, k1, kP⟩
      · exact ⟨_, Runs.one e rfl, .inl rfl⟩
      · obtain ⟨o, r1, r2⟩ := ih (i + 1) m' (by omega) k0 (by omega) (fun j hj hji => by
          rcases Nat.lt_or_ge j i with h | h
          · exact hP j hj h
          · have : j = i := by omega
            subst this
            exact kP)
        exact ⟨o, .nrm e r1, r2⟩
  obtain ⟨o, r1, r2⟩ := key l.length 0 m0 (by omega) h0 (Int.le_refl _) (fun _ _ h => absurd h (by omega))
  rw [h, r1.loop]
  rcases r2 with rfl | ⟨m, rfl, g0, g1, gP⟩
  · exact hk1
  · exact hk2 m g0 g1 gP

def chars (s : ByteArray) : List UInt8 := s.data.toList
theorem charD_nat {s : ByteArray} {k : IntKind} {i : Nat} : charD (T s) (.v (.int k (i : Int))) = ((chars s)[i]?).map fun b => U b.toNat := by simp [charD, chars]
theorem size_list (s : ByteArray) : s.size = (chars s).length := rfl
theorem bin_geqS {a b : ByteArray} {bl : Bool} {eq : List Nat} : bin .geq bl eq (T a) (T b) = some (B (!Op.bytesLess a.toList b.toList)) := by simp [bin, strBin]

/-! ### letters -/
def az (b : UInt8) : Bool := decide (97 ≤ (b.toNat : Int)) && decide ((b.toNat : Int) ≤ 122)
def letters (s : ByteArray) (lo hi : Int) : Bool := allI (fun _ b => az b) 0 (chars s) && decide (lo ≤ (s.size : Int) ∧ (s.size : Int) ≤ hi)
theorem e_spec_tyLetters (s : ByteArray) (n : Int) (h : s.size ≤ 9223372036854775807) : F_spec_tyLetters [T s, I n] = some (.ret [B (letters s 1 n)] []) := by
  rw [t_spec_tyLetters]
  rw [size_list] at h
  refine loop_bind _ (loop_all (chars s) (fun i => [T s, I n, I i]) (fun _ b => az b) (.ret [B false] []) (.ext 0 [T s, I n]) (fun i hi => ?_) ?_ rfl rfl rfl) ?_
  · have hw : IntKind.i64.wrap ((i : Int) + 1) = (i : Int) + 1 := wrap_id (by omega) (by omega)
    by_cases h1 : 97 ≤ (((chars s)[i]).toNat : Int)
    · by_cases h2 : (((chars s)[i]).toNat : Int) ≤ 122
      · simp -implicitDefEqProofs [size_list, charD_nat, hi, hw, az, h1, h2, Int.not_lt.2 h1, Int.not_lt.2 h2]
      · simp -implicitDefEqProofs [size_list, charD_nat, hi, hw, az, h1, h2, Int.not_lt.2 h1, Int.not_le.1 h2]
    · simp -implicitDefEqProofs [size_list, charD_nat, hi, hw, az, h1, Int.not_le.1 h1]
  · simp -implicitDefEqProofs [size_list]
  · by_cases hg : allI (fun _ b => az b) 0 (chars s) = true <;> simp -implicitDefEqProofs [hg, letters, e_spec_l1In]
theorem e_impl_areLetters (s : ByteArray) (m n : Int) (h : s.size ≤ 9223372036854775807) : F_impl_areLetters [T s, I m, I n] = some (.ret [B (letters s m n)] []) := by
  rw [t_impl_areLetters]
  rw [size_list] at h
  refine loop_bind _ (loop_all (chars s) (fun i => [T s, I m, I n, I i]) (fun _ b => az b) (.ret [B false] []) (.ext 0 [T s, I m, I n]) (fun i hi => ?_) ?_ rfl rfl rfl) ?_
  · have hw : IntKind.i64.wrap ((i : Int) + 1) = (i : Int) + 1 := wrap_id (by omega) (by omega)
    by_cases h1 : 97 ≤ (((chars s)[i]).toNat : Int)
    · by_cases h2 : (((chars s)[i]).toNat : Int) ≤ 122
      · simp -implicitDefEqProofs [size_list, charD_nat, hi, hw, az, h1, h2, Int.not_lt.2 h1, Int.not_lt.2 h2]
      · simp -implicitDefEqProofs [size_list, charD_nat, hi, hw, az, h1, h2, Int.not_lt.2 h1, Int.not_le.1 h2]
    · simp -implicitDefEqProofs [size_list, charD_nat, hi, hw, az, h1, Int.not_le.1 h1]
  · simp -implicitDefEqProofs [size_list]
  · by_cases hg : allI (fun _ b => az b) 0 (chars s) = true <;> simp -implicitDefEqProofs [hg, letters, e_impl_within]
theorem e_impl_isCode (s : ByteArray) (h : s.size ≤ 9223372036854775807) : F_impl_isCode [T s] = some (.ret [B (letters s 1 3)] []) := by
  rw [t_impl_isCode]
  simp [e_impl_areLetters s 1 3 h]
theorem e_impl_isPlace (n : Int) : F_impl_isPlace [I n] = some (.ret [B (decide (0 ≤ n ∧ n ≤ 9))] []) := by
  rw [t_impl_isPlace]
  simp [e_impl_within]

/-! ### cases -/
abbrev Bx := ByteArray × Int × Int × Int
abbrev bx (x : Bx) : D := .agg [T x.1, I x.2.1, I x.2.2.1, I x.2.2.2]
abbrev bxs (l : List Bx) : D := .arr 4 (l.map bx)
theorem isV_bx (x : Bx) : (bx x).isV = true := rfl
/-- Sizes are what a machine can hold. -/
def okBx (l : List Bx) : Prop := l.length ≤ 1048576 ∧ ∀ x ∈ l, x.1.size ≤ 1048576
def isBx (x : Bx) : Bool := letters x.1 1 3 && decide (0 ≤ x.2.1 ∧ x.2.1 ≤ 9) && decide (0 ≤ x.2.2.1 ∧ x.2.2.1 ≤ 9) && decide (0 ≤ x.2.2.2 ∧ x.2.2.2 ≤ 9999)
theorem e_spec_caBox (x : Bx) (h : x.1.size ≤ 1048576) : F_spec_caBox [bx x] = some (.ret [B (isBx x)] []) := by
  rw [t_spec_caBox]
  have e := e_spec_tyLetters x.1 3 (by omega)
  cases h0 : letters x.1 1 3 <;> rw [h0] at e
  · simp -implicitDefEqProofs [e, isBx, h0]
  · by_cases h1 : 0 ≤ x.2.1 ∧ x.2.1 ≤ 9 <;> by_cases h2 : 0 ≤ x.2.2.1 ∧ x.2.2.1 ≤ 9 <;> simp -implicitDefEqProofs [e, e_spec_l1In, isBx, h0, h1, h2]
theorem e_impl_IsBox (x : Bx) (h : x.1.size ≤ 1048576) : F_impl_IsBox [bx x] = some (.ret [B (isBx x)] []) := by
  rw [t_impl_IsBox]
  have e := e_impl_isCode x.1 (by omega)
  cases h0 : letters x.1 1 3 <;> rw [h0] at e
  · simp -implicitDefEqProofs [e, isBx, h0]
  · by_cases h1 : 0 ≤ x.2.1 ∧ x.2.1 ≤ 9 <;> by_cases h2 : 0 ≤ x.2.2.1 ∧ x.2.2.1 ≤ 9 <;> simp -implicitDefEqProofs [e, e_impl_isPlace, e_impl_within, isBx, h0, h1, h2]
def sameP (x y : Bx) : Bool := decide (y.2.1 = x.2.1) && decide (y.2.2.1 = x.2.2.1)
def pBx (l : List Bx) (i : Nat) (x : Bx) : Bool := isBx x && !(decide (0 < i) && !Op.bytesLess (l.getD (i - 1) (ByteArray.empty, 0, 0, 0)).1.toList x.1.toList) && allI (fun _ y => !sameP x y) 0 (l.take i)
def goodC (l : List Bx) : Bool := allI (pBx l) 0 l && decide (1 ≤ (l.length : Int) ∧ (l.length : Int) ≤ 32)
theorem take_bxs {l : List Bx} {i : Nat} (hi : i ≤ l.length) : sliceD false 4 (bxs l) (I 0) (I (i : Int)) = some (bxs (l.take i)) := by
  have := sliceD_nat (z := 4) (l := l.map bx) (k := .i64) (k' := .i64) (Nat.zero_le i) (by simpa using hi)
  rw [List.drop_zero, ← List.map_take] at this
  exact this
theorem e_spec_caGood (l : List Bx) (h : okBx l) : F_spec_caGood [bxs l] = some (.ret [B (goodC l)] []) := by
  rw [t_spec_caGood]
  have hl := h.1
  simp only [lenD_arr, List.length_map, Option.bind_some]
  refine loop_bind _ (loop_all l (fun i => [bxs l, bxs l, I l.length, I i]) (pBx l) (.ret [B false] []) (.ext 0 [bxs l]) (fun i hi => ?_) ?_ rfl rfl rfl) ?_
  · have hw : IntKind.i64.wrap ((i : Int) + 1) = (i : Int) + 1 := wrap_id (by omega) (by omega)
    have eb := e_spec_caBox l[i] (h.2 _ (List.getElem_mem hi))
    have ht := take_bxs (Nat.le_of_lt hi)
    cases h1 : isBx l[i]
    · rw [h1] at eb
      simp -implicitDefEqProofs [hi, eb, h1, pBx]
    · rw [h1] at eb
      by_cases h0 : 0 < i
      · have hw2 : IntKind.i64.wrap ((i : Int) - 1) = ((i - 1 : Nat) : Int) := by rw [wrap_id (by omega) (by omega)]; omega
        have hy : i - 1 < l.length := by omega
        cases h2 : Op.bytesLess l[i - 1].1.toList l[i].1.toList
        · simp -implicitDefEqProofs [hi, hy, eb, h1, pBx, hw2, h0, h2, bin_geqS]
        · have hp : pBx l i l[i] = allI (fun _ y => !sameP l[i] y) 0 (l.take i) := by simp [pBx, h1, h0, h2, hy]
          rw [hp]
          have htl : (l.take i).length ≤ 1048576 := by simp; omega
          simp -implicitDefEqProofs [hi, hy, eb, hw2, h0, h2, bin_geqS, ht, hw, ← List.map_take, -List.length_take, -List.map_take]
          generalize l.take i = t at ht htl
          refine loop_bind _ (loop_all t (fun j => [bxs l, bx l[i], bxs l, I l.length, I i, bxs t, I t.length, I j]) (fun _ y => !sameP l[i] y) (.ret [B false] []) (.ext 2 [bxs l, bxs l, I l.length, I i]) (fun j hj => ?_) ?_ rfl rfl rfl) ?_
          · have hwj : IntKind.i64.wrap ((j : Int) + 1) = (j : Int) + 1 := wrap_id (by omega) (by omega)
            by_cases c1 : t[j].2.1 = l[i].2.1 <;> by_cases c2 : t[j].2.2.1 = l[i].2.2.1 <;> simp -implicitDefEqProofs [hj, hwj, c1, c2, sameP]
          · simp -implicitDefEqProofs
          · cases ha : allI (fun _ y => !sameP l[i] y) 0 t <;> simp -implicitDefEqProofs [hw]
      · have hp : pBx l i l[i] = allI (fun _ y => !sameP l[i] y) 0 (l.take i) := by simp [pBx, h1, h0]
        rw [hp]
        have htl : (l.take i).length ≤ 1048576 := by simp; omega
        simp -implicitDefEqProofs [hi, eb, h0, bin_geqS, ht, hw, ← List.map_take, -List.length_take, -List.map_take]
        generalize l.take i = t at ht htl
        refine loop_bind _ (loop_all t (fun j => [bxs l, bx l[i], bxs l, I l.length, I i, bxs t, I t.length, I j]) (fun _ y => !sameP l[i] y) (.ret [B false] []) (.ext 2 [bxs l, bxs l, I l.length, I i]) (fun j hj => ?_) ?_ rfl rfl rfl) ?_
        · have hwj : IntKind.i64.wrap ((j : Int) + 1) = (j : Int) + 1 := wrap_id (by omega) (by omega)
          by_cases c1 : t[j].2.1 = l[i].2.1 <;> by_cases c2 : t[j].2.2.1 = l[i].2.2.1 <;> simp -implicitDefEqProofs [hj, hwj, c1, c2, sameP]
        · simp -implicitDefEqProofs
        · cases ha : allI (fun _ y => !sameP l[i] y) 0 t <;> simp -implicitDefEqProofs [hw]
  · simp
  · by_cases hg : allI (pBx l) 0 l = true <;> simp -implicitDefEqProofs [hg, goodC, e_spec_l1In]

end Go.Proofs.YtbbfddflmnclaaaDoor
/-
  Boxes of codes; formes; shops.
-/
namespace Go.Proofs.YtbbfddflmnclaaaDoor
open Go Go.V
set_option linter.unusedSimpArgs false

theorem e_impl_isTaken (t : List Bx) (x : Bx) (h : t.length ≤ 1048576) : F_impl_isTaken [bxs t, I x.2.1, I x.2.2.1] = some (.ret [B (!allI (fun _ y => !sameP x y) 0 t)] []) := by
  rw [t_impl_isTaken]
  simp only [lenD_arr, List.length_map, Option.bind_some]
  refine loop_bind _ (loop_all t (fun j => [I x.2.1, I x.2.2.1, bxs t, I t.length, I j]) (fun _ y => !sameP x y) (.ret [B true] []) (.ext 0 []) (fun j hj => ?_) ?_ rfl rfl rfl) ?_
  · have hwj : IntKind.i64.wrap ((j : Int) + 1) = (j : Int) + 1 := wrap_id (by omega) (by omega)
    by_cases c1 : t[j].2.1 = x.2.1 <;> by_cases c2 : t[j].2.2.1 = x.2.2.1 <;> simp -implicitDefEqProofs [hj, hwj, c1, c2, sameP]
  · simp -implicitDefEqProofs
  · cases ha : allI (fun _ y => !sameP x y) 0 t <;> simp -implicitDefEqProofs
theorem e_impl_IsCase (l : List Bx) (h : okBx l) : F_impl_IsCase [bxs l] = some (.ret [B (goodC l)] []) := by
  rw [t_impl_IsCase]
  have hl := h.1
  simp only [lenD_arr, List.length_map, Option.bind_some]
  refine loop_bind _ (loop_all l (fun i => [bxs l, bxs l, I l.length, I i]) (pBx l) (.ret [B false] []) (.ext 0 [bxs l]) (fun i hi => ?_) ?_ rfl rfl rfl) ?_
  · have hw : IntKind.i64.wrap ((i : Int) + 1) = (i : Int) + 1 := wrap_id (by omega) (by omega)
    have eb := e_impl_IsBox l[i] (h.2 _ (List.getElem_mem hi))
    have ht := take_bxs (Nat.le_of_lt hi)
    have et := e_impl_isTaken (l.take i) l[i] (by simp; omega)
    cases h1 : isBx l[i]
    · rw [h1] at eb
      simp -implicitDefEqProofs [hi, eb, h1, pBx]
    · rw [h1] at eb
      by_cases h0 : 0 < i
      · have hw2 : IntKind.i64.wrap ((i : Int) - 1) = ((i - 1 : Nat) : Int) := by rw [wrap_id (by omega) (by omega)]; omega
        have hy : i - 1 < l.length := by omega
        cases h2 : Op.bytesLess l[i - 1].1.toList l[i].1.toList
        · simp -implicitDefEqProofs [hi, hy, eb, h1, pBx, hw2, h0, h2, bin_geqS]
        · have hp : pBx l i l[i] = allI (fun _ y => !sameP l[i] y) 0 (l.take i) := by simp [pBx, h1, h0, h2, hy]
          rw [hp]
          cases ha : allI (fun _ y => !sameP l[i] y) 0 (l.take i) <;> rw [ha] at et <;> simp -implicitDefEqProofs [hi, hy, eb, hw2, h0, h2, bin_geqS, ht, hw, et, ← List.map_take, -List.map_take]
      · have hp : pBx l i l[i] = allI (fun _ y => !sameP l[i] y) 0 (l.take i) := by simp [pBx, h1, h0]
        rw [hp]
        cases ha : allI (fun _ y => !sameP l[i] y) 0 (l.take i) <;> rw [ha] at et <;> simp -implicitDefEqProofs [hi, eb, h0, bin_geqS, ht, hw, et, ← List.map_take, -List.map_take]
  · simp
  · by_cases hg : allI (pBx l) 0 l = true <;> simp -implicitDefEqProofs [hg, goodC, e_impl_within]

/-- The place of a code, or -1. -/
def fB (l : List Bx) (c : ByteArray) : Int := (findI (fun b : Bx => decide (b.1 = c)) 0 l).elim (-1) fun j => (j : Int)
theorem e_spec_caFind (l : List Bx) (c : ByteArray) (h : l.length ≤ 1048576) : F_spec_caFind [bxs l, T c] = some (.ret [I (fB l c)] []) := by
  rw [t_spec_caFind]
  simp only [lenD_arr, List.length_map, Option.bind_some]
  refine loop_bind _ (loop_find l (fun i => [T c, bxs l, I l.length, I i]) (fun b : Bx => decide (b.1 = c)) (fun j => .ret [I j] []) (.ext 0 []) (fun i hi => ?_) ?_ (fun _ => rfl) rfl rfl) ?_
  · have hw : IntKind.i64.wrap ((i : Int) + 1) = (i : Int) + 1 := wrap_id (by omega) (by omega)
    by_cases hc : l[i].1 = c <;> simp -implicitDefEqProofs [hi, hw, hc]
  · simp
  · unfold fB
    cases findI (fun b : Bx => decide (b.1 = c)) 0 l <;> simp -implicitDefEqProofs
theorem e_impl_boxAt (l : List Bx) (c : ByteArray) (h : l.length ≤ 1048576) : F_impl_boxAt [bxs l, T c] = some (.ret [I (fB l c)] []) := by
  rw [t_impl_boxAt]
  simp only [lenD_arr, List.length_map, Option.bind_some]
  refine loop_bind _ (loop_find l (fun i => [T c, bxs l, I l.length, I i]) (fun b : Bx => decide (b.1 = c)) (fun j => .ret [I j] []) (.ext 0 []) (fun i hi => ?_) ?_ (fun _ => rfl) rfl rfl) ?_
  · have hw : IntKind.i64.wrap ((i : Int) + 1) = (i : Int) + 1 := wrap_id (by omega) (by omega)
    by_cases hc : l[i].1 = c <;> simp -implicitDefEqProofs [hi, hw, hc]
  · simp
  · unfold fB
    cases findI (fun b : Bx => decide (b.1 = c)) 0 l <;> simp -implicitDefEqProofs

abbrev txs (l : List ByteArray) : D := .arr 1 (l.map T)
def hasAll (l : List Bx) (cs : List ByteArray) : Bool := allI (fun _ c => !decide (fB l c < 0)) 0 cs
theorem e_impl_areCodes (l : List Bx) (cs : List ByteArray) (h : okBx l) (hc : cs.length ≤ 1048576) : F_impl_areCodes [bxs l, txs cs] = some (.ret [B (hasAll l cs && goodC l && decide ((cs.length : Int) ≤ 60))] []) := by
  rw [t_impl_areCodes]
  simp only [lenD_arr, List.length_map, Option.bind_some]
  refine loop_bind _ (loop_all cs (fun i => [bxs l, txs cs, txs cs, I cs.length, I i]) (fun _ c => !decide (fB l c < 0)) (.ret [B false] []) (.ext 0 [bxs l, txs cs]) (fun i hi => ?_) ?_ rfl rfl rfl) ?_
  · have hw : IntKind.i64.wrap ((i : Int) + 1) = (i : Int) + 1 := wrap_id (by omega) (by omega)
    have eb := e_impl_boxAt l cs[i] h.1
    by_cases hb : fB l cs[i] < 0 <;> simp -implicitDefEqProofs [hi, hw, eb, hb]
  · simp
  · cases ha : allI (fun _ c => !decide (fB l c < 0)) 0 cs
    · simp -implicitDefEqProofs [hasAll, ha]
    · cases hg : goodC l <;> simp -implicitDefEqProofs [hasAll, ha, e_impl_IsCase l h, hg]

/-! ### formes -/
end Go.Proofs.YtbbfddflmnclaaaDoor
/-
  The types in a shop; its law.
-/
namespace Go.Proofs.YtbbfddflmnclaaaDoor
open Go Go.V
set_option linter.unusedSimpArgs false

/-- Sums along a list, as long as they are small. -/
theorem loop_sum {β : Type} {body : List D → Option Out} (l : List β) (st : Nat → Int → List D) (f : β → Int) (fin : Int → Out) (M a : Int) (hf : ∀ x ∈ l, 0 ≤ f x ∧ f x ≤ M) (hM : 0 ≤ M) (hb : 0 ≤ a) (hB : a + M * l.length < 9223372036854775808)
    (hs : ∀ (i : Nat) (a : Int) (hi : i < l.length), IntKind.i64.wrap (a + f l[i]) = a + f l[i] → body (st i a) = some (.nrm (st (i + 1) (a + f l[i])))) (he : ∀ a, body (st l.length a) = some (fin a)) (h1 : ∀ a, (fin a).ends = true) {s0 : List D} (h : s0 = st 0 a) :
    loopC body s0 = some (fin (a + (l.map f).sum)) := by
  have e : ∀ (m : List β) (i : Nat) (a : Int), foldI (fun _ a x => a + f x) i m a = a + (m.map f).sum := by
    intro m
    induction m with
    | nil => intro i a; simp [foldI]
    | cons x m ih => intro i a; simp only [foldI, ih, List.map_cons, List.sum_cons]; omega
  rw [← e l 0 a]
  refine loop_foldi l st (fun i b => 0 ≤ b ∧ b ≤ a + M * i) (fun _ a x => a + f x) fin a (fun i b hi hI => ?_) (fun a _ => he a) h1 ⟨hb, by simp⟩ h
  have hx := hf l[i] (List.getElem_mem hi)
  have h3 : M * (i : Int) + M ≤ M * l.length := by
    have : M * ((i : Int) + 1) ≤ M * l.length := Int.mul_le_mul_of_nonneg_left (by omega) hM
    rw [Int.mul_add, Int.mul_one] at this
    exact this
  have h4 : M * ((i + 1 : Nat) : Int) = M * (i : Int) + M := by
    rw [Int.natCast_add, Int.mul_add]
    simp
  exact ⟨hs i b hi (wrap_id (by omega) (by omega)), by omega, by rw [h4]; omega⟩
theorem sum_le {β : Type} {f : β → Int} {M : Int} : ∀ {l : List β}, (∀ x ∈ l, 0 ≤ f x ∧ f x ≤ M) → 0 ≤ (l.map f).sum ∧ (l.map f).sum ≤ M * l.length
  | [], _ => by simp
  | x :: l, h => by
    have h1 := h x (by simp)
    have h2 := sum_le (l := l) fun y hy => h y (by simp [hy])
    simp only [List.map_cons, List.sum_cons, List.length_cons, Int.natCast_add, Int.mul_add]
    simp only [Int.natCast_one, Int.mul_one]
    omega

theorem goodC_counts {l : List Bx} (h : goodC l = true) : l.length ≤ 32 ∧ ∀ x ∈ l, 0 ≤ x.2.2.2 ∧ x.2.2.2 ≤ 9999 := by
  simp only [goodC, Bool.and_eq_true, decide_eq_true_eq] at h
  refine ⟨by omega, ?_⟩
  have key : ∀ (m : List Bx) (i : Nat), allI (pBx l) i m = true → ∀ x ∈ m, 0 ≤ x.2.2.2 ∧ x.2.2.2 ≤ 9999 := by
    intro m
    induction m with
    | nil => intro i _ x hx; simp at hx
    | cons y m ih =>
      intro i hp x hx
      simp only [allI, Bool.and_eq_true] at hp
      rcases List.mem_cons.1 hx with rfl | hx
      · have := hp.1
        simp only [pBx, isBx, Bool.and_eq_true, decide_eq_true_eq] at this
        exact this.1.1.2
      · exact ih (i + 1) hp.2 x hx
  exact key l 0 h.1

def counts (l : List Bx) : Int := (l.map fun x => x.2.2.2).sum
theorem e_spec_caSum (l : List Bx) (h : goodC l = true) : F_spec_caSum [bxs l] = some (.ret [I (counts l)] []) := by
  rw [t_spec_caSum]
  obtain ⟨h32, hc⟩ := goodC_counts h
  simp only [lenD_arr, List.length_map, Option.bind_some]
  refine loop_bind _ (loop_sum l (fun i a => [I a, bxs l, I l.length, I i]) (fun x => x.2.2.2) (fun a => .ext 0 [I a]) 9999 0 hc (by omega) (by omega) (by omega) (fun i a hi hwa => ?_) (fun a => ?_) (fun _ => rfl) rfl) ?_
  · have hw : IntKind.i64.wrap ((i : Int) + 1) = (i : Int) + 1 := wrap_id (by omega) (by omega)
    simp -implicitDefEqProofs [hi, hw, hwa]
  · simp -implicitDefEqProofs
  · simp -implicitDefEqProofs [counts]
theorem e_impl_TypesIn (l : List Bx) (ho : okBx l) (h : goodC l = true) : F_impl_TypesIn [bxs l] = some (.ret [I (counts l), B true] []) := by
  rw [t_impl_TypesIn]
  obtain ⟨h32, hc⟩ := goodC_counts h
  simp -implicitDefEqProofs only [e_impl_IsCase l ho, h, callK_ret, sl_zero, un_not, Bool.not_true, Option.bind_some, ifD_B, Bool.false_eq_true, if_false, lenD_arr, List.length_map]
  refine loop_bind _ (loop_sum l (fun i a => [I a, bxs l, I l.length, I i]) (fun x => x.2.2.2) (fun a => .ext 0 [I a]) 9999 0 hc (by omega) (by omega) (by omega) (fun i a hi hwa => ?_) (fun a => ?_) (fun _ => rfl) rfl) ?_
  · have hw : IntKind.i64.wrap ((i : Int) + 1) = (i : Int) + 1 := wrap_id (by omega) (by omega)
    simp -implicitDefEqProofs [hi, hw, hwa]
  · simp -implicitDefEqProofs
  · simp -implicitDefEqProofs [counts]
end Go.Proofs.YtbbfddflmnclaaaDoor
/-
  How a word is set: plain laws.
-/
namespace Go.Proofs.YtbbfddflmnclaaaDoor
open Go Go.V
set_option linter.unusedSimpArgs false

theorem foldI_inv {α β : Type} (f : Nat → α → β → α) (l : List β) (Inv : Nat → α → Prop) (hs : ∀ (i : Nat) (a : α) (hi : i < l.length), Inv i a → Inv (i + 1) (f i a l[i])) (a : α) (h0 : Inv 0 a) : Inv l.length (foldI f 0 l a) := by
  have key : ∀ (n i : Nat) (a : α), i + n = l.length → Inv i a → Inv l.length (foldI f i (l.drop i) a) := by
    intro n
    induction n with
    | zero =>
      intro i a hi hI
      have : i = l.length := by omega
      subst this
      rw [List.drop_length]
      exact hI
    | succ n ih =>
      intro i a hi hI
      have hlt : i < l.length := by omega
      rw [List.drop_eq_getElem_cons hlt]
      exact ih (i + 1) _ (by omega) (hs i a hlt hI)
  simpa using key l.length 0 a (by omega) h0

theorem chars_inj {a b : ByteArray} (h : chars a = chars b) : a = b := by
  cases a with | mk a => cases b with | mk b =>
    cases a with | mk a => cases b with | mk b =>
      simp [chars] at h
      rw [h]
theorem chars_extract (s : ByteArray) (i j : Nat) : chars (s.extract i j) = ((chars s).take j).drop i := by
  simp [chars, List.drop_take]
theorem sliceS {s : ByteArray} {z i j : Nat} (h1 : i ≤ j) (h2 : j ≤ s.size) : sliceD true z (T s) (I (i : Int)) (I (j : Int)) = some (T (s.extract i j)) := by
  simp only [sliceD, Int.toNat_natCast]
  rw [if_pos (by omega)]
theorem sliceHiS {s : ByteArray} {z i : Nat} (h : i ≤ s.size) : sliceHi true z (T s) (I (i : Int)) = some (T (s.extract i s.size)) := by
  simp only [sliceHi, Int.toNat_natCast]
  rw [if_pos (by omega)]

/-- Does a text begin with a code? -/
def Pre (c : ByteArray) (w : List UInt8) : Prop := w.take (chars c).length = chars c
instance (c : ByteArray) (w : List UInt8) : Decidable (Pre c w) := by unfold Pre; infer_instance
theorem Pre.len {c : ByteArray} {w : List UInt8} (h : Pre c w) : (chars c).length ≤ w.length := by
  have := congrArg List.length h
  rw [List.length_take] at this
  omega
def Best (cs : List ByteArray) (w : List UInt8) (i : Nat) : Prop := ∃ h : i < cs.length, Pre cs[i] w ∧ ∀ (j : Nat) (hj : j < cs.length), Pre cs[j] w → (chars cs[j]).length ≤ (chars cs[i]).length
def NoneOf (cs : List ByteArray) (w : List UInt8) : Prop := ∀ (j : Nat) (hj : j < cs.length), ¬ Pre cs[j] w
/-- Codes: different ones, of one to three letters. -/
structure Codes (cs : List ByteArray) : Prop where
  len : ∀ (j : Nat) (hj : j < cs.length), 1 ≤ (chars cs[j]).length ∧ (chars cs[j]).length ≤ 3
  inj : ∀ (i j : Nat) (hi : i < cs.length) (hj : j < cs.length), cs[i] = cs[j] → i = j
theorem Best.uniq {cs : List ByteArray} {w : List UInt8} (hc : Codes cs) {i j : Nat} (hi : Best cs w i) (hj : Best cs w j) : i = j := by
  obtain ⟨h1, p1, m1⟩ := hi
  obtain ⟨h2, p2, m2⟩ := hj
  have e : (chars cs[i]).length = (chars cs[j]).length := Nat.le_antisymm (m2 i h1 p1) (m1 j h2 p2)
  refine hc.inj i j h1 h2 (chars_inj ?_)
  rw [← p1, ← p2, e]
/-- What a search for the best code gives. -/
def BN (cs : List ByteArray) (w : List UInt8) (b : Int) : Prop := (b = -1 ∧ NoneOf cs w) ∨ ∃ k : Nat, b = k ∧ Best cs w k
theorem BN.best {cs : List ByteArray} {w : List UInt8} (hc : Codes cs) {b : Int} (h : BN cs w b) {i : Nat} (hi : Best cs w i) : b = i := by
  rcases h with ⟨_, h⟩ | ⟨k, rfl, h⟩
  · exact absurd hi.2.1 (h i hi.1)
  · rw [h.uniq hc hi]
theorem BN.none {cs : List ByteArray} {w : List UInt8} {b : Int} (h : BN cs w b) (hi : NoneOf cs w) : b = -1 := by
  rcases h with ⟨h, _⟩ | ⟨k, rfl, h⟩
  · exact h
  · exact absurd h.2.1 (hi k h.1)

inductive Sets (cs : List ByteArray) : List UInt8 → List Nat → Option (List Nat) → Prop where
  | nil {acc : List Nat} : Sets cs [] acc (some acc)
  | fail {w : List UInt8} {acc : List Nat} : w ≠ [] → NoneOf cs w → Sets cs w acc none
  | step {w : List UInt8} {acc : List Nat} {i : Nat} {r : Option (List Nat)} : w ≠ [] → Best cs w i → Sets cs (w.drop (chars (cs.getD i ByteArray.empty)).length) (acc ++ [i]) r → Sets cs w acc r
theorem best_ex {cs : List ByteArray} {w : List UInt8} (h : ¬ NoneOf cs w) : ∃ i, Best cs w i := by
  have key : ∀ n, n ≤ cs.length → (∀ (j : Nat) (hj : j < cs.length), j < n → ¬ Pre cs[j] w) ∨ ∃ (i : Nat) (hi : i < cs.length), i < n ∧ Pre cs[i] w ∧ ∀ (j : Nat) (hj : j < cs.length), j < n → Pre cs[j] w → (chars cs[j]).length ≤ (chars cs[i]).length := by
    intro n
    induction n with
    | zero => exact fun _ => .inl fun j _ hj => absurd hj (by omega)
    | succ n ih =>
      intro hn
      by_cases hp : Pre cs[n] w
      · rcases ih (by omega) with h | ⟨i, hi, h1, h2, h3⟩
        · refine .inr ⟨n, by omega, by omega, hp, fun j hj hjn hpj => ?_⟩
          rcases Nat.lt_or_ge j n with h' | h'
          · exact absurd hpj (h j hj h')
          · have : j = n := by omega
            subst this
            exact Nat.le_refl _
        · by_cases hl : (chars cs[n]).length ≤ (chars cs[i]).length
          · refine .inr ⟨i, hi, by omega, h2, fun j hj hjn hpj => ?_⟩
            rcases Nat.lt_or_ge j n with h' | h'
            · exact h3 j hj h' hpj
            · have : j = n := by omega
              subst this
              exact hl
          · refine .inr ⟨n, by omega, by omega, hp, fun j hj hjn hpj => ?_⟩
            rcases Nat.lt_or_ge j n with h' | h'
            · exact Nat.le_trans (h3 j hj h' hpj) (by omega)
            · have : j = n := by omega
              subst this
              exact Nat.le_refl _
      · rcases ih (by omega) with h | ⟨i, hi, h1, h2, h3⟩
        · refine .inl fun j hj hjn hpj => ?_
          rcases Nat.lt_or_ge j n with h' | h'
          · exact h j hj h' hpj
          · have : j = n := by omega
            subst this
            exact hp hpj
        · refine .inr ⟨i, hi, by omega, h2, fun j hj hjn hpj => ?_⟩
          rcases Nat.lt_or_ge j n with h' | h'
          · exact h3 j hj h' hpj
          · have : j = n := by omega
            subst this
            exact absurd hpj hp
  rcases key cs.length (Nat.le_refl _) with h' | ⟨i, hi, _, h2, h3⟩
  · exact absurd (fun j hj => h' j hj hj) h
  · exact ⟨i, hi, h2, fun j hj => h3 j hj hj⟩
theorem getD_eq {cs : List ByteArray} {i : Nat} (h : i < cs.length) : cs.getD i ByteArray.empty = cs[i] := by
  simp [List.getD_eq_getElem?_getD, h]
theorem sets_total {cs : List ByteArray} (hc : Codes cs) : ∀ (n : Nat) (w : List UInt8) (acc : List Nat), w.length ≤ n → ∃ r, Sets cs w acc r
  | 0, w, acc, h => by
    have : w = [] := List.eq_nil_of_length_eq_zero (by omega)
    subst this
    exact ⟨_, .nil⟩
  | n + 1, w, acc, h => by
    by_cases hw : w = []
    · subst hw
      exact ⟨_, .nil⟩
    · by_cases hN : NoneOf cs w
      · exact ⟨_, .fail hw hN⟩
      · obtain ⟨i, hi⟩ := best_ex hN
        have h1 := hc.len i hi.1
        obtain ⟨r, hr⟩ := sets_total hc n (w.drop (chars (cs.getD i ByteArray.empty)).length) (acc ++ [i]) (by
          rw [getD_eq hi.1, List.length_drop]
          have : 0 < w.length := List.length_pos_iff.2 hw
          omega)
        exact ⟨r, .step hw hi hr⟩
theorem sets_lt {cs : List ByteArray} (hc : Codes cs) {w : List UInt8} {acc : List Nat} {r : Option (List Nat)} (h : Sets cs w acc r) : (∀ i ∈ acc, i < cs.length) → ∀ l, r = some l → (∀ i ∈ l, i < cs.length) ∧ l.length ≤ acc.length + w.length := by
  induction h with
  | nil =>
    intro h l e
    cases e
    exact ⟨h, by simp⟩
  | fail => intro _ l e; cases e
  | step hw hb _ ih =>
    rename_i w acc i r _
    intro h l e
    obtain ⟨h1, h2⟩ := ih (fun j hj => by
      rcases List.mem_append.1 hj with hj | hj
      · exact h j hj
      · simp at hj
        subst hj
        exact hb.1) l e
    refine ⟨h1, ?_⟩
    rw [List.length_append, List.length_singleton, List.length_drop, getD_eq hb.1] at h2
    have := hc.len i hb.1
    have := hb.2.1.len
    omega

theorem sets_runs {cs : List ByteArray} (hc : Codes cs) {body : List D → Option Out} (w : List UInt8) (st : Nat → List Nat → List D) (fin : Option (List Nat) → Out) (hfin : ∀ r, (fin r).ends = true)
    (h0 : ∀ acc, acc.length ≤ w.length → body (st w.length acc) = some (fin (some acc))) (hf : ∀ at_ acc, at_ < w.length → acc.length ≤ at_ → NoneOf cs (w.drop at_) → body (st at_ acc) = some (fin none))
    (hs : ∀ at_ acc i (hb : Best cs (w.drop at_) i), at_ < w.length → acc.length ≤ at_ → at_ + (chars (cs[i]'hb.1)).length ≤ w.length → body (st at_ acc) = some (.nrm (st (at_ + (chars (cs[i]'hb.1)).length) (acc ++ [i])))) {rest : List UInt8} {acc : List Nat} {r : Option (List Nat)} (h : Sets cs rest acc r) :
    ∀ at_, at_ ≤ w.length → acc.length ≤ at_ → rest = w.drop at_ → Runs body (st at_ acc) (fin r) := by
  induction h with
  | nil =>
    intro at_ h1 h2 h3
    have := congrArg List.length h3
    rw [List.length_drop, List.length_nil] at this
    have : at_ = w.length := by omega
    subst this
    exact Runs.one (h0 _ h2) (hfin _)
  | fail hw hN =>
    intro at_ h1 h2 h3
    subst h3
    have : at_ < w.length := by
      rcases Nat.lt_or_ge at_ w.length with h | h
      · exact h
      · exact absurd (List.drop_eq_nil_of_le h) hw
    exact Runs.one (hf at_ _ this h2 hN) (hfin _)
  | step hw hb _ ih =>
    rename_i w' acc i r _
    intro at_ h1 h2 h3
    subst h3
    have hlt : at_ < w.length := by
      rcases Nat.lt_or_ge at_ w.length with h | h
      · exact h
      · exact absurd (List.drop_eq_nil_of_le h) hw
    have hl := hb.2.1.len
    rw [List.length_drop] at hl
    have h1' := hc.len i hb.1
    rw [getD_eq hb.1] at ih
    refine .nrm (hs at_ acc i hb hlt h2 (by omega)) (ih _ (by omega) (by rw [List.length_append, List.length_singleton]; omega) ?_)
    rw [List.drop_drop]

end Go.Proofs.YtbbfddflmnclaaaDoor
/-
  How a word is set: what the functions compute.
-/
namespace Go.Proofs.YtbbfddflmnclaaaDoor
open Go Go.V
set_option linter.unusedSimpArgs false

abbrev so (c : ByteArray) : D := .agg [T c, I 1]
abbrev fD (cs : List ByteArray) : D := .arr 2 (cs.map so)
abbrev nats (l : List Nat) : D := .arr 1 (l.map fun (i : Nat) => I (i : Int))
theorem isV_so (c : ByteArray) : (so c).isV = true := rfl
theorem nats_app (l : List Nat) (i : Nat) (h : l.length ≤ 1048576) : appD 1 8 (nats l) (.arr 1 [I (i : Int)]) = some (nats (l ++ [i])) := by
  rw [appD_eq, if_pos (by simp only [List.length_map, List.length_singleton]; omega)]
  simp
theorem nats_one (i : Nat) : mkArr 1 [I (i : Int)] = some (.arr 1 [I (i : Int)]) := by simp [mkArr, lenOkD]
theorem nats_chk (i : Nat) : chkA (.arr 1 [I (i : Int)]) = some (.arr 1 [I (i : Int)]) := by simp [chkA, D.isV]

theorem findI_some {β : Type} {p : β → Bool} : ∀ {l : List β} {i j : Nat}, findI p i l = some j → i ≤ j ∧ ∃ h : j - i < l.length, p l[j - i] = true
  | [], i, j, h => by simp [findI] at h
  | x :: l, i, j, h => by
    simp only [findI] at h
    split at h
    · rename_i hp
      cases h
      exact ⟨Nat.le_refl _, by simp, by simpa using hp⟩
    · obtain ⟨h1, h2, h3⟩ := findI_some h
      refine ⟨by omega, by simp; omega, ?_⟩
      have : j - i = (j - (i + 1)) + 1 := by omega
      simp only [this, List.getElem_cons_succ]
      exact h3
theorem findI_none {β : Type} {p : β → Bool} : ∀ {l : List β} {i : Nat}, findI p i l = none → ∀ (j : Nat) (hj : j < l.length), p l[j] = false
  | [], i, _, j, hj => by simp at hj
  | x :: l, i, h, j, hj => by
    simp only [findI] at h
    split at h
    · cases h
    · rename_i hp
      cases j with
      | zero => simpa using hp
      | succ j => exact findI_none h j (by simpa using hj)
def fC (cs : List ByteArray) (c : ByteArray) : Int := (findI (fun b : ByteArray => decide (b = c)) 0 cs).elim (-1) fun j => (j : Int)
theorem fC_is {cs : List ByteArray} {c : ByteArray} : (fC cs c = -1 ∧ ∀ (j : Nat) (hj : j < cs.length), cs[j] ≠ c) ∨ ∃ (j : Nat) (hj : j < cs.length), fC cs c = j ∧ cs[j] = c := by
  unfold fC
  cases h : findI (fun b : ByteArray => decide (b = c)) 0 cs with
  | none => exact .inl ⟨rfl, fun j hj => by simpa using findI_none h j hj⟩
  | some j =>
    obtain ⟨_, h1, h2⟩ := findI_some h
    exact .inr ⟨j, by simpa using h1, rfl, by simpa using h2⟩
/-- What is told of a word that is set. -/
def outS (r : Option (List Nat)) : Out := match r with
  | some l => .ext 0 [nats l]
  | none => .ret [nats [], B false] []
def setR (r : Option (List Nat)) : Option Out := some (.ret [nats (r.getD []), B r.isSome] [])
end Go.Proofs.YtbbfddflmnclaaaDoor
/-
  Codes of a word; types taken from a case; whether a word may be set.
-/
namespace Go.Proofs.YtbbfddflmnclaaaDoor
open Go Go.V
set_option linter.unusedSimpArgs false

theorem less_irrefl : ∀ x : List UInt8, Op.bytesLess x x = false
  | [] => rfl
  | a :: x => by
    simp only [Op.bytesLess, less_irrefl x, Bool.and_false, Bool.or_false, decide_eq_false_iff_not]
    exact UInt8.lt_irrefl a
theorem less_trans : ∀ x y z : List UInt8, Op.bytesLess x y = true → Op.bytesLess y z = true → Op.bytesLess x z = true
  | _, [], _, h, _ => by simp [Op.bytesLess] at h
  | _, _ :: _, [], _, h => by simp [Op.bytesLess] at h
  | [], _ :: _, _ :: _, _, _ => rfl
  | a :: x, b :: y, c :: z, h1, h2 => by
    simp only [Op.bytesLess, Bool.or_eq_true, decide_eq_true_eq, Bool.and_eq_true, beq_iff_eq] at h1 h2 ⊢
    rcases h1 with h1 | ⟨rfl, h1⟩
    · rcases h2 with h2 | ⟨rfl, _⟩
      · exact .inl (UInt8.lt_trans h1 h2)
      · exact .inl h1
    · rcases h2 with h2 | ⟨rfl, h2⟩
      · exact .inl h2
      · exact .inr ⟨rfl, less_trans x y z h1 h2⟩

abbrev cods (l : List Bx) : List ByteArray := l.map (·.1)
theorem allI_at {β : Type} {p : Nat → β → Bool} : ∀ {l : List β} {i : Nat}, allI p i l = true → ∀ (j : Nat) (hj : j < l.length), p (i + j) l[j] = true
  | [], _, _, j, hj => by simp at hj
  | x :: l, i, h, j, hj => by
    simp only [allI, Bool.and_eq_true] at h
    cases j with
    | zero => exact h.1
    | succ j =>
      have := allI_at h.2 j (by simpa using hj)
      rw [show i + (j + 1) = i + 1 + j from by omega]
      exact this
theorem goodC_codes {l : List Bx} (h : goodC l = true) : Codes (cods l) := by
  simp only [goodC, Bool.and_eq_true, decide_eq_true_eq] at h
  have hp : ∀ (j : Nat) (hj : j < l.length), pBx l j l[j] = true := fun j hj => by
    have := allI_at h.1 j hj
    rwa [Nat.zero_add] at this
  have asc : ∀ (d i : Nat) (hj : i + d + 1 < l.length), Op.bytesLess (l[i]'(by omega)).1.toList l[i + d + 1].1.toList = true := by
    intro d
    have one : ∀ (i : Nat) (hj : i + 1 < l.length), Op.bytesLess (l[i]'(by omega)).1.toList l[i + 1].1.toList = true := fun i hj => by
      have := hp (i + 1) hj
      simp only [pBx, Bool.and_eq_true, Bool.not_eq_true', Bool.and_eq_false_iff, decide_eq_false_iff_not, Bool.not_eq_false'] at this
      have h2 := this.1.2.resolve_left (by omega)
      rw [Nat.add_sub_cancel, List.getD_eq_getElem?_getD, List.getElem?_eq_getElem (by omega)] at h2
      exact h2
    induction d with
    | zero => exact fun i hj => one i hj
    | succ d ih => exact fun i hj => less_trans _ _ _ (ih i (by omega)) (one (i + d + 1) (by omega))
  refine ⟨fun j hj => ?_, fun i j hi hj e => ?_⟩
  · have hj' : j < l.length := by simpa using hj
    have := hp j hj'
    simp only [pBx, isBx, letters, Bool.and_eq_true, decide_eq_true_eq] at this
    have h2 := this.1.1.1.1.1.2
    simp only [List.getElem_map]
    show 1 ≤ (l[j].1).size ∧ (l[j].1).size ≤ 3
    omega
  · have hi' : i < l.length := by simpa using hi
    have hj' : j < l.length := by simpa using hj
    simp only [List.getElem_map] at e
    rcases Nat.lt_trichotomy i j with h | h | h
    · have := asc (j - i - 1) i (by omega)
      simp only [show i + (j - i - 1) + 1 = j from by omega] at this
      rw [e, less_irrefl] at this
      cases this
    · exact h
    · have := asc (i - j - 1) j (by omega)
      simp only [show j + (i - j - 1) + 1 = i from by omega] at this
      rw [e, less_irrefl] at this
      cases this
theorem fB_eq (l : List Bx) (c : ByteArray) : fB l c = fC (cods l) c := by
  unfold fB fC
  congr 1
  have : ∀ (m : List Bx) (i : Nat), findI (fun b : Bx => decide (b.1 = c)) i m = findI (fun b : ByteArray => decide (b = c)) i (m.map (·.1)) := by
    intro m
    induction m with
    | nil => intro i; rfl
    | cons x m ih =>
      intro i
      simp only [List.map_cons, findI, ih]
  exact this l 0

/-! ### codes -/
theorem bldSo (c : ByteArray) : bldD [(0, 1), (1, 1)] [T ⟨#[]⟩, I 0] [T c, I 1] = some (so c) := by simp [bldD, fillD]
theorem so_one (c : ByteArray) : mkArr 2 [so c] = some (fD [c]) := by simp [mkArr, lenOkD]
theorem so_app (l : List ByteArray) (c : ByteArray) (h : l.length ≤ 1048576) : appD 2 24 (fD l) (fD [c]) = some (fD (l ++ [c])) := by
  rw [appD_eq, if_pos (by simp only [List.length_map, List.length_singleton]; omega)]
  simp
theorem so_chk (c : ByteArray) : chkA (fD [c]) = some (fD [c]) := chkA_map isV_so
theorem tx_one (c : ByteArray) : mkArr 1 [T c] = some (txs [c]) := by simp [mkArr, lenOkD]
theorem tx_app (l : List ByteArray) (c : ByteArray) (h : l.length ≤ 1048576) : appD 1 16 (txs l) (txs [c]) = some (txs (l ++ [c])) := by
  rw [appD_eq, if_pos (by simp only [List.length_map, List.length_singleton]; omega)]
  simp
theorem tx_chk (c : ByteArray) : chkA (txs [c]) = some (txs [c]) := by simp [chkA, D.isV]
def codesOut (cs : List ByteArray) (r : List Nat) : List ByteArray := r.map fun i => cs.getD i ByteArray.empty
theorem take_snoc {α : Type} {l : List α} {i : Nat} (h : i < l.length) : l.take (i + 1) = l.take i ++ [l[i]] := List.take_succ_eq_append_getElem h
end Go.Proofs.YtbbfddflmnclaaaDoor
/-
  Types taken from a case; whether a word may be set; the law.
-/
namespace Go.Proofs.YtbbfddflmnclaaaDoor
open Go Go.V
set_option linter.unusedSimpArgs false

/-- A case with some types more of a code. -/
def updF (cs : List ByteArray) (by_ : Int) (l : List Bx) (c : ByteArray) : List Bx :=
  l.set (fC cs c).toNat ((l.getD (fC cs c).toNat (ByteArray.empty, 0, 0, 0)).1, (l.getD (fC cs c).toNat (ByteArray.empty, 0, 0, 0)).2.1, (l.getD (fC cs c).toNat (ByteArray.empty, 0, 0, 0)).2.2.1, IntKind.i64.wrap ((l.getD (fC cs c).toNat (ByteArray.empty, 0, 0, 0)).2.2.2 + by_))
theorem updF_cods (cs : List ByteArray) (by_ : Int) (l : List Bx) (c : ByteArray) : cods (updF cs by_ l c) = cods l := by
  unfold updF cods
  rw [List.map_set]
  refine List.ext_getElem? fun i => ?_
  rw [List.getElem?_set]
  split
  · rename_i h
    subst h
    simp only [List.length_map, List.getElem?_map, List.getD_eq_getElem?_getD]
    split
    · rename_i h
      rw [List.getElem?_eq_getElem h]
      rfl
    · rename_i h
      rw [List.getElem?_eq_none (by omega)]
      rfl
  · rfl
def moveC (cs : List ByteArray) (by_ : Int) (l : List Bx) (codes : List ByteArray) : List Bx := codes.foldl (updF cs by_) l
theorem moveC_cods (cs : List ByteArray) (by_ : Int) : ∀ (codes : List ByteArray) (l : List Bx), cods (moveC cs by_ l codes) = cods l
  | [], l => rfl
  | c :: codes, l => by
    show cods (moveC cs by_ (updF cs by_ l c) codes) = cods l
    rw [moveC_cods cs by_ codes, updF_cods]
theorem okBx_cods {l m : List Bx} (h : okBx l) (e : cods m = cods l) : okBx m := by
  have hl : m.length = l.length := by
    have := congrArg List.length e
    simpa using this
  refine ⟨by rw [hl]; exact h.1, fun x hx => ?_⟩
  have : x.1 ∈ cods m := List.mem_map_of_mem hx
  rw [e] at this
  obtain ⟨y, hy, hy'⟩ := List.mem_map.1 this
  rw [← hy']
  exact h.2 y hy
theorem moveC_snoc (cs : List ByteArray) (by_ : Int) (l : List Bx) (codes : List ByteArray) {i : Nat} (hi : i < codes.length) : moveC cs by_ l (codes.take (i + 1)) = updF cs by_ (moveC cs by_ l (codes.take i)) codes[i] := by
  unfold moveC
  rw [take_snoc hi, List.foldl_append]
  rfl
theorem bxs_copy (l : List Bx) (h : l.length ≤ 1048576) : (((mkArr 4 []).bind fun a => (chkA (bxs l)).bind fun b => appD 4 40 a b) = some (bxs l)) := by
  rw [mkArr_nil, Option.bind_some, chkA_map isV_bx, Option.bind_some, appD_eq, if_pos (by simp only [List.length_nil, List.length_map]; omega)]
  rfl
theorem upd_run (cs : List ByteArray) (by_ : Int) (m : List Bx) (c : ByteArray) (k : Nat) (hk : fC cs c = k) (hm : k < m.length) : stD 1 (bxs m) (.ref k 3) (.v (.int .i64 (IntKind.i64.wrap (m[k].2.2.2 + by_)))) = some (bxs (updF cs by_ m c)) := by
  rw [stD_part (c := [T m[k].1, I m[k].2.1, I m[k].2.2.1, I m[k].2.2.2]) (by simp [hm]) (by simp)]
  unfold updF
  rw [hk, Int.toNat_natCast, List.getD_eq_getElem?_getD, List.getElem?_eq_getElem hm]
  simp [List.map_set]

theorem e_spec_caMove (l : List Bx) (codes : List ByteArray) (by_ : Int) (h : okBx l) (hl : codes.length ≤ 1048576) (hc : ∀ c ∈ codes, ∃ k : Nat, fC (cods l) c = k ∧ k < l.length) :
    F_spec_caMove [bxs l, txs codes, I by_] = some (.ret [if goodC (moveC (cods l) by_ l codes) = true then bxs (moveC (cods l) by_ l codes) else .arr 4 [], B (goodC (moveC (cods l) by_ l codes))] []) := by
  rw [t_spec_caMove]
  have h0 := h.1
  have ha : appD 4 40 (.arr 4 []) (bxs l) = some (bxs l) := by
    rw [appD_eq, if_pos (by simp only [List.length_nil, List.length_map]; omega)]
    rfl
  simp only [mkArr_nil, Option.bind_some, chkA_map isV_bx, ha, lenD_arr, List.length_map]
  refine loop_bind (.ext 0 [bxs (moveC (cods l) by_ l codes)]) (loop_for codes.length (fun i => [I by_, bxs (moveC (cods l) by_ l (codes.take i)), txs codes, I codes.length, I i]) _ (fun i hi => ?_) ?_ rfl rfl) ?_
  · have hw : IntKind.i64.wrap ((i : Int) + 1) = (i : Int) + 1 := wrap_id (by omega) (by omega)
    have hm := moveC_cods (cods l) by_ (codes.take i) l
    obtain ⟨k, hk1, hk2⟩ := hc codes[i] (List.getElem_mem hi)
    rw [moveC_snoc _ _ _ _ hi]
    generalize moveC (cods l) by_ l (codes.take i) = m at hm
    have hml : m.length = l.length := by
      have := congrArg List.length hm
      simpa using this
    have ef := e_spec_caFind m codes[i] (by omega)
    rw [fB_eq, hm, hk1] at ef
    have hkm : k < m.length := by omega
    have eu := upd_run (cods l) by_ m codes[i] k hk1 hkm
    simp -implicitDefEqProofs [hi, hw, ef, hkm, eu]
  · simp -implicitDefEqProofs
  · have eg := e_spec_caGood _ (okBx_cods h (moveC_cods (cods l) by_ codes l))
    cases hg : goodC (moveC (cods l) by_ l codes) <;> rw [hg] at eg <;> simp -implicitDefEqProofs [eg]
theorem e_impl_changed (l : List Bx) (codes : List ByteArray) (by_ : Int) (h : okBx l) (hl : codes.length ≤ 60) (hg : goodC l = true) (hc : ∀ c ∈ codes, ∃ k : Nat, fC (cods l) c = k ∧ k < l.length) :
    F_impl_changed [bxs l, txs codes, I by_] = some (.ret [if goodC (moveC (cods l) by_ l codes) = true then bxs (moveC (cods l) by_ l codes) else .arr 4 [], B (goodC (moveC (cods l) by_ l codes))] []) := by
  rw [t_impl_changed]
  have h0 := h.1
  have ha : appD 4 40 (.arr 4 []) (bxs l) = some (bxs l) := by
    rw [appD_eq, if_pos (by simp only [List.length_nil, List.length_map]; omega)]
    rfl
  have hall : hasAll l codes = true := by
    have key : ∀ (m : List ByteArray) (i : Nat), (∀ c ∈ m, ∃ k : Nat, fC (cods l) c = k ∧ k < l.length) → allI (fun _ c => !decide (fB l c < 0)) i m = true := by
      intro m
      induction m with
      | nil => intro i _; rfl
      | cons c m ih =>
        intro i hm
        obtain ⟨k, hk, _⟩ := hm c (by simp)
        have hk0 : ¬ fB l c < 0 := by rw [fB_eq, hk]; omega
        simp [allI, ih (i + 1) (fun d hd => hm d (by simp [hd])), hk0]
    exact key codes 0 hc
  have ea := e_impl_areCodes l codes h (by omega)
  rw [hall, hg] at ea
  have h60 : (codes.length : Int) ≤ 60 := by omega
  simp -implicitDefEqProofs only [ea, h60, decide_true, Bool.and_self, Bool.not_true, callK_ret, sl_zero, un_not, ifD_B, Bool.false_eq_true, if_false, mkArr_nil, Option.bind_some, chkA_map isV_bx, ha, lenD_arr, List.length_map]
  refine loop_bind (.ext 0 [bxs (moveC (cods l) by_ l codes)]) (loop_for codes.length (fun i => [bxs l, I by_, bxs (moveC (cods l) by_ l (codes.take i)), txs codes, I codes.length, I i]) _ (fun i hi => ?_) ?_ rfl rfl) ?_
  · have hw : IntKind.i64.wrap ((i : Int) + 1) = (i : Int) + 1 := wrap_id (by omega) (by omega)
    have hm := moveC_cods (cods l) by_ (codes.take i) l
    obtain ⟨k, hk1, hk2⟩ := hc codes[i] (List.getElem_mem hi)
    rw [moveC_snoc _ _ _ _ hi]
    generalize moveC (cods l) by_ l (codes.take i) = m at hm
    have hml : m.length = l.length := by
      have := congrArg List.length hm
      simpa using this
    have ef := e_impl_boxAt l codes[i] (by omega)
    rw [fB_eq, hk1] at ef
    have hkm : k < m.length := by omega
    have eu := upd_run (cods l) by_ m codes[i] k hk1 hkm
    simp -implicitDefEqProofs [hi, hw, ef, hkm, eu]
  · simp -implicitDefEqProofs
  · have eg := e_impl_IsCase _ (okBx_cods h (moveC_cods (cods l) by_ codes l))
    cases hg : goodC (moveC (cods l) by_ l codes) <;> rw [hg] at eg <;> simp -implicitDefEqProofs [eg, mkArr_nil]
theorem e_impl_TakeTypes (l : List Bx) (codes : List ByteArray) (h : okBx l) (hl : codes.length ≤ 60) (hg : goodC l = true) (hc : ∀ c ∈ codes, ∃ k : Nat, fC (cods l) c = k ∧ k < l.length) :
    F_impl_TakeTypes [bxs l, txs codes] = some (.ret [if goodC (moveC (cods l) (-1) l codes) = true then bxs (moveC (cods l) (-1) l codes) else .arr 4 [], B (goodC (moveC (cods l) (-1) l codes))] []) := by
  rw [t_impl_TakeTypes]
  have e := e_impl_changed l codes (-1) h hl hg hc
  cases hq : goodC (moveC (cods l) (-1) l codes) <;> rw [hq] at e <;> simp -implicitDefEqProofs at e <;> simp -implicitDefEqProofs [e]

theorem codesOut_in {l : List Bx} {r : List Nat} (hr : ∀ i ∈ r, i < (cods l).length) : ∀ c ∈ codesOut (cods l) r, ∃ k : Nat, fC (cods l) c = k ∧ k < l.length := by
  intro c hcm
  obtain ⟨i, hi, rfl⟩ := List.mem_map.1 hcm
  have hi' := hr i hi
  rw [getD_eq hi']
  rcases fC_is (cs := cods l) (c := (cods l)[i]) with ⟨_, e⟩ | ⟨j, hj, e1, e2⟩
  · exact absurd rfl (e i hi')
  · exact ⟨j, e1, by simpa using hj⟩
end Go.Proofs.YtbbfddflmnclaaaDoor
/-
  Boxes that are exchanged; the way of the hand.
-/
namespace Go.Proofs.YtbbfddflmnclaaaDoor
open Go Go.V
set_option linter.unusedSimpArgs false

theorem set_row (l : List Bx) (i : Nat) (v : Int) (hi : i < l.length) : stD 1 (bxs l) (.ref i 1) (.v (.int .i64 v)) = some (bxs (l.set i (l[i].1, v, l[i].2.2.1, l[i].2.2.2))) := by
  rw [stD_part (c := [T l[i].1, I l[i].2.1, I l[i].2.2.1, I l[i].2.2.2]) (by simp [hi]) (by simp)]
  simp [List.map_set]
theorem set_col (l : List Bx) (i : Nat) (v : Int) (hi : i < l.length) : stD 1 (bxs l) (.ref i 2) (.v (.int .i64 v)) = some (bxs (l.set i (l[i].1, l[i].2.1, v, l[i].2.2.2))) := by
  rw [stD_part (c := [T l[i].1, I l[i].2.1, I l[i].2.2.1, I l[i].2.2.2]) (by simp [hi]) (by simp)]
  simp [List.map_set]
/-- Two boxes exchange their places. -/
def swapB (l : List Bx) (a b : Nat) : List Bx :=
  let x := l.getD a (ByteArray.empty, 0, 0, 0)
  let y := l.getD b (ByteArray.empty, 0, 0, 0)
  (l.set a (x.1, y.2.1, y.2.2.1, x.2.2.2)).set b (y.1, x.2.1, x.2.2.1, y.2.2.2)
theorem getB {l : List Bx} {i : Nat} (h : i < l.length) : l.getD i (ByteArray.empty, 0, 0, 0) = l[i] := by
  simp [List.getD_eq_getElem?_getD, h]
theorem swap_steps (l : List Bx) (a b : Nat) (hab : a < b) (hb : b < l.length) : ∃ l1 l2 l3 : List Bx, (stD 1 (bxs l) (.ref a 1) (I l[b].2.1) = some (bxs l1) ∧ stD 1 (bxs l1) (.ref a 2) (I l[b].2.2.1) = some (bxs l2) ∧ stD 1 (bxs l2) (.ref b 1) (I (l[a]'(by omega)).2.1) = some (bxs l3) ∧ stD 1 (bxs l3) (.ref b 2) (I (l[a]'(by omega)).2.2.1) = some (bxs (swapB l a b))) ∧
    l1.length = l.length ∧ l2.length = l.length ∧ l3.length = l.length := by
  have ha : a < l.length := by omega
  have hne : a ≠ b := by omega
  have hne' : b ≠ a := by omega
  have e1 := set_row l a l[b].2.1 ha
  have e2 := set_col (l.set a (l[a].1, l[b].2.1, l[a].2.2.1, l[a].2.2.2)) a l[b].2.2.1 (by simpa using ha)
  simp only [List.getElem_set_self, List.set_set] at e2
  have e3 := set_row (l.set a (l[a].1, l[b].2.1, l[b].2.2.1, l[a].2.2.2)) b l[a].2.1 (by simpa using hb)
  simp only [List.getElem_set_ne hne] at e3
  have e4 := set_col ((l.set a (l[a].1, l[b].2.1, l[b].2.2.1, l[a].2.2.2)).set b (l[b].1, l[a].2.1, l[b].2.2.1, l[b].2.2.2)) b l[a].2.2.1 (by simpa using hb)
  simp only [List.getElem_set_self, List.set_set] at e4
  refine ⟨_, _, _, ⟨e1, e2, e3, ?_⟩, by simp, by simp, by simp⟩
  unfold swapB
  rw [getB ha, getB hb]
  exact e4
theorem e_spec_caSwap (l : List Bx) (a b : Nat) (hab : a < b) (hb : b < l.length) (hl : l.length ≤ 1048576) : F_spec_caSwap [bxs l, I a, I b] = some (.ret [bxs (swapB l a b)] []) := by
  rw [t_spec_caSwap]
  have ha : a < l.length := by omega
  have hc : appD 4 40 (.arr 4 []) (bxs l) = some (bxs l) := by
    rw [appD_eq, if_pos (by simp only [List.length_nil, List.length_map]; omega)]
    rfl
  obtain ⟨l1, l2, l3, ⟨e1, e2, e3, e4⟩, h1, h2, h3⟩ := swap_steps l a b hab hb
  have a1 : a < l1.length := by omega
  have b2 : b < l2.length := by omega
  have b3 : b < l3.length := by omega
  simp -implicitDefEqProofs [mkArr_nil, chkA_map isV_bx, hc, ha, hb, e1, e2, e3, e4, a1, b2, b3, -appD_eq]
theorem e_impl_swap (l : List Bx) (a b : Nat) (hab : a < b) (hb : b < l.length) (hl : l.length ≤ 1048576) : F_impl_swap [bxs l, I a, I b] = some (.ret [bxs (swapB l a b)] []) := by
  rw [t_impl_swap]
  have ha : a < l.length := by omega
  have hc : appD 4 40 (.arr 4 []) (bxs l) = some (bxs l) := by
    rw [appD_eq, if_pos (by simp only [List.length_nil, List.length_map]; omega)]
    rfl
  obtain ⟨l1, l2, l3, ⟨e1, e2, e3, e4⟩, h1, h2, h3⟩ := swap_steps l a b hab hb
  have a1 : a < l1.length := by omega
  have b2 : b < l2.length := by omega
  have b3 : b < l3.length := by omega
  simp -implicitDefEqProofs [mkArr_nil, chkA_map isV_bx, hc, ha, hb, e1, e2, e3, e4, a1, b2, b3, -appD_eq]
theorem swapB_cods (l : List Bx) (a b : Nat) (ha : a < l.length) (hb : b < l.length) : cods (swapB l a b) = cods l := by
  unfold swapB cods
  simp only [getB ha, getB hb, List.map_set]
  refine List.ext_getElem (by simp) fun i h1 h2 => ?_
  simp only [List.getElem_set, List.getElem_map]
  split
  · rename_i h; subst h; rfl
  · split
    · rename_i h; subst h; rfl
    · rfl
theorem swapB_len (l : List Bx) (a b : Nat) : (swapB l a b).length = l.length := by simp [swapB]

/-! ### the way of the hand -/
def absW (n : Int) : Int := if n < IntKind.i64.wrap (-n) then IntKind.i64.wrap (-n) else n
theorem e_spec_l1Most (a b : Int) : F_spec_l1Most [I a, I b] = some (.ret [I (if b < a then a else b)] []) := by
  rw [t_spec_l1Most]
  by_cases h : b < a <;> simp -implicitDefEqProofs [h]
def wayF (l : List Bx) (a : Int × Int × Int) (c : ByteArray) : Int × Int × Int :=
  let b := l.getD (fC (cods l) c).toNat (ByteArray.empty, 0, 0, 0)
  (IntKind.i64.wrap (a.1 + IntKind.i64.wrap (absW (IntKind.i64.wrap (b.2.1 - a.2.1)) + absW (IntKind.i64.wrap (b.2.2.1 - a.2.2)))), b.2.1, b.2.2.1)
def wayOf (l : List Bx) (codes : List ByteArray) : Int := (codes.foldl (wayF l) (0, 0, 0)).1
def allIn (l : List Bx) (codes : List ByteArray) : Prop := ∀ c ∈ codes, ∃ k : Nat, fC (cods l) c = k ∧ k < l.length
theorem e_spec_caAsked (l : List Bx) (cs : List ByteArray) (h : okBx l) (hc : cs.length ≤ 1048576) : F_spec_caAsked [bxs l, txs cs] = some (.ret [B (hasAll l cs && goodC l && decide ((cs.length : Int) ≤ 60))] []) := by
  rw [t_spec_caAsked]
  simp only [lenD_arr, List.length_map, Option.bind_some]
  refine loop_bind _ (loop_all cs (fun i => [bxs l, txs cs, txs cs, I cs.length, I i]) (fun _ c => !decide (fB l c < 0)) (.ret [B false] []) (.ext 0 [bxs l, txs cs]) (fun i hi => ?_) ?_ rfl rfl rfl) ?_
  · have hw : IntKind.i64.wrap ((i : Int) + 1) = (i : Int) + 1 := wrap_id (by omega) (by omega)
    have eb := e_spec_caFind l cs[i] h.1
    by_cases hb : fB l cs[i] < 0 <;> simp -implicitDefEqProofs [hi, hw, eb, hb]
  · simp
  · cases ha : allI (fun _ c => !decide (fB l c < 0)) 0 cs
    · simp -implicitDefEqProofs [hasAll, ha]
    · cases hg : goodC l <;> simp -implicitDefEqProofs [hasAll, ha, e_spec_caGood l h, hg]
def okWay (l : List Bx) (cs : List ByteArray) : Bool := hasAll l cs && goodC l && decide ((cs.length : Int) ≤ 60)
theorem hasAll_in {l : List Bx} {cs : List ByteArray} : hasAll l cs = true ↔ allIn l cs := by
  have key : ∀ (m : List ByteArray) (i : Nat), allI (fun _ c => !decide (fB l c < 0)) i m = true ↔ allIn l m := by
    intro m
    induction m with
    | nil => intro i; simp [allI, allIn]
    | cons c m ih =>
      intro i
      rw [allI, Bool.and_eq_true, ih (i + 1), fB_eq, Bool.not_eq_true', decide_eq_false_iff_not]
      constructor
      · rintro ⟨h1, h2⟩ d hd
        rcases List.mem_cons.1 hd with rfl | hd
        · rcases fC_is (cs := cods l) (c := d) with ⟨e, _⟩ | ⟨j, hj, e, _⟩
          · omega
          · exact ⟨j, e, by simpa using hj⟩
        · exact h2 d hd
      · intro h
        obtain ⟨k, hk, _⟩ := h c (by simp)
        exact ⟨by omega, fun d hd => h d (by simp [hd])⟩
  exact key cs 0
theorem e_spec_SwapBoxes (l : List Bx) (a b : Nat) (h : okBx l) (hg : goodC l = true) (hab : a < b) (hb : b < l.length) : F_spec_SwapBoxes [bxs l, I a, I b] = some (.ret [bxs (swapB l a b), B true] []) := by
  rw [t_spec_SwapBoxes]
  have hl := h.1
  have eg := e_spec_caGood l h
  rw [hg] at eg
  have hw : IntKind.i64.wrap ((l.length : Int) - 1) = (l.length : Int) - 1 := wrap_id (by omega) (by omega)
  have i1 : (0 : Int) ≤ (a : Int) ∧ (a : Int) ≤ (l.length : Int) - 1 := by omega
  have i2 : (0 : Int) ≤ (b : Int) ∧ (b : Int) ≤ (l.length : Int) - 1 := by omega
  simp -implicitDefEqProofs [eg, e_spec_l1In, hw, i1, i2, e_spec_caSwap l a b hab hb hl]

end Go.Proofs.YtbbfddflmnclaaaDoor
