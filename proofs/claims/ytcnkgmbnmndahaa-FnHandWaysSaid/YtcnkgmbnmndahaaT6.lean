/-
  What the functions compute: their evaluated texts, printed.
-/
import Derived.Test.YtcnkgmbnmndahaaC3
namespace Go.Proofs.Ytcnkgmbnmndahaa
open Go Go.V
theorem t_spec_l1Cur_next (x0 : D) : F_spec_l1Cur_next [x0] =
  ((liveD x0 (D.ref 0 0)).bind fun z => (liveD z z).bind fun z => (refAdd 1 z).bind fun z => (((atD x0 z).bind (takeD false 1)).bind chkV).bind fun z => (liveD x0 (D.ref 0 0)).bind fun z_1 => (liveD z_1 z_1).bind fun z_2 =>
 (refAdd 0 z_2).bind fun z_3 => ((atD x0 z_3).bind (takeD false 1)).bind fun z_4 => (lenD false z_4).bind fun z_5 => (bin BinOp.lss false [] z z_5).bind fun z => ifD z ((liveD x0 (D.ref 0 0)).bind fun z =>
 (liveD z z).bind fun z => (refAdd 0 z).bind fun z => ((atD x0 z).bind (takeD false 1)).bind fun z => (liveD x0 (D.ref 0 0)).bind fun z_6 => (liveD z_6 z_6).bind fun z_7 => (refAdd 1 z_7).bind fun z_8 =>
 (((atD x0 z_8).bind (takeD false 1)).bind chkV).bind fun z_9 => (Option.map D.ptr (elemD 1 z z_9)).bind fun z => ((ldD false 1 z).bind chkV).bind fun z => (convD (some IntKind.i64) false z).bind fun z =>
 (liveD x0 (D.ref 0 0)).bind fun z_10 => (liveD z_10 z_10).bind fun z_11 => (refAdd 1 z_11).bind fun z_12 => (((atD x0 z_12).bind (takeD false 1)).bind chkV).bind fun z_13 =>
 (bin BinOp.add false [] z_13 (D.v (Value.int IntKind.i64 1))).bind fun z_14 => (liveD z_10 z_10).bind fun z_15 => (refAdd 1 z_15).bind fun z_16 => (stD 1 x0 z_16 z_14).bind fun b => (liveD b (D.ref 0 0)).bind fun z_17 =>
 (liveD b (D.ref 0 0)).bind fun z_18 => (liveD z_18 z_18).bind fun z_19 => (refAdd 2 z_19).bind fun z_20 => (((atD b z_20).bind (takeD false 1)).bind chkV).bind fun z_21 => (bin BinOp.mul false [] z_21 (D.v
 (Value.int IntKind.u64 6364136223846793005))).bind fun z_22 => (convD (some IntKind.u64) false z).bind fun z_23 => (bin BinOp.add false [] z_22 z_23).bind fun z_24 => (bin BinOp.add false [] z_24 (D.v
 (Value.int IntKind.u64 1442695040888963407))).bind fun z_25 => (liveD z_17 z_17).bind fun z_26 => (refAdd 2 z_26).bind fun z_27 => (stD 1 b z_27 z_25).bind fun b => (liveD b (D.ref 0 0)).bind fun z_28 =>
 (liveD z_28 z_28).bind fun z_29 => (refAdd 1 z_29).bind fun z_30 => (((atD b z_30).bind (takeD false 1)).bind chkV).bind fun z_31 => (liveD b (D.ref 0 0)).bind fun z_32 => (liveD z_32 z_32).bind fun z_33 =>
 (refAdd 0 z_33).bind fun z_34 => ((atD b z_34).bind (takeD false 1)).bind fun z_35 => (lenD false z_35).bind fun z_36 => (bin BinOp.leq false [] z_31 z_36).bind fun z_37 => ifD z_37 ((liveD b b).bind fun _u => some
 (Out.ret [z] [b])) ((liveD b (D.ref 0 0)).bind fun z => (liveD z z).bind fun z => (refAdd 2 z).bind fun z => (((atD b z).bind (takeD false 1)).bind chkV).bind fun z => (bin BinOp.shr false [] z (D.v (Value.int IntKind.u64
 40))).bind fun z => (bin BinOp.and false [] z (D.v (Value.int IntKind.u64 255))).bind fun z => (convD (some IntKind.i64) false z).bind fun z => (liveD b b).bind fun _u => some (Out.ret [z] [b])))
 ((liveD x0 (D.ref 0 0)).bind fun z => (liveD z z).bind fun z_6 => (refAdd 1 z_6).bind fun z_7 => (((atD x0 z_7).bind (takeD false 1)).bind chkV).bind fun z_8 =>
 (bin BinOp.add false [] z_8 (D.v (Value.int IntKind.i64 1))).bind fun z_9 => (liveD z z).bind fun z => (refAdd 1 z).bind fun z => (stD 1 x0 z z_9).bind fun b => (liveD b (D.ref 0 0)).bind fun z =>
 (liveD b (D.ref 0 0)).bind fun z_10 => (liveD z_10 z_10).bind fun z_11 => (refAdd 2 z_11).bind fun z_12 => (((atD b z_12).bind (takeD false 1)).bind chkV).bind fun z_13 => (bin BinOp.mul false [] z_13
 (D.v (Value.int IntKind.u64 6364136223846793005))).bind fun z_14 => (convD (some IntKind.u64) false (D.v (Value.int IntKind.i64 0))).bind fun z_15 => (bin BinOp.add false [] z_14 z_15).bind fun z_16 =>
 (bin BinOp.add false [] z_16 (D.v (Value.int IntKind.u64 1442695040888963407))).bind fun z_17 => (liveD z z).bind fun z => (refAdd 2 z).bind fun z => (stD 1 b z z_17).bind fun b => (liveD b (D.ref 0 0)).bind fun z =>
 (liveD z z).bind fun z => (refAdd 1 z).bind fun z => (((atD b z).bind (takeD false 1)).bind chkV).bind fun z => (liveD b (D.ref 0 0)).bind fun z_18 => (liveD z_18 z_18).bind fun z_19 => (refAdd 0 z_19).bind fun z_20 =>
 ((atD b z_20).bind (takeD false 1)).bind fun z_21 => (lenD false z_21).bind fun z_22 => (bin BinOp.leq false [] z z_22).bind fun z => ifD z ((liveD b b).bind fun _u => some (Out.ret [D.v (Value.int IntKind.i64 0)] [b]))
 ((liveD b (D.ref 0 0)).bind fun z => (liveD z z).bind fun z => (refAdd 2 z).bind fun z => (((atD b z).bind (takeD false 1)).bind chkV).bind fun z => (bin BinOp.shr false [] z (D.v (Value.int IntKind.u64 40))).bind
 fun z => (bin BinOp.and false [] z (D.v (Value.int IntKind.u64 255))).bind fun z => (convD (some IntKind.i64) false z).bind fun z => (liveD b b).bind fun _u => some (Out.ret [z] [b])))) := by kernel_rfl
theorem t_spec_l1Cur_pick (x0 x1 : D) : F_spec_l1Cur_pick [x0, x1] =
  ((bin BinOp.leq false [] x1 (D.v (Value.int IntKind.i64 1))).bind fun z => ifD z ((liveD x0 x0).bind fun _u => some (Out.ret [D.v (Value.int IntKind.i64 0)] [x0])) ((liveD x0 (D.ref 0 0)).bind fun z =>
 (ref0 z x0).bind fun i => (liveD i i).bind fun i => callK (F_spec_l1Cur_next [i]) fun rs us => (bin BinOp.gtr false [] x1 (D.v (Value.int IntKind.i64 200))).bind fun z => ifD z
 ((bin BinOp.mul false [] (sl rs 0) (D.v (Value.int IntKind.i64 256))).bind fun z => (liveD (sl us 0) (D.ref 0 0)).bind fun z_1 => (ref0 z_1 (sl us 0)).bind fun i => (liveD i i).bind fun i =>
 callK (F_spec_l1Cur_next [i]) fun rs us => (bin BinOp.add false [] z (sl rs 0)).bind fun z => (bin BinOp.rem false [] z x1).bind fun z => (liveD (sl us 0) (sl us 0)).bind fun _u => some (Out.ret [z] [sl us 0]))
 ((bin BinOp.rem false [] (sl rs 0) x1).bind fun z => (liveD (sl us 0) (sl us 0)).bind fun _u => some (Out.ret [z] [sl us 0])))) := by kernel_rfl
theorem t_spec_l1Cur_one (x0 x1 : D) : F_spec_l1Cur_one [x0, x1] =
  ((liveD x0 (D.ref 0 0)).bind fun z => (ref0 z x0).bind fun i => (liveD i i).bind fun i => callK (F_spec_l1Cur_pick [i, x1]) fun rs us => (bin BinOp.eql false [] (sl rs 0) (D.v (Value.int IntKind.i64 0))).bind fun z =>
 (liveD (sl us 0) (sl us 0)).bind fun _u => some (Out.ret [z] [sl us 0])) := by kernel_rfl
theorem t_spec_l1Cur_font (x0 : D) : F_spec_l1Cur_font [x0] =
  ((mkArr 1 [D.v (Value.string { data := { toList := [97] } }), D.v (Value.string { data := { toList := [97, 98] } }),
 D.v (Value.string { data := { toList := [97, 98, 99] } }), D.v (Value.string { data := { toList := [98] } }), D.v (Value.string { data := { toList := [98, 98] } }), D.v (Value.string { data := { toList := [99] } }),
 D.v (Value.string { data := { toList := [100] } }), D.v (Value.string { data := { toList := [101] } }), D.v (Value.string { data := { toList := [102] } }), D.v (Value.string { data := { toList := [102, 102] } }),
 D.v (Value.string { data := { toList := [102, 105] } }), D.v (Value.string { data := { toList := [105] } })]).bind fun a => (lenD false a).bind fun z => (loopC (fun s =>
 (bin BinOp.lss false [] (sl s 4) (sl s 3)).bind fun z => ifD z ((Option.map D.ptr (elemD 1 (sl s 2) (sl s 4))).bind fun z => ((ldD false 1 z).bind chkV).bind fun z => (lenD true z).bind fun z_1 =>
 (bin BinOp.eql false [] z_1 (D.v (Value.int IntKind.i64 1))).bind fun z_2 => (gate D.bad z_2 true (liveD (sl s 0) (D.ref 0 0))).bind fun z_3 => gateC z_2 true ((ref0 z_3 (sl s 0)).bind fun i => (liveD i i).bind fun i =>
 callK (F_spec_l1Cur_one [i, D.v (Value.int IntKind.i64 12)]) fun rs us => some (Out.nrm [sl rs 0, sl us 0])) [D.tup [], sl s 0] fun outs => (gate (D.tup []) z_2 true (un UnOp.not (sl outs 0))).bind fun z_4 =>
 (pickD z_2 z_4 (D.v (Value.bool false))).bind fun z_5 => (gate (D.tup []) z_5 false (some z)).bind fun z_6 => (gate (D.tup []) z_5 false (lenD true z_6)).bind fun z_7 => (gate (D.tup []) z_5 false
 (bin BinOp.gtr false [] z_7 (D.v (Value.int IntKind.i64 1)))).bind fun z_8 => (gate (D.tup []) z_5 false (some z_8)).bind fun z_9 => (gate D.bad z_9 true (liveD (sl outs 1) (D.ref 0 0))).bind fun z_10 => gateC z_9 true
 ((ref0 z_10 (sl outs 1)).bind fun i => (liveD i i).bind fun i => callK (F_spec_l1Cur_one [i, D.v (Value.int IntKind.i64 3)]) fun rs us => some (Out.nrm [sl rs 0, sl us 0])) [D.tup [], sl outs 1] fun outs =>
 (gate (D.tup []) z_5 false (pickD z_9 (sl outs 0) (D.v (Value.bool false)))).bind fun z_11 => (pickD z_5 (D.v (Value.bool true)) z_11).bind fun z_12 => ifD z_12 ((lenD true z).bind fun z_13 =>
 (liveD (sl outs 1) (D.ref 0 0)).bind fun z_14 => (ref0 z_14 (sl outs 1)).bind fun i => (liveD i i).bind fun i => callK (F_spec_l1Cur_pick [i, D.v (Value.int IntKind.i64 4)]) fun rs us =>
 (bin BinOp.add false [] (D.v (Value.int IntKind.i64 2)) (sl rs 0)).bind fun z_15 => (bin BinOp.mul false [] z_13 z_15).bind fun z_16 => (bin BinOp.add false [] (D.v (Value.int IntKind.i64 4)) z_16).bind fun z_17 =>
 (bldD [(0, 1), (1, 1)] [D.v (Value.string { data := { toList := [] } }), D.v (Value.int IntKind.i64 0)] [z, z_17]).bind fun z => (mkArr 2 [z]).bind fun a => (chkA a).bind fun b => (appD 2 24 (sl s 1) b).bind fun y =>
 (bin BinOp.add false [] (sl s 4) (D.v (Value.int IntKind.i64 1))).bind fun z => some (Out.nrm [sl us 0, y, sl s 2, sl s 3, z])) ((bin BinOp.add false [] (sl s 4) (D.v (Value.int IntKind.i64 1))).bind
 fun z => some (Out.nrm [sl outs 1, sl s 1, sl s 2, sl s 3, z]))) (some (Out.ext 0 [sl s 0, sl s 1]))) [x0, D.arr 2 [], a, z, D.v (Value.int IntKind.i64 0)]).bind fun o => outK o (fun i s => ifN (i.beq 0)
 ((liveD (sl s 1) (D.ref 0 0)).bind fun z => ((liveD z (sl s 1)).bind (lenD false)).bind fun z => (bin BinOp.eql false [] z (D.v (Value.int IntKind.i64 0))).bind fun z => ifD z ((bldD [(0, 1), (1, 1)]
 [D.v (Value.string { data := { toList := [] } }), D.v (Value.int IntKind.i64 0)] [D.v (Value.string { data := { toList := [97] } }), D.v (Value.int IntKind.i64 9)]).bind fun z => (mkArr 2 [z]).bind fun a =>
 (liveD (sl s 0) (sl s 0)).bind fun _u => some (Out.ret [a] [sl s 0])) ((liveD (sl s 0) (sl s 0)).bind fun _u => some (Out.ret [sl s 1] [sl s 0]))) none) fun a b => some (Out.ret a b)) := by kernel_rfl
theorem t_spec_l1Cur_among (x0 x1 : D) : F_spec_l1Cur_among [x0, x1] =
  ((liveD x0 (D.ref 0 0)).bind fun z => (lenD false x1).bind fun z_1 => (ref0 z x0).bind fun i => (liveD i i).bind fun i => callK (F_spec_l1Cur_pick [i, z_1]) fun rs us =>
 (Option.map D.ptr (elemD 1 x1 (sl rs 0))).bind fun z => ((ldD false 1 z).bind chkV).bind fun z => (liveD (sl us 0) (sl us 0)).bind fun _u => some (Out.ret [z] [sl us 0])) := by kernel_rfl
theorem t_spec_l1Cur_boxes (x0 x1 : D) : F_spec_l1Cur_boxes [x0, x1] =
  ((liveD x0 (D.ref 0 0)).bind fun z => (ref0 z x0).bind fun i => (liveD i i).bind fun i => callK (F_spec_l1Cur_pick [i, D.v (Value.int IntKind.i64 20)]) fun rs us => (lenD false x1).bind fun z => (loopC (fun s =>
 (bin BinOp.lss false [] (sl s 5) (sl s 4)).bind fun z => ifD z ((Option.map D.ptr (elemD 2 (sl s 3) (sl s 5))).bind fun z => ((ldD true 2 z).bind chkV).bind fun z => (stD 2 (D.agg
 [D.v (Value.string { data := { toList := [] } }), D.v (Value.int IntKind.i64 0)]) (D.ref 0 0) z).bind fun b => (liveD b (D.ref 0 0)).bind fun z => ((atD b z).bind (takeD false 1)).bind fun z =>
 (bin BinOp.quo false [] (sl s 2) (D.v (Value.int IntKind.i64 10))).bind fun z_1 => (bin BinOp.rem false [] z_1 (D.v (Value.int IntKind.i64 10))).bind fun z_2 =>
 (bin BinOp.rem false [] (sl s 2) (D.v (Value.int IntKind.i64 10))).bind fun z_3 => (liveD (sl s 0) (D.ref 0 0)).bind fun z_4 => (mkArr 1 [D.v (Value.int IntKind.i64 0), D.v (Value.int IntKind.i64 1),
 D.v (Value.int IntKind.i64 2), D.v (Value.int IntKind.i64 5), D.v (Value.int IntKind.i64 20)]).bind fun a => (ref0 z_4 (sl s 0)).bind fun i => (liveD i i).bind fun i => callK (F_spec_l1Cur_among [i, a]) fun rs us =>
 (bldD [(0, 1), (1, 1), (2, 1), (3, 1)] [D.v (Value.string { data := { toList := [] } }), D.v (Value.int IntKind.i64 0), D.v (Value.int IntKind.i64 0), D.v (Value.int IntKind.i64 0)] [z, z_2, z_3, sl rs 0]).bind fun z =>
 (mkArr 4 [z]).bind fun a => (chkA a).bind fun b => (appD 4 40 (sl s 1) b).bind fun y => (liveD (sl us 0) (D.ref 0 0)).bind fun z => (ref0 z (sl us 0)).bind fun i => (liveD i i).bind fun i => callK
 (F_spec_l1Cur_pick [i, D.v (Value.int IntKind.i64 2)]) fun rs us => (bin BinOp.add false [] (D.v (Value.int IntKind.i64 1)) (sl rs 0)).bind fun z => (bin BinOp.add false [] (sl s 2) z).bind fun z =>
 (bin BinOp.add false [] (sl s 5) (D.v (Value.int IntKind.i64 1))).bind fun z_5 => some (Out.nrm [sl us 0, y, z, sl s 3, sl s 4, z_5])) (some (Out.ext 0 [sl s 0, sl s 1])))
 [sl us 0, D.arr 4 [], sl rs 0, x1, z, D.v (Value.int IntKind.i64 0)]).bind fun o => outK o (fun i s => ifN (i.beq 0) ((liveD (sl s 0) (sl s 0)).bind fun _u => some (Out.ret [sl s 1] [sl s 0])) none)
 fun a b => some (Out.ret a b)) := by kernel_rfl
theorem t_spec_l1Cur_of (x0 x1 : D) : F_spec_l1Cur_of [x0, x1] =
  ((liveD x0 (D.ref 0 0)).bind fun z => (lenD false x1).bind fun z_1 => (ref0 z x0).bind fun i => (liveD i i).bind fun i => callK (F_spec_l1Cur_pick [i, z_1]) fun rs us =>
 (Option.map D.ptr (elemD 1 x1 (sl rs 0))).bind fun z => ((ldD false 1 z).bind chkV).bind fun z => (liveD (sl us 0) (sl us 0)).bind fun _u => some (Out.ret [z] [sl us 0])) := by kernel_rfl
theorem t_spec_l1Cur_anyCase (x0 : D) : F_spec_l1Cur_anyCase [x0] =
  ((liveD x0 (D.ref 0 0)).bind fun z => (liveD x0 (D.ref 0 0)).bind fun z_1 => (ref0 z_1 x0).bind fun i => (liveD i i).bind fun i => callK (F_spec_l1Cur_font [i]) fun rs us => (ref0 z (sl us 0)).bind fun i =>
 (liveD i i).bind fun i => callK (F_spec_l1Cur_boxes [i, sl rs 0]) fun rs us => (liveD (sl us 0) (D.ref 0 0)).bind fun z => (liveD (sl rs 0) (D.ref 0 0)).bind fun z_2 =>
 ((liveD z_2 (sl rs 0)).bind (lenD false)).bind fun z_3 => (ref0 z (sl us 0)).bind fun i => (liveD i i).bind fun i => callK (F_spec_l1Cur_pick [i, z_3]) fun rs_1 us => (liveD (sl us 0) (D.ref 0 0)).bind fun z =>
 (ref0 z (sl us 0)).bind fun i => (liveD i i).bind fun i => callK (F_spec_l1Cur_pick [i, D.v (Value.int IntKind.i64 30)]) fun rs_2 us => (bin BinOp.eql false [] (sl rs_2 0) (D.v (Value.int IntKind.i64 0))).bind fun z =>
 ifD z ((liveD (sl rs 0) (D.ref 0 0)).bind fun z => (liveD (sl us 0) (D.ref 0 0)).bind fun z_4 => (mkArr 1 [D.v (Value.int IntKind.i64 10), D.v (Value.int IntKind.i64 (-1)), D.v (Value.int IntKind.i64 9)]).bind fun a =>
 (ref0 z_4 (sl us 0)).bind fun i => (liveD i i).bind fun i => callK (F_spec_l1Cur_among [i, a]) fun rs_3 us => ((liveD z (sl rs 0)).bind fun b => refI 4 b (sl rs_1 0)).bind fun z => (refAdd 1 z).bind fun z =>
 (stD 1 (sl rs 0) z (sl rs_3 0)).bind fun b => (liveD (sl us 0) (sl us 0)).bind fun _u => some (Out.ret [b] [sl us 0])) ((bin BinOp.eql false [] (sl rs_2 0) (D.v (Value.int IntKind.i64 1))).bind fun z => ifD z
 ((liveD (sl rs 0) (D.ref 0 0)).bind fun z => (liveD (sl us 0) (D.ref 0 0)).bind fun z_4 => (mkArr 1 [D.v (Value.int IntKind.i64 9999), D.v (Value.int IntKind.i64 10000), D.v (Value.int IntKind.i64 (-1))]).bind fun a =>
 (ref0 z_4 (sl us 0)).bind fun i => (liveD i i).bind fun i => callK (F_spec_l1Cur_among [i, a]) fun rs_3 us => ((liveD z (sl rs 0)).bind fun b => refI 4 b (sl rs_1 0)).bind fun z => (refAdd 3 z).bind fun z =>
 (stD 1 (sl rs 0) z (sl rs_3 0)).bind fun b => (liveD (sl us 0) (sl us 0)).bind fun _u => some (Out.ret [b] [sl us 0])) ((bin BinOp.eql false [] (sl rs_2 0) (D.v (Value.int IntKind.i64 2))).bind fun z => ifD z
 ((liveD (sl rs 0) (D.ref 0 0)).bind fun z => (liveD (sl us 0) (D.ref 0 0)).bind fun z_4 => (mkArr 1 [D.v (Value.string { data := { toList := [] } }), D.v (Value.string { data := { toList := [97] } }), D.v (Value.string
 { data := { toList := [122, 122] } })]).bind fun a => (ref0 z_4 (sl us 0)).bind fun i => (liveD i i).bind fun i => callK (F_spec_l1Cur_of [i, a]) fun rs_3 us => ((liveD z (sl rs 0)).bind fun b =>
 refI 4 b (sl rs_1 0)).bind fun z => (refAdd 0 z).bind fun z => (stD 1 (sl rs 0) z (sl rs_3 0)).bind fun b => (liveD (sl us 0) (sl us 0)).bind fun _u => some (Out.ret [b] [sl us 0])) ((bin BinOp.eql false [] (sl rs_2 0)
 (D.v (Value.int IntKind.i64 3))).bind fun z => ifD z ((sliceD false 4 (sl rs 0) (D.v (Value.int IntKind.i64 0)) (D.v (Value.int IntKind.i64 0))).bind fun y => (liveD (sl us 0) (sl us 0)).bind fun _u =>
 some (Out.ret [y] [sl us 0])) ((bin BinOp.eql false [] (sl rs_2 0) (D.v (Value.int IntKind.i64 4))).bind fun z => ifD z ((liveD (sl us 0) (D.ref 0 0)).bind fun z => (ref0 z (sl us 0)).bind fun i =>
 (liveD i i).bind fun i => callK (F_spec_l1Cur_pick [i, D.v (Value.int IntKind.i64 2)]) fun rs us => (bin BinOp.add false [] (D.v (Value.int IntKind.i64 32)) (sl rs 0)).bind fun z => (loopC (fun s =>
 (liveD (sl s 1) (D.ref 0 0)).bind fun z => ((liveD z (sl s 1)).bind (lenD false)).bind fun z => (bin BinOp.lss false [] z (sl s 2)).bind fun z => ifD z ((liveD (sl s 1) (D.ref 0 0)).bind fun z => ((liveD z (sl s 1)).bind
 (lenD false)).bind fun z => (bin BinOp.quo false [] z (D.v (Value.int IntKind.i64 6))).bind fun z_4 => (bin BinOp.add false [] (D.v (Value.int IntKind.i64 97)) z_4).bind fun z_5 => (convD (some IntKind.u8) false z_5).bind
 fun z_6 => (bin BinOp.rem false [] z (D.v (Value.int IntKind.i64 6))).bind fun z_7 => (bin BinOp.add false [] (D.v (Value.int IntKind.i64 97)) z_7).bind fun z_8 => (convD (some IntKind.u8) false z_8).bind fun z_9 =>
 (mkArr 1 [z_6, z_9]).bind fun a => (strD a).bind fun z_10 => (bin BinOp.quo false [] z (D.v (Value.int IntKind.i64 10))).bind fun z_11 => (bin BinOp.rem false [] z (D.v (Value.int IntKind.i64 10))).bind fun z => (bldD
 [(0, 1), (1, 1), (2, 1), (3, 1)] [D.v (Value.string { data := { toList := [] } }), D.v (Value.int IntKind.i64 0), D.v (Value.int IntKind.i64 0), D.v (Value.int IntKind.i64 0)] [z_10, z_11, z, D.v (Value.int IntKind.i64
 1)]).bind fun z => (mkArr 4 [z]).bind fun a => (chkA a).bind fun b => (appD 4 40 (sl s 1) b).bind fun y => some (Out.nrm [sl s 0, y, sl s 2])) (some (Out.ext 1 [sl s 0, sl s 1]))) [sl us 0, D.arr 4 [], z]).bind fun o =>
 outK o (fun i s => ifN (i.beq 1) ((liveD (sl s 0) (sl s 0)).bind fun _u => some (Out.ret [sl s 1] [sl s 0])) (ifN (i.beq 0) ((liveD (sl s 0) (sl s 0)).bind fun _u => some (Out.ret [sl s 1] [sl s 0])) none))
 fun a b => some (Out.ret a b)) ((liveD (sl us 0) (sl us 0)).bind fun _u => some (Out.ret [sl rs 0] [sl us 0]))))))) := by kernel_rfl
theorem t_spec_l1Cur_codesOf (x0 x1 : D) : F_spec_l1Cur_codesOf [x0, x1] =
  ((liveD x0 (D.ref 0 0)).bind fun z => (ref0 z x0).bind fun i => (liveD i i).bind fun i => callK (F_spec_l1Cur_pick [i, D.v (Value.int IntKind.i64 7)]) fun rs us => (liveD (sl us 0) (D.ref 0 0)).bind fun z =>
 (ref0 z (sl us 0)).bind fun i => (liveD i i).bind fun i => callK (F_spec_l1Cur_one [i, D.v (Value.int IntKind.i64 12)]) fun rs_1 us => ifD (sl rs_1 0) ((liveD (sl us 0) (D.ref 0 0)).bind fun z =>
 (ref0 z (sl us 0)).bind fun i => (liveD i i).bind fun i => callK (F_spec_l1Cur_pick [i, D.v (Value.int IntKind.i64 2)]) fun rs us => (bin BinOp.add false [] (D.v (Value.int IntKind.i64 60)) (sl rs 0)).bind fun z => (loopC
 (fun s => (liveD (sl s 2) (D.ref 0 0)).bind fun z => ((liveD z (sl s 2)).bind (lenD false)).bind fun z => (bin BinOp.lss false [] z (sl s 3)).bind fun z => ifD z ((lenD false (sl s 1)).bind fun z =>
 (bin BinOp.eql false [] z (D.v (Value.int IntKind.i64 0))).bind fun z => (gate D.bad z false (liveD (sl s 0) (D.ref 0 0))).bind fun z_1 => gateC z false ((ref0 z_1 (sl s 0)).bind fun i => (liveD i i).bind fun i =>
 callK (F_spec_l1Cur_one [i, D.v (Value.int IntKind.i64 60)]) fun rs us => some (Out.nrm [sl rs 0, sl us 0])) [D.tup [], sl s 0] fun outs => (pickD z (D.v (Value.bool true)) (sl outs 0)).bind fun z => ifD z
 ((liveD (sl outs 1) (D.ref 0 0)).bind fun z => (mkArr 1 [D.v (Value.string { data := { toList := [122, 122, 122] } }), D.v (Value.string { data := { toList := [] } }), D.v (Value.string
 { data := { toList := [97] } })]).bind fun a => (ref0 z (sl outs 1)).bind fun i => (liveD i i).bind fun i => callK (F_spec_l1Cur_of [i, a]) fun rs us => (mkArr 1 [sl rs 0]).bind fun a => (chkA a).bind fun b =>
 (appD 1 16 (sl s 2) b).bind fun y => some (Out.nrm [sl us 0, sl s 1, y, sl s 3])) ((liveD (sl outs 1) (D.ref 0 0)).bind fun z => (lenD false (sl s 1)).bind fun z_2 => (ref0 z (sl outs 1)).bind fun i =>
 (liveD i i).bind fun i => callK (F_spec_l1Cur_pick [i, z_2]) fun rs us => (Option.map D.ptr (elemD 4 (sl s 1) (sl rs 0))).bind fun z => (offD 0 z).bind fun z => ((ldD false 1 z).bind chkV).bind fun z =>
 (mkArr 1 [z]).bind fun a => (chkA a).bind fun b => (appD 1 16 (sl s 2) b).bind fun y => some (Out.nrm [sl us 0, sl s 1, y, sl s 3]))) (some (Out.ext 0 [sl s 0, sl s 2]))) [sl us 0, x1, D.arr 1 [], z]).bind fun o => outK o
 (fun i s => ifN (i.beq 0) ((liveD (sl s 0) (sl s 0)).bind fun _u => some (Out.ret [sl s 1] [sl s 0])) none) fun a b => some (Out.ret a b)) ((loopC (fun s => (liveD (sl s 2) (D.ref 0 0)).bind fun z =>
 ((liveD z (sl s 2)).bind (lenD false)).bind fun z => (bin BinOp.lss false [] z (sl s 3)).bind fun z => ifD z ((lenD false (sl s 1)).bind fun z => (bin BinOp.eql false [] z (D.v (Value.int IntKind.i64 0))).bind fun z =>
 (gate D.bad z false (liveD (sl s 0) (D.ref 0 0))).bind fun z_1 => gateC z false ((ref0 z_1 (sl s 0)).bind fun i => (liveD i i).bind fun i => callK (F_spec_l1Cur_one [i, D.v (Value.int IntKind.i64 60)])
 fun rs us => some (Out.nrm [sl rs 0, sl us 0])) [D.tup [], sl s 0] fun outs => (pickD z (D.v (Value.bool true)) (sl outs 0)).bind fun z => ifD z ((liveD (sl outs 1) (D.ref 0 0)).bind fun z => (mkArr 1
 [D.v (Value.string { data := { toList := [122, 122, 122] } }), D.v (Value.string { data := { toList := [] } }), D.v (Value.string { data := { toList := [97] } })]).bind fun a => (ref0 z (sl outs 1)).bind fun i =>
 (liveD i i).bind fun i => callK (F_spec_l1Cur_of [i, a]) fun rs us => (mkArr 1 [sl rs 0]).bind fun a => (chkA a).bind fun b => (appD 1 16 (sl s 2) b).bind fun y => some (Out.nrm [sl us 0, sl s 1, y, sl s 3]))
 ((liveD (sl outs 1) (D.ref 0 0)).bind fun z => (lenD false (sl s 1)).bind fun z_2 => (ref0 z (sl outs 1)).bind fun i => (liveD i i).bind fun i => callK (F_spec_l1Cur_pick [i, z_2]) fun rs us =>
 (Option.map D.ptr (elemD 4 (sl s 1) (sl rs 0))).bind fun z => (offD 0 z).bind fun z => ((ldD false 1 z).bind chkV).bind fun z => (mkArr 1 [z]).bind fun a => (chkA a).bind fun b => (appD 1 16 (sl s 2) b).bind fun y =>
 some (Out.nrm [sl us 0, sl s 1, y, sl s 3]))) (some (Out.ext 0 [sl s 0, sl s 2]))) [sl us 0, x1, D.arr 1 [], sl rs 0]).bind fun o => outK o (fun i s =>
 ifN (i.beq 0) ((liveD (sl s 0) (sl s 0)).bind fun _u => some (Out.ret [sl s 1] [sl s 0])) none) fun a b => some (Out.ret a b))) := by kernel_rfl
theorem t_spec_DrawHandWay (x0 : D) : F_spec_DrawHandWay [x0] =
  ((bldD [(0, 1)] [D.arr 1 [], D.v (Value.int IntKind.i64 0), D.v (Value.int IntKind.u64 0)] [x0]).bind fun z => (boxD 3 z).bind fun y => (liveD y (D.ref 0 0)).bind fun z => (liveD z z).bind fun z_1 =>
 (ref0 z_1 y).bind fun i => (liveD i i).bind fun i => callK (F_spec_l1Cur_anyCase [i]) fun rs us => (liveD z z).bind fun z => (ref0 z (sl us 0)).bind fun i => (liveD i i).bind fun i =>
 callK (F_spec_l1Cur_codesOf [i, sl rs 0]) fun rs_1 _u => some (Out.ret [sl rs 0, sl rs_1 0] [])) := by kernel_rfl
theorem t_spec_DrawBestSwap (x0 : D) : F_spec_DrawBestSwap [x0] =
  (callK (F_spec_DrawHandWay [x0]) fun rs _u => (tupAt (D.tup rs) 0).bind fun z => (tupAt (D.tup rs) 1).bind fun y => some (Out.ret [z, y] [])) := by kernel_rfl
theorem t_impl_swap (x0 x1 x2 : D) : F_impl_swap [x0, x1, x2] =
  ((mkArr 4 []).bind fun a => (chkA x0).bind fun b => (appD 4 40 a b).bind fun y => (liveD y (D.ref 0 0)).bind fun z => (liveD y (D.ref 0 0)).bind fun z_1 => (Option.map D.ptr (elemD 4 x0 x2)).bind fun z_2 =>
 (offD 1 z_2).bind fun z_3 => ((ldD false 1 z_3).bind chkV).bind fun z_4 => (Option.map D.ptr (elemD 4 x0 x2)).bind fun z_5 => (offD 2 z_5).bind fun z_6 => ((ldD false 1 z_6).bind chkV).bind fun z_7 =>
 ((liveD z y).bind fun b => refI 4 b x1).bind fun z => (refAdd 1 z).bind fun z => (stD 1 y z z_4).bind fun b => ((liveD z_1 b).bind fun b => refI 4 b x1).bind fun z => (refAdd 2 z).bind fun z =>
 (stD 1 b z z_7).bind fun b => (liveD b (D.ref 0 0)).bind fun z => (liveD b (D.ref 0 0)).bind fun z_8 => (Option.map D.ptr (elemD 4 x0 x1)).bind fun z_9 => (offD 1 z_9).bind fun z_10 =>
 ((ldD false 1 z_10).bind chkV).bind fun z_11 => (Option.map D.ptr (elemD 4 x0 x1)).bind fun z_12 => (offD 2 z_12).bind fun z_13 => ((ldD false 1 z_13).bind chkV).bind fun z_14 =>
 ((liveD z b).bind fun b => refI 4 b x2).bind fun z => (refAdd 1 z).bind fun z => (stD 1 b z z_11).bind fun b => ((liveD z_8 b).bind fun b => refI 4 b x2).bind fun z => (refAdd 2 z).bind fun z =>
 (stD 1 b z z_14).bind fun b => some (Out.ret [b] [])) := by kernel_rfl
theorem t_impl_abs (x0 : D) : F_impl_abs [x0] =
  ((un UnOp.neg x0).bind fun z => ((maxD x0 z).bind fun z => some z).bind fun z => some (Out.ret [z] [])) := by kernel_rfl
theorem t_impl_handWay (x0 x1 : D) : F_impl_handWay [x0, x1] =
  ((lenD false x1).bind fun z => (loopC (fun s => (bin BinOp.lss false [] (sl s 6) (sl s 5)).bind fun z => ifD z ((Option.map D.ptr (elemD 1 (sl s 4) (sl s 6))).bind fun z => ((ldD false 1 z).bind chkV).bind fun z =>
 callK (F_impl_boxAt [sl s 0, z]) fun rs _u => (Option.map D.ptr (elemD 4 (sl s 0) (sl rs 0))).bind fun z => ((ldD true 4 z).bind chkV).bind fun z => (stD 4 (D.agg
 [D.v (Value.string { data := { toList := [] } }), D.v (Value.int IntKind.i64 0), D.v (Value.int IntKind.i64 0), D.v (Value.int IntKind.i64 0)]) (D.ref 0 0) z).bind fun b => (liveD b (D.ref 0 1)).bind fun z =>
 ((atD b z).bind (takeD false 1)).bind fun z => (bin BinOp.sub false [] z (sl s 2)).bind fun z => callK (F_impl_abs [z]) fun rs _u => (liveD b (D.ref 0 2)).bind fun z => ((atD b z).bind (takeD false 1)).bind fun z =>
 (bin BinOp.sub false [] z (sl s 3)).bind fun z => callK (F_impl_abs [z]) fun rs_1 _u => (bin BinOp.add false [] (sl rs 0) (sl rs_1 0)).bind fun z => (bin BinOp.add false [] (sl s 1) z).bind fun z =>
 (liveD b (D.ref 0 1)).bind fun z_1 => ((atD b z_1).bind (takeD false 1)).bind fun z_2 => (liveD b (D.ref 0 2)).bind fun z_3 => ((atD b z_3).bind (takeD false 1)).bind fun z_4 => (bin BinOp.add false [] (sl s 6)
 (D.v (Value.int IntKind.i64 1))).bind fun z_5 => some (Out.nrm [sl s 0, z, z_2, z_4, sl s 4, sl s 5, z_5])) (some (Out.ext 0 [sl s 1])))
 [x0, D.v (Value.int IntKind.i64 0), D.v (Value.int IntKind.i64 0), D.v (Value.int IntKind.i64 0), x1, z, D.v (Value.int IntKind.i64 0)]).bind
 fun o => outK o (fun i s => ifN (i.beq 0) (some (Out.ret [sl s 0] [])) none) fun a b => some (Out.ret a b)) := by kernel_rfl
theorem t_impl_BestSwap (x0 x1 : D) : F_impl_BestSwap [x0, x1] =
  (callK (F_impl_areCodes [x0, x1]) fun rs _u => (un UnOp.not (sl rs 0)).bind fun z => (gate (D.tup []) z false (some x0)).bind fun z_1 => (gate (D.tup []) z false (lenD false z_1)).bind fun z_2 =>
 (gate (D.tup []) z false (bin BinOp.lss false [] z_2 (D.v (Value.int IntKind.i64 2)))).bind fun z_3 => (pickD z (D.v (Value.bool true)) z_3).bind fun z => ifD z (some (Out.ret
 [D.v (Value.int IntKind.i64 0), D.v (Value.int IntKind.i64 0), D.v (Value.int IntKind.i64 0), D.v (Value.bool false)] [])) ((lenD false x0).bind fun z => (loopC (fun s =>
 (bin BinOp.lss false [] (sl s 6) (sl s 5)).bind fun z => ifD z ((bin BinOp.add false [] (sl s 6) (D.v (Value.int IntKind.i64 1))).bind fun z => (loopC (fun s => (lenD false (sl s 0)).bind fun z =>
 (bin BinOp.lss false [] (sl s 6) z).bind fun z => ifD z (callK (F_impl_swap [sl s 0, sl s 5, sl s 6]) fun rs _u => callK (F_impl_handWay [sl rs 0, sl s 1]) fun rs _u =>
 (bin BinOp.lss false [] (sl s 4) (D.v (Value.int IntKind.i64 0))).bind fun z => (gate (D.tup []) z false (some (sl rs 0))).bind fun z_4 => (gate (D.tup []) z false (some (sl s 4))).bind fun z_5 =>
 (gate (D.tup []) z false (bin BinOp.lss false [] z_4 z_5)).bind fun z_6 => (pickD z (D.v (Value.bool true)) z_6).bind fun z => ifD z ((bin BinOp.add false [] (sl s 6) (D.v (Value.int IntKind.i64 1))).bind fun z => some
 (Out.nrm [sl s 0, sl s 1, sl s 5, sl s 6, sl rs 0, sl s 5, z, sl s 7, sl s 8])) ((bin BinOp.add false [] (sl s 6) (D.v (Value.int IntKind.i64 1))).bind fun z => some (Out.nrm
 [sl s 0, sl s 1, sl s 2, sl s 3, sl s 4, sl s 5, z, sl s 7, sl s 8]))) (some (Out.ext 2 [sl s 0, sl s 1, sl s 2, sl s 3, sl s 4, sl s 7, sl s 8]))) [sl s 0, sl s 1, sl s 2, sl s 3, sl s 4, sl s 6, z, sl s 5, sl s 6]).bind
 fun o => outK o (fun i s => ifN (i.beq 2) ((bin BinOp.add false [] (sl s 6) (D.v (Value.int IntKind.i64 1))).bind fun z => some (Out.nrm [sl s 0, sl s 1, sl s 2, sl s 3, sl s 4, sl s 5, z])) (ifN (i.beq 1)
 ((bin BinOp.add false [] (sl s 6) (D.v (Value.int IntKind.i64 1))).bind fun z => some (Out.nrm [sl s 0, sl s 1, sl s 2, sl s 3, sl s 4, sl s 5, z])) (some (Out.ext i [sl s 2, sl s 3, sl s 4]))))
 fun a b => some (Out.ret a b)) (some (Out.ext 0 [sl s 2, sl s 3, sl s 4]))) [x0, x1, D.v (Value.int IntKind.i64 0), D.v (Value.int IntKind.i64 0), D.v (Value.int IntKind.i64 (-1)), z, D.v (Value.int IntKind.i64 0)]).bind
 fun o => outK o (fun i s => ifN (i.beq 0) (some (Out.ret [sl s 0, sl s 1, sl s 2, D.v (Value.bool true)] [])) none) fun a b => some (Out.ret a b))) := by kernel_rfl
theorem t_spec_caAsked (x0 x1 : D) : F_spec_caAsked [x0, x1] =
  ((lenD false x1).bind fun z => (loopC (fun s => (bin BinOp.lss false [] (sl s 4) (sl s 3)).bind fun z => ifD z ((Option.map D.ptr (elemD 1 (sl s 2) (sl s 4))).bind fun z => ((ldD false 1 z).bind chkV).bind fun z =>
 callK (F_spec_caFind [sl s 0, z]) fun rs _u => (bin BinOp.lss false [] (sl rs 0) (D.v (Value.int IntKind.i64 0))).bind fun z => ifD z (some (Out.ret [D.v (Value.bool false)] []))
 ((bin BinOp.add false [] (sl s 4) (D.v (Value.int IntKind.i64 1))).bind fun z => some (Out.nrm [sl s 0, sl s 1, sl s 2, sl s 3, z]))) (some (Out.ext 0 [sl s 0, sl s 1])))
 [x0, x1, x1, z, D.v (Value.int IntKind.i64 0)]).bind fun o => outK o (fun i s => ifN (i.beq 0) (callK (F_spec_caGood [sl s 0]) fun rs _u => (gate (D.tup []) (sl rs 0) true (some (sl s 1))).bind fun z =>
 (gate (D.tup []) (sl rs 0) true (lenD false z)).bind fun z => (gate (D.tup []) (sl rs 0) true (bin BinOp.leq false [] z (D.v (Value.int IntKind.i64 60)))).bind
 fun z => (pickD (sl rs 0) z (D.v (Value.bool false))).bind fun z => some (Out.ret [z] [])) none) fun a b => some (Out.ret a b)) := by kernel_rfl
theorem t_spec_caSwap (x0 x1 x2 : D) : F_spec_caSwap [x0, x1, x2] =
  ((mkArr 4 []).bind fun a => (chkA x0).bind fun b => (appD 4 40 a b).bind fun y => (liveD y (D.ref 0 0)).bind fun z => (Option.map D.ptr (elemD 4 x0 x2)).bind fun z_1 => (offD 1 z_1).bind fun z_2 =>
 ((ldD false 1 z_2).bind chkV).bind fun z_3 => ((liveD z y).bind fun b => refI 4 b x1).bind fun z => (refAdd 1 z).bind fun z => (stD 1 y z z_3).bind fun b => (liveD b (D.ref 0 0)).bind fun z =>
 (Option.map D.ptr (elemD 4 x0 x2)).bind fun z_4 => (offD 2 z_4).bind fun z_5 => ((ldD false 1 z_5).bind chkV).bind fun z_6 => ((liveD z b).bind fun b => refI 4 b x1).bind fun z => (refAdd 2 z).bind fun z =>
 (stD 1 b z z_6).bind fun b => (liveD b (D.ref 0 0)).bind fun z => (Option.map D.ptr (elemD 4 x0 x1)).bind fun z_7 => (offD 1 z_7).bind fun z_8 => ((ldD false 1 z_8).bind chkV).bind fun z_9 =>
 ((liveD z b).bind fun b => refI 4 b x2).bind fun z => (refAdd 1 z).bind fun z => (stD 1 b z z_9).bind fun b => (liveD b (D.ref 0 0)).bind fun z => (Option.map D.ptr (elemD 4 x0 x1)).bind fun z_10 =>
 (offD 2 z_10).bind fun z_11 => ((ldD false 1 z_11).bind chkV).bind fun z_12 => ((liveD z b).bind fun b => refI 4 b x2).bind fun z => (refAdd 2 z).bind fun z => (stD 1 b z z_12).bind fun b => some (Out.ret [b] [])) := by kernel_rfl
theorem t_spec_l1Most (x0 x1 : D) : F_spec_l1Most [x0, x1] =
  ((bin BinOp.gtr false [] x0 x1).bind fun z => ifD z (some (Out.ret [x0] [])) (some (Out.ret [x1] []))) := by kernel_rfl
theorem t_spec_l1Abs (x0 : D) : F_spec_l1Abs [x0] =
  ((un UnOp.neg x0).bind fun z => callK (F_spec_l1Most [x0, z]) fun rs _u => some (Out.ret [sl rs 0] [])) := by kernel_rfl
theorem t_spec_caWay (x0 x1 : D) : F_spec_caWay [x0, x1] =
  ((lenD false x1).bind fun z => (loopC (fun s => (bin BinOp.lss false [] (sl s 6) (sl s 5)).bind fun z => ifD z ((Option.map D.ptr (elemD 1 (sl s 4) (sl s 6))).bind fun z => ((ldD false 1 z).bind chkV).bind fun z =>
 callK (F_spec_caFind [sl s 0, z]) fun rs _u => (Option.map D.ptr (elemD 4 (sl s 0) (sl rs 0))).bind fun z => ((ldD true 4 z).bind chkV).bind fun z => (stD 4 (D.agg
 [D.v (Value.string { data := { toList := [] } }), D.v (Value.int IntKind.i64 0), D.v (Value.int IntKind.i64 0), D.v (Value.int IntKind.i64 0)]) (D.ref 0 0) z).bind fun b => (liveD b (D.ref 0 1)).bind fun z =>
 ((atD b z).bind (takeD false 1)).bind fun z => (bin BinOp.sub false [] z (sl s 1)).bind fun z => callK (F_spec_l1Abs [z]) fun rs _u => (liveD b (D.ref 0 2)).bind fun z => ((atD b z).bind (takeD false 1)).bind fun z =>
 (bin BinOp.sub false [] z (sl s 2)).bind fun z => callK (F_spec_l1Abs [z]) fun rs_1 _u => (bin BinOp.add false [] (sl rs 0) (sl rs_1 0)).bind fun z => (bin BinOp.add false [] (sl s 3) z).bind fun z =>
 (liveD b (D.ref 0 1)).bind fun z_1 => ((atD b z_1).bind (takeD false 1)).bind fun z_2 => (liveD b (D.ref 0 2)).bind fun z_3 => ((atD b z_3).bind (takeD false 1)).bind fun z_4 => (bin BinOp.add false [] (sl s 6)
 (D.v (Value.int IntKind.i64 1))).bind fun z_5 => some (Out.nrm [sl s 0, z_2, z_4, z, sl s 4, sl s 5, z_5])) (some (Out.ext 0 [sl s 3])))
 [x0, D.v (Value.int IntKind.i64 0), D.v (Value.int IntKind.i64 0), D.v (Value.int IntKind.i64 0), x1, z, D.v (Value.int IntKind.i64 0)]).bind
 fun o => outK o (fun i s => ifN (i.beq 0) (some (Out.ret [sl s 0] [])) none) fun a b => some (Out.ret a b)) := by kernel_rfl
theorem t_spec_BestSwap (x0 x1 : D) : F_spec_BestSwap [x0, x1] =
  (callK (F_spec_caAsked [x0, x1]) fun rs _u => (un UnOp.not (sl rs 0)).bind fun z => (gate (D.tup []) z false (some x0)).bind fun z_1 => (gate (D.tup []) z false (lenD false z_1)).bind fun z_2 =>
 (gate (D.tup []) z false (bin BinOp.lss false [] z_2 (D.v (Value.int IntKind.i64 2)))).bind fun z_3 => (pickD z (D.v (Value.bool true)) z_3).bind fun z => ifD z (some (Out.ret
 [D.v (Value.int IntKind.i64 0), D.v (Value.int IntKind.i64 0), D.v (Value.int IntKind.i64 0), D.v (Value.bool false)] [])) ((lenD false x0).bind fun z => (loopC (fun s =>
 (bin BinOp.lss false [] (sl s 6) (sl s 5)).bind fun z => ifD z ((bin BinOp.add false [] (sl s 6) (D.v (Value.int IntKind.i64 1))).bind fun z => (loopC (fun s => (lenD false (sl s 0)).bind fun z =>
 (bin BinOp.lss false [] (sl s 6) z).bind fun z => ifD z (callK (F_spec_caSwap [sl s 0, sl s 5, sl s 6]) fun rs _u => callK (F_spec_caWay [sl rs 0, sl s 1]) fun rs _u =>
 (bin BinOp.lss false [] (sl s 2) (D.v (Value.int IntKind.i64 0))).bind fun z => (gate (D.tup []) z false (some (sl rs 0))).bind fun z_4 => (gate (D.tup []) z false (some (sl s 4))).bind fun z_5 =>
 (gate (D.tup []) z false (bin BinOp.lss false [] z_4 z_5)).bind fun z_6 => (pickD z (D.v (Value.bool true)) z_6).bind fun z => ifD z ((bin BinOp.add false [] (sl s 6) (D.v (Value.int IntKind.i64 1))).bind fun z => some
 (Out.nrm [sl s 0, sl s 1, sl s 5, sl s 6, sl rs 0, sl s 5, z, sl s 7, sl s 8])) ((bin BinOp.add false [] (sl s 6) (D.v (Value.int IntKind.i64 1))).bind fun z => some (Out.nrm
 [sl s 0, sl s 1, sl s 2, sl s 3, sl s 4, sl s 5, z, sl s 7, sl s 8]))) (some (Out.ext 2 [sl s 0, sl s 1, sl s 2, sl s 3, sl s 4, sl s 7, sl s 8]))) [sl s 0, sl s 1, sl s 2, sl s 3, sl s 4, sl s 6, z, sl s 5, sl s 6]).bind
 fun o => outK o (fun i s => ifN (i.beq 2) ((bin BinOp.add false [] (sl s 6) (D.v (Value.int IntKind.i64 1))).bind fun z => some (Out.nrm [sl s 0, sl s 1, sl s 2, sl s 3, sl s 4, sl s 5, z])) (ifN (i.beq 1)
 ((bin BinOp.add false [] (sl s 6) (D.v (Value.int IntKind.i64 1))).bind fun z => some (Out.nrm [sl s 0, sl s 1, sl s 2, sl s 3, sl s 4, sl s 5, z])) (some (Out.ext i [sl s 2, sl s 3, sl s 4]))))
 fun a b => some (Out.ret a b)) (some (Out.ext 0 [sl s 2, sl s 3, sl s 4]))) [x0, x1, D.v (Value.int IntKind.i64 (-1)), D.v (Value.int IntKind.i64 (-1)),
 D.v (Value.int IntKind.i64 0), z, D.v (Value.int IntKind.i64 0)]).bind fun o => outK o (fun i s => ifN (i.beq 0) (some (Out.ret [sl s 0, sl s 1, sl s 2, D.v (Value.bool true)] [])) none) fun a b => some (Out.ret a b))) := by kernel_rfl
theorem t_impl_HandWay (x0 x1 : D) : F_impl_HandWay [x0, x1] =
  (callK (F_impl_areCodes [x0, x1]) fun rs _u => (un UnOp.not (sl rs 0)).bind fun z => ifD z (some (Out.ret [D.v (Value.int IntKind.i64 0), D.v (Value.bool false)] []))
 (callK (F_impl_handWay [x0, x1]) fun rs _u => some (Out.ret [sl rs 0, D.v (Value.bool true)] []))) := by kernel_rfl
theorem t_spec_HandWay (x0 x1 : D) : F_spec_HandWay [x0, x1] =
  (callK (F_spec_caAsked [x0, x1]) fun rs _u => (un UnOp.not (sl rs 0)).bind fun z => ifD z (some (Out.ret [D.v (Value.int IntKind.i64 0), D.v (Value.bool false)] []))
 (callK (F_spec_caWay [x0, x1]) fun rs _u => some (Out.ret [sl rs 0, D.v (Value.bool true)] []))) := by kernel_rfl
theorem t_spec_SwapBoxes (x0 x1 x2 : D) : F_spec_SwapBoxes [x0, x1, x2] =
  (callK (F_spec_caGood [x0]) fun rs _u => (un UnOp.not (sl rs 0)).bind fun z => (gate (D.tup []) z false (some x1)).bind fun z_1 => (gate (D.tup []) z false (some x0)).bind fun z_2 =>
 (gate (D.tup []) z false (lenD false z_2)).bind fun z_3 => (gate (D.tup []) z false (bin BinOp.sub false [] z_3 (D.v (Value.int IntKind.i64 1)))).bind fun z_4 => gateC z false
 (callK (F_spec_l1In [z_1, D.v (Value.int IntKind.i64 0), z_4]) fun rs _u => some (Out.nrm [sl rs 0])) [D.tup []] fun outs => (gate (D.tup []) z false (un UnOp.not (sl outs 0))).bind fun z_5 =>
 (pickD z (D.v (Value.bool true)) z_5).bind fun z => (gate (D.tup []) z false (some x2)).bind fun z_6 => (gate (D.tup []) z false (some x0)).bind fun z_7 => (gate (D.tup []) z false (lenD false z_7)).bind fun z_8 =>
 (gate (D.tup []) z false (bin BinOp.sub false [] z_8 (D.v (Value.int IntKind.i64 1)))).bind fun z_9 => gateC z false (callK (F_spec_l1In [z_6, D.v (Value.int IntKind.i64 0), z_9]) fun rs _u => some (Out.nrm [sl rs 0]))
 [D.tup []] fun outs => (gate (D.tup []) z false (un UnOp.not (sl outs 0))).bind fun z_10 => (pickD z (D.v (Value.bool true)) z_10).bind fun z => ifD z (some (Out.ret [D.arr 4 [], D.v (Value.bool false)] []))
 (callK (F_spec_caSwap [x0, x1, x2]) fun rs _u => some (Out.ret [sl rs 0, D.v (Value.bool true)] []))) := by kernel_rfl
theorem t_spec_DrawNearestFree (x0 : D) : F_spec_DrawNearestFree [x0] =
  ((bldD [(0, 1)] [D.arr 1 [], D.v (Value.int IntKind.i64 0), D.v (Value.int IntKind.u64 0)] [x0]).bind fun z => (boxD 3 z).bind fun y => (liveD y (D.ref 0 0)).bind fun z => (liveD z z).bind fun z_1 =>
 (ref0 z_1 y).bind fun i => (liveD i i).bind fun i => callK (F_spec_l1Cur_anyCase [i]) fun rs us => (liveD z z).bind fun z_2 => (liveD z z).bind fun z_3 => (mkArr 1
 [D.v (Value.int IntKind.i64 3), D.v (Value.int IntKind.i64 10), D.v (Value.int IntKind.i64 (-1))]).bind fun a => (ref0 z_3 (sl us 0)).bind fun i => (liveD i i).bind fun i =>
 callK (F_spec_l1Cur_among [i, a]) fun rs_1 us => (mkArr 1 [D.v (Value.int IntKind.i64 0), D.v (Value.int IntKind.i64 0), D.v (Value.int IntKind.i64 1), D.v (Value.int IntKind.i64 2),
 D.v (Value.int IntKind.i64 5), D.v (Value.int IntKind.i64 9), sl rs_1 0]).bind fun a => (ref0 z_2 (sl us 0)).bind fun i => (liveD i i).bind fun i => callK (F_spec_l1Cur_among [i, a]) fun rs_2 us =>
 (liveD z z).bind fun z_4 => (liveD z z).bind fun z => (mkArr 1 [D.v (Value.int IntKind.i64 3), D.v (Value.int IntKind.i64 10), D.v (Value.int IntKind.i64 (-1))]).bind fun a => (ref0 z (sl us 0)).bind fun i =>
 (liveD i i).bind fun i => callK (F_spec_l1Cur_among [i, a]) fun rs_3 us => (mkArr 1 [D.v (Value.int IntKind.i64 0), D.v (Value.int IntKind.i64 1), D.v (Value.int IntKind.i64 4), D.v (Value.int IntKind.i64 9),
 sl rs_3 0]).bind fun a => (ref0 z_4 (sl us 0)).bind fun i => (liveD i i).bind fun i => callK (F_spec_l1Cur_among [i, a]) fun rs_4 _u => some (Out.ret [sl rs 0, sl rs_2 0, sl rs_4 0] [])) := by kernel_rfl
theorem t_impl_NearestFree (x0 x1 x2 : D) : F_impl_NearestFree [x0, x1, x2] =
  (callK (F_impl_IsCase [x0]) fun rs _u => (un UnOp.not (sl rs 0)).bind fun z => (gate (D.tup []) z false (some x1)).bind fun z_1 =>
 gateC z false (callK (F_impl_isPlace [z_1]) fun rs _u => some (Out.nrm [sl rs 0])) [D.tup []] fun outs => (gate (D.tup []) z false (un UnOp.not (sl outs 0))).bind fun z_2 =>
 (pickD z (D.v (Value.bool true)) z_2).bind fun z => (gate (D.tup []) z false (some x2)).bind fun z_3 => gateC z false (callK (F_impl_isPlace [z_3]) fun rs _u => some (Out.nrm [sl rs 0])) [D.tup []] fun outs =>
 (gate (D.tup []) z false (un UnOp.not (sl outs 0))).bind fun z_4 => (pickD z (D.v (Value.bool true)) z_4).bind fun z => ifD z (some (Out.ret
 [D.v (Value.int IntKind.i64 0), D.v (Value.int IntKind.i64 0), D.v (Value.bool false)] [])) ((loopC (fun s => (bin BinOp.leq false [] (sl s 6) (D.v (Value.int IntKind.i64 9))).bind fun z => ifD z ((loopC (fun s =>
 (bin BinOp.leq false [] (sl s 7) (D.v (Value.int IntKind.i64 9))).bind fun z => ifD z ((bin BinOp.sub false [] (sl s 6) (sl s 1)).bind fun z => callK (F_impl_abs [z]) fun rs _u =>
 (bin BinOp.sub false [] (sl s 7) (sl s 2)).bind fun z => callK (F_impl_abs [z]) fun rs_1 _u => (bin BinOp.add false [] (sl rs 0) (sl rs_1 0)).bind fun z => callK (F_impl_isTaken [sl s 0, sl s 6, sl s 7]) fun rs _u =>
 (un UnOp.not (sl rs 0)).bind fun z_5 => (gate (D.tup []) z_5 true (some (sl s 5))).bind fun z_6 => (gate (D.tup []) z_5 true (bin BinOp.lss false [] z_6 (D.v (Value.int IntKind.i64 0)))).bind fun z_7 =>
 (gate (D.tup []) z_5 true (some z_7)).bind fun z_8 => (gate (D.tup []) z_8 false (some z)).bind fun z_9 => (gate (D.tup []) z_8 false (some (sl s 5))).bind fun z_10 => (gate (D.tup []) z_8 false
 (bin BinOp.lss false [] z_9 z_10)).bind fun z_11 => (gate (D.tup []) z_5 true (pickD z_8 (D.v (Value.bool true)) z_11)).bind fun z_12 => (pickD z_5 z_12 (D.v (Value.bool false))).bind fun z_13 => ifD z_13
 ((bin BinOp.add false [] (sl s 7) (D.v (Value.int IntKind.i64 1))).bind fun z_14 => some (Out.nrm [sl s 0, sl s 1, sl s 2, sl s 6, sl s 7, z, sl s 6, z_14])) ((bin BinOp.add false [] (sl s 7) (D.v
 (Value.int IntKind.i64 1))).bind fun z => some (Out.nrm [sl s 0, sl s 1, sl s 2, sl s 3, sl s 4, sl s 5, sl s 6, z]))) (some (Out.ext 2 [sl s 0, sl s 1, sl s 2, sl s 3, sl s 4, sl s 5, sl s 6])))
 [sl s 0, sl s 1, sl s 2, sl s 3, sl s 4, sl s 5, sl s 6, D.v (Value.int IntKind.i64 0)]).bind fun o => outK o (fun i s => ifN (i.beq 2) ((bin BinOp.add false [] (sl s 6) (D.v (Value.int IntKind.i64 1))).bind fun z =>
 some (Out.nrm [sl s 0, sl s 1, sl s 2, sl s 3, sl s 4, sl s 5, z])) (ifN (i.beq 1) ((bin BinOp.add false [] (sl s 6) (D.v (Value.int IntKind.i64 1))).bind fun z =>
 some (Out.nrm [sl s 0, sl s 1, sl s 2, sl s 3, sl s 4, sl s 5, z])) (some (Out.ext i [sl s 3, sl s 4])))) fun a b => some (Out.ret a b)) (some (Out.ext 0 [sl s 3, sl s 4])))
 [x0, x1, x2, D.v (Value.int IntKind.i64 0), D.v (Value.int IntKind.i64 0), D.v (Value.int IntKind.i64 (-1)), D.v (Value.int IntKind.i64 0)]).bind fun o => outK o
 (fun i s => ifN (i.beq 0) (some (Out.ret [sl s 0, sl s 1, D.v (Value.bool true)] [])) none) fun a b => some (Out.ret a b))) := by kernel_rfl
theorem t_spec_NearestFree (x0 x1 x2 : D) : F_spec_NearestFree [x0, x1, x2] =
  (callK (F_spec_caGood [x0]) fun rs _u => (un UnOp.not (sl rs 0)).bind fun z => (gate (D.tup []) z false (some x1)).bind fun z_1 => gateC z false
 (callK (F_spec_l1In [z_1, D.v (Value.int IntKind.i64 0), D.v (Value.int IntKind.i64 9)]) fun rs _u => some (Out.nrm [sl rs 0])) [D.tup []] fun outs => (gate (D.tup []) z false (un UnOp.not (sl outs 0))).bind fun z_2 =>
 (pickD z (D.v (Value.bool true)) z_2).bind fun z => (gate (D.tup []) z false (some x2)).bind fun z_3 => gateC z false (callK (F_spec_l1In [z_3, D.v (Value.int IntKind.i64 0), D.v (Value.int IntKind.i64 9)]) fun rs _u =>
 some (Out.nrm [sl rs 0])) [D.tup []] fun outs => (gate (D.tup []) z false (un UnOp.not (sl outs 0))).bind fun z_4 => (pickD z (D.v (Value.bool true)) z_4).bind fun z => ifD z (some (Out.ret
 [D.v (Value.int IntKind.i64 0), D.v (Value.int IntKind.i64 0), D.v (Value.bool false)] [])) ((loopC (fun s => (bin BinOp.lss false [] (sl s 6) (D.v (Value.int IntKind.i64 10))).bind fun z => ifD z ((loopC (fun s =>
 (bin BinOp.lss false [] (sl s 7) (D.v (Value.int IntKind.i64 10))).bind fun z => ifD z ((lenD false (sl s 0)).bind fun z => (loopC (fun s => (bin BinOp.lss false [] (sl s 11) (sl s 10)).bind fun z => ifD z
 ((Option.map D.ptr (elemD 4 (sl s 9) (sl s 11))).bind fun z => ((ldD true 4 z).bind chkV).bind fun z => (stD 4 (D.agg [D.v (Value.string { data := { toList := [] } }), D.v (Value.int IntKind.i64 0),
 D.v (Value.int IntKind.i64 0), D.v (Value.int IntKind.i64 0)]) (D.ref 0 0) z).bind fun b => (gate D.bad (sl s 8) false (liveD b (D.ref 0 1))).bind fun z => (gate (D.tup []) (sl s 8) false
 ((atD b z).bind (takeD false 1))).bind fun z => (gate (D.tup []) (sl s 8) false (some (sl s 6))).bind fun z_5 => (gate (D.tup []) (sl s 8) false (bin BinOp.eql false [] z z_5)).bind fun z =>
 (gate (D.tup []) (sl s 8) false (some z)).bind fun z => (gate D.bad z true (liveD b (D.ref 0 2))).bind fun z_6 => (gate (D.tup []) z true ((atD b z_6).bind (takeD false 1))).bind fun z_7 => (gate (D.tup []) z true
 (some (sl s 7))).bind fun z_8 => (gate (D.tup []) z true (bin BinOp.eql false [] z_7 z_8)).bind fun z_9 => (gate (D.tup []) (sl s 8) false (pickD z z_9 (D.v (Value.bool false)))).bind fun z => (pickD (sl s 8)
 (D.v (Value.bool true)) z).bind fun z => (bin BinOp.add false [] (sl s 11) (D.v (Value.int IntKind.i64 1))).bind fun z_10 => some (Out.nrm [sl s 0, sl s 1, sl s 2, sl s 3, sl s 4, sl s 5, sl s 6, sl s 7, z, sl s 9,
 sl s 10, z_10])) (some (Out.ext 4 [sl s 0, sl s 1, sl s 2, sl s 3, sl s 4, sl s 5, sl s 6, sl s 7, sl s 8]))) [sl s 0, sl s 1, sl s 2, sl s 3, sl s 4, sl s 5, sl s 6, sl s 7, D.v (Value.bool false), sl s 0, z,
 D.v (Value.int IntKind.i64 0)]).bind fun o => outK o (fun i s => ifN (i.beq 4) ((bin BinOp.sub false [] (sl s 6) (sl s 1)).bind fun z => callK (F_spec_l1Abs [z]) fun rs _u =>
 (bin BinOp.sub false [] (sl s 7) (sl s 2)).bind fun z => callK (F_spec_l1Abs [z]) fun rs_1 _u => (bin BinOp.add false [] (sl rs 0) (sl rs_1 0)).bind fun z => (un UnOp.not (sl s 8)).bind fun z_5 =>
 (gate (D.tup []) z_5 true (some (sl s 3))).bind fun z_6 => (gate (D.tup []) z_5 true (bin BinOp.lss false [] z_6 (D.v (Value.int IntKind.i64 0)))).bind fun z_7 => (gate (D.tup []) z_5 true (some z_7)).bind fun z_8 =>
 (gate (D.tup []) z_8 false (some z)).bind fun z_9 => (gate (D.tup []) z_8 false (some (sl s 5))).bind fun z_10 => (gate (D.tup []) z_8 false (bin BinOp.lss false [] z_9 z_10)).bind fun z_11 => (gate (D.tup []) z_5 true
 (pickD z_8 (D.v (Value.bool true)) z_11)).bind fun z_12 => (pickD z_5 z_12 (D.v (Value.bool false))).bind fun z_13 => ifD z_13 ((bin BinOp.add false [] (sl s 7) (D.v (Value.int IntKind.i64 1))).bind fun z_14 => some
 (Out.nrm [sl s 0, sl s 1, sl s 2, sl s 6, sl s 7, z, sl s 6, z_14])) ((bin BinOp.add false [] (sl s 7) (D.v (Value.int IntKind.i64 1))).bind fun z => some (Out.nrm [sl s 0, sl s 1, sl s 2, sl s 3, sl s 4, sl s 5,
 sl s 6, z]))) (ifN (i.beq 3) ((bin BinOp.add false [] (sl s 7) (D.v (Value.int IntKind.i64 1))).bind fun z => some (Out.nrm [sl s 0, sl s 1, sl s 2, sl s 3, sl s 4, sl s 5, sl s 6, z])) (some (Out.ext i
 [sl s 0, sl s 1, sl s 2, sl s 3, sl s 4, sl s 5, sl s 6])))) fun a b => some (Out.ret a b)) (some (Out.ext 2 [sl s 0, sl s 1, sl s 2, sl s 3, sl s 4, sl s 5, sl s 6])))
 [sl s 0, sl s 1, sl s 2, sl s 3, sl s 4, sl s 5, sl s 6, D.v (Value.int IntKind.i64 0)]).bind fun o => outK o (fun i s => ifN (i.beq 2) ((bin BinOp.add false [] (sl s 6) (D.v (Value.int IntKind.i64 1))).bind fun z =>
 some (Out.nrm [sl s 0, sl s 1, sl s 2, sl s 3, sl s 4, sl s 5, z])) (ifN (i.beq 1) ((bin BinOp.add false [] (sl s 6) (D.v (Value.int IntKind.i64 1))).bind fun z =>
 some (Out.nrm [sl s 0, sl s 1, sl s 2, sl s 3, sl s 4, sl s 5, z])) (some (Out.ext i [sl s 3, sl s 4])))) fun a b => some (Out.ret a b)) (some (Out.ext 0 [sl s 3, sl s 4])))
 [x0, x1, x2, D.v (Value.int IntKind.i64 (-1)), D.v (Value.int IntKind.i64 (-1)), D.v (Value.int IntKind.i64 0), D.v (Value.int IntKind.i64 0)]).bind fun o => outK o
 (fun i s => ifN (i.beq 0) (some (Out.ret [sl s 0, sl s 1, D.v (Value.bool true)] [])) none) fun a b => some (Out.ret a b))) := by kernel_rfl
theorem t_laws_FnHandWays (x0 x1 : D) : F_laws_FnHandWays [x0, x1] =
  ((lenD false x0).bind fun z => (lenD false x1).bind fun z_1 => (bin BinOp.add false [] z z_1).bind fun z => (bin BinOp.gtr false [] z (D.v (Value.int IntKind.i64 1048576))).bind fun z =>
 ifD z (some (Out.ret [D.v (Value.bool true)] [])) (callK (F_spec_DrawBestSwap [x0]) fun rs _u => (tupAt (D.tup rs) 0).bind fun z => (tupAt (D.tup rs) 1).bind fun y => callK (F_impl_BestSwap [z, y]) fun rs _u =>
 (tupAt (D.tup rs) 0).bind fun z_2 => (tupAt (D.tup rs) 1).bind fun z_3 => (tupAt (D.tup rs) 2).bind fun z_4 => (tupAt (D.tup rs) 3).bind fun z_5 => callK (F_spec_BestSwap [z, y]) fun rs _u =>
 (tupAt (D.tup rs) 0).bind fun z_6 => (tupAt (D.tup rs) 1).bind fun z_7 => (tupAt (D.tup rs) 2).bind fun z_8 => (tupAt (D.tup rs) 3).bind fun z_9 => callK (F_impl_HandWay [z, y]) fun rs _u =>
 (tupAt (D.tup rs) 0).bind fun z_10 => (tupAt (D.tup rs) 1).bind fun z_11 => callK (F_spec_HandWay [z, y]) fun rs _u => (tupAt (D.tup rs) 0).bind fun z_12 => (tupAt (D.tup rs) 1).bind fun z_13 =>
 (bin BinOp.neq true [] z_5 z_9).bind fun z_14 => (gate (D.tup []) z_14 false (some z_2)).bind fun z_15 => (gate (D.tup []) z_14 false (some z_6)).bind fun z_16 => (gate (D.tup []) z_14 false
 (bin BinOp.neq false [] z_15 z_16)).bind fun z_17 => (pickD z_14 (D.v (Value.bool true)) z_17).bind fun z_18 => (gate (D.tup []) z_18 false (some z_3)).bind fun z_19 =>
 (gate (D.tup []) z_18 false (some z_7)).bind fun z_20 => (gate (D.tup []) z_18 false (bin BinOp.neq false [] z_19 z_20)).bind fun z_21 => (pickD z_18 (D.v (Value.bool true)) z_21).bind fun z_22 =>
 (gate (D.tup []) z_22 false (some z_4)).bind fun z_23 => (gate (D.tup []) z_22 false (some z_8)).bind fun z_24 => (gate (D.tup []) z_22 false (bin BinOp.neq false [] z_23 z_24)).bind fun z_25 =>
 (pickD z_22 (D.v (Value.bool true)) z_25).bind fun z_26 => (gate (D.tup []) z_26 false (some z_11)).bind fun z_27 => (gate (D.tup []) z_26 false (some z_13)).bind fun z_28 => (gate (D.tup []) z_26 false
 (bin BinOp.neq true [] z_27 z_28)).bind fun z_29 => (pickD z_26 (D.v (Value.bool true)) z_29).bind fun z_30 => (gate (D.tup []) z_30 false (some z_10)).bind fun z_31 => (gate (D.tup []) z_30 false (some z_12)).bind
 fun z_32 => (gate (D.tup []) z_30 false (bin BinOp.neq false [] z_31 z_32)).bind fun z_33 => (pickD z_30 (D.v (Value.bool true)) z_33).bind fun z_34 => (gate (D.tup []) z_34 false (some z_5)).bind fun z_35 =>
 (gate (D.tup []) z_34 false (some z_35)).bind fun z_36 => (gate (D.tup []) z_36 true (some z_11)).bind fun z_37 => (gate (D.tup []) z_36 true (un UnOp.not z_37)).bind fun z_38 => (gate (D.tup []) z_34 false (pickD z_36
 z_38 (D.v (Value.bool false)))).bind fun z_39 => (pickD z_34 (D.v (Value.bool true)) z_39).bind fun z_40 => ifD z_40 (some (Out.ret [D.v (Value.bool false)] [])) (ifD z_5 ((lenD false z).bind fun z_41 => (loopC (fun s =>
 (bin BinOp.lss false [] (sl s 7) (sl s 6)).bind fun z => ifD z ((bin BinOp.add false [] (sl s 7) (D.v (Value.int IntKind.i64 1))).bind fun z => (loopC (fun s => (lenD false (sl s 1)).bind fun z => (bin BinOp.lss false []
 (sl s 7) z).bind fun z => ifD z (callK (F_spec_SwapBoxes [sl s 1, sl s 6, sl s 7]) fun rs _u => (tupAt (D.tup rs) 0).bind fun y => (tupAt (tupCut (D.tup rs) 0) 1).bind fun z => callK (F_impl_HandWay [y, sl s 2]) fun rs
 _u => (tupAt (D.tup rs) 0).bind fun z_42 => (tupAt (D.tup rs) 1).bind fun z_43 => (un UnOp.not z).bind fun z => (gate (D.tup []) z false (some z_43)).bind fun z_44 => (gate (D.tup []) z false (un UnOp.not z_44)).bind fun
 z_45 => (pickD z (D.v (Value.bool true)) z_45).bind fun z => (gate (D.tup []) z false (some z_42)).bind fun z_46 => (gate (D.tup []) z false (some (sl s 5))).bind fun z_47 => (gate (D.tup []) z false (bin BinOp.lss false
 [] z_46 z_47)).bind fun z_48 => (pickD z (D.v (Value.bool true)) z_48).bind fun z => (gate (D.tup []) z false (some (sl s 6))).bind fun z_49 => (gate (D.tup []) z false (some (sl s 3))).bind fun z_50 => (gate (D.tup []) z
 false (bin BinOp.eql false [] z_49 z_50)).bind fun z_51 => (gate (D.tup []) z false (some z_51)).bind fun z_52 => (gate (D.tup []) z_52 true (some (sl s 7))).bind fun z_53 => (gate (D.tup []) z_52 true (some (sl s
 4))).bind fun z_54 => (gate (D.tup []) z_52 true (bin BinOp.eql false [] z_53 z_54)).bind fun z_55 => (gate (D.tup []) z false (pickD z_52 z_55 (D.v (Value.bool false)))).bind fun z_56 => (gate (D.tup []) z false (some
 z_56)).bind fun z_57 => (gate (D.tup []) z_57 true (some z_42)).bind fun z_58 => (gate (D.tup []) z_57 true (some (sl s 5))).bind fun z_59 => (gate (D.tup []) z_57 true (bin BinOp.neq false [] z_58 z_59)).bind fun z_60 =>
 (gate (D.tup []) z false (pickD z_57 z_60 (D.v (Value.bool false)))).bind fun z_61 => (pickD z (D.v (Value.bool true)) z_61).bind fun z => ifD z (some (Out.ret [D.v (Value.bool false)] [])) ((bin BinOp.add false [] (sl s
 7) (D.v (Value.int IntKind.i64 1))).bind fun z => some (Out.nrm [sl s 0, sl s 1, sl s 2, sl s 3, sl s 4, sl s 5, sl s 6, z, sl s 8, sl s 9]))) (some (Out.ext 2 [sl s 0, sl s 1, sl s 2, sl s 3, sl s 4, sl s 5, sl s 8, sl s
 9]))) [sl s 0, sl s 1, sl s 2, sl s 3, sl s 4, sl s 5, sl s 7, z, sl s 6, sl s 7]).bind fun o => outK o (fun i s => ifN (i.beq 2) ((bin BinOp.add false [] (sl s 7) (D.v (Value.int IntKind.i64 1))).bind fun z => some
 (Out.nrm [sl s 0, sl s 1, sl s 2, sl s 3, sl s 4, sl s 5, sl s 6, z])) (ifN (i.beq 1) ((bin BinOp.add false [] (sl s 7) (D.v (Value.int IntKind.i64 1))).bind fun z => some (Out.nrm [sl s 0, sl s 1, sl s 2, sl s 3, sl s 4,
 sl s 5, sl s 6, z])) (some (Out.ext i [sl s 0])))) fun a b => some (Out.ret a b)) (some (Out.ext 0 [sl s 0]))) [x1, z, y, z_6, z_7, z_8, z_41, D.v (Value.int IntKind.i64 0)]).bind fun o => outK o (fun i s => ifN (i.beq 0)
 (callK (F_spec_DrawNearestFree [sl s 0]) fun rs _u => (tupAt (D.tup rs) 0).bind fun y => (tupAt (tupCut (D.tup rs) 0) 1).bind fun z => (tupAt (tupCut (D.tup rs) 0) 2).bind fun z_42 => callK (F_impl_NearestFree [y, z,
 z_42]) fun rs _u => (tupAt (D.tup rs) 0).bind fun z_43 => (tupAt (D.tup rs) 1).bind fun z_44 => (tupAt (D.tup rs) 2).bind fun z_45 => callK (F_spec_NearestFree [y, z, z_42]) fun rs _u => (tupAt (D.tup rs) 0).bind fun z =>
 (tupAt (D.tup rs) 1).bind fun z_46 => (tupAt (D.tup rs) 2).bind fun z_47 => (bin BinOp.neq true [] z_45 z_47).bind fun z_48 => (gate (D.tup []) z_48 false (some z_43)).bind fun z_49 => (gate (D.tup []) z_48 false (some
 z)).bind fun z_50 => (gate (D.tup []) z_48 false (bin BinOp.neq false [] z_49 z_50)).bind fun z_51 => (pickD z_48 (D.v (Value.bool true)) z_51).bind fun z_52 => (gate (D.tup []) z_52 false (some z_44)).bind fun z_53 =>
 (gate (D.tup []) z_52 false (some z_46)).bind fun z_54 => (gate (D.tup []) z_52 false (bin BinOp.neq false [] z_53 z_54)).bind fun z_55 => (pickD z_52 (D.v (Value.bool true)) z_55).bind fun z_56 => ifD z_56 (some (Out.ret
 [D.v (Value.bool false)] [])) (ifD z_45 ((lenD false y).bind fun z_57 => (loopC (fun s => (bin BinOp.lss false [] (sl s 4) (sl s 3)).bind fun z => ifD z ((Option.map D.ptr (elemD 4 (sl s 2) (sl s 4))).bind fun z => ((ldD
 true 4 z).bind chkV).bind fun z => (stD 4 (D.agg [D.v (Value.string { data := { toList := [] } }), D.v (Value.int IntKind.i64 0), D.v (Value.int IntKind.i64 0), D.v (Value.int IntKind.i64 0)]) (D.ref 0 0) z).bind fun b =>
 (liveD b (D.ref 0 1)).bind fun z => ((atD b z).bind (takeD false 1)).bind fun z => (bin BinOp.eql false [] z (sl s 0)).bind fun z => (gate D.bad z true (liveD b (D.ref 0 2))).bind fun z_58 => (gate (D.tup []) z true ((atD
 b z_58).bind (takeD false 1))).bind fun z_59 => (gate (D.tup []) z true (some (sl s 1))).bind fun z_60 => (gate (D.tup []) z true (bin BinOp.eql false [] z_59 z_60)).bind fun z_61 => (pickD z z_61 (D.v (Value.bool
 false))).bind fun z => ifD z (some (Out.ret [D.v (Value.bool false)] [])) ((bin BinOp.add false [] (sl s 4) (D.v (Value.int IntKind.i64 1))).bind fun z => some (Out.nrm [sl s 0, sl s 1, sl s 2, sl s 3, z]))) (some
 (Out.ext 4 []))) [z, z_46, y, z_57, D.v (Value.int IntKind.i64 0)]).bind fun o => outK o (fun i _u => ifN (i.beq 4) (some (Out.ret [D.v (Value.bool true)] [])) none) fun a b => some (Out.ret a b)) (some (Out.ret [D.v
 (Value.bool true)] [])))) none) fun a b => some (Out.ret a b)) (callK (F_spec_DrawNearestFree [x1]) fun rs _u => (tupAt (D.tup rs) 0).bind fun y => (tupAt (tupCut (D.tup rs) 0) 1).bind fun z => (tupAt (tupCut (D.tup rs)
 0) 2).bind fun z_41 => callK (F_impl_NearestFree [y, z, z_41]) fun rs _u => (tupAt (D.tup rs) 0).bind fun z_42 => (tupAt (D.tup rs) 1).bind fun z_43 => (tupAt (D.tup rs) 2).bind fun z_44 => callK (F_spec_NearestFree [y,
 z, z_41]) fun rs _u => (tupAt (D.tup rs) 0).bind fun z => (tupAt (D.tup rs) 1).bind fun z_45 => (tupAt (D.tup rs) 2).bind fun z_46 => (bin BinOp.neq true [] z_44 z_46).bind fun z_47 => (gate (D.tup []) z_47 false (some
 z_42)).bind fun z_48 => (gate (D.tup []) z_47 false (some z)).bind fun z_49 => (gate (D.tup []) z_47 false (bin BinOp.neq false [] z_48 z_49)).bind fun z_50 => (pickD z_47 (D.v (Value.bool true)) z_50).bind fun z_51 =>
 (gate (D.tup []) z_51 false (some z_43)).bind fun z_52 => (gate (D.tup []) z_51 false (some z_45)).bind fun z_53 => (gate (D.tup []) z_51 false (bin BinOp.neq false [] z_52 z_53)).bind fun z_54 => (pickD z_51 (D.v
 (Value.bool true)) z_54).bind fun z_55 => ifD z_55 (some (Out.ret [D.v (Value.bool false)] [])) (ifD z_44 ((lenD false y).bind fun z_56 => (loopC (fun s => (bin BinOp.lss false [] (sl s 4) (sl s 3)).bind fun z => ifD z
 ((Option.map D.ptr (elemD 4 (sl s 2) (sl s 4))).bind fun z => ((ldD true 4 z).bind chkV).bind fun z => (stD 4 (D.agg [D.v (Value.string { data := { toList := [] } }), D.v (Value.int IntKind.i64 0), D.v (Value.int
 IntKind.i64 0), D.v (Value.int IntKind.i64 0)]) (D.ref 0 0) z).bind fun b => (liveD b (D.ref 0 1)).bind fun z => ((atD b z).bind (takeD false 1)).bind fun z => (bin BinOp.eql false [] z (sl s 0)).bind fun z => (gate D.bad
 z true (liveD b (D.ref 0 2))).bind fun z_57 => (gate (D.tup []) z true ((atD b z_57).bind (takeD false 1))).bind fun z_58 => (gate (D.tup []) z true (some (sl s 1))).bind fun z_59 => (gate (D.tup []) z true (bin BinOp.eql
 false [] z_58 z_59)).bind fun z_60 => (pickD z z_60 (D.v (Value.bool false))).bind fun z => ifD z (some (Out.ret [D.v (Value.bool false)] [])) ((bin BinOp.add false [] (sl s 4) (D.v (Value.int IntKind.i64 1))).bind fun
 z => some (Out.nrm [sl s 0, sl s 1, sl s 2, sl s 3, z]))) (some (Out.ext 4 []))) [z, z_45, y, z_56, D.v (Value.int IntKind.i64 0)]).bind fun o => outK o (fun i _u => ifN (i.beq 4) (some (Out.ret [D.v (Value.bool true)]
 [])) none) fun a b => some (Out.ret a b)) (some (Out.ret [D.v (Value.bool true)] []))))))) := by kernel_rfl
end Go.Proofs.Ytcnkgmbnmndahaa
