/-
  What the functions compute: their evaluated texts, printed.
-/
import Derived.Test.YtlphibidnkjpdaaDoorRows
import Derived.Test.YtlphibidnkjpdaaDoorTie
import Derived.Test.YtlphibidnkjpdaaDoorCards
import Derived.Test.YtlphibidnkjpdaaDoorM6
import Derived.Lib.IndexBytes
import Derived.Laws.RangeString
import Derived.Laws.Bits64b
namespace Go.Proofs.YtlphibidnkjpdaaDoor
open Go Go.V
theorem t_spec_l1Cur_melt (x0 : D) : F_spec_l1Cur_melt [x0] =
  ((liveD x0 (D.ref 0 0)).bind fun z => (ref0 z x0).bind fun i => (liveD i i).bind fun i => callK (F_spec_l1Cur_pick [i, D.v (Value.int IntKind.i64 100)]) fun rs us => (liveD (sl us 0) (D.ref 0 0)).bind fun z =>
 (ref0 z (sl us 0)).bind fun i => (liveD i i).bind fun i => callK (F_spec_l1Cur_pick [i, D.v (Value.int IntKind.i64 20)]) fun rs_1 us => (liveD (sl us 0) (D.ref 0 0)).bind fun z => (ref0 z (sl us 0)).bind fun i =>
 (liveD i i).bind fun i => callK (F_spec_l1Cur_pick [i, D.v (Value.int IntKind.i64 30)]) fun rs_2 us => (bldD [(0, 1), (1, 1), (2, 1)] [D.v (Value.int IntKind.i64 0), D.v (Value.int IntKind.i64 0),
 D.v (Value.int IntKind.i64 0)] [sl rs 0, sl rs_1 0, sl rs_2 0]).bind fun z => (stD 3 (D.agg [D.v (Value.int IntKind.i64 0), D.v (Value.int IntKind.i64 0), D.v (Value.int IntKind.i64 0)]) (D.ref 0 0) z).bind fun b =>
 (liveD (sl us 0) (D.ref 0 0)).bind fun z => (ref0 z (sl us 0)).bind fun i => (liveD i i).bind fun i => callK (F_spec_l1Cur_one [i, D.v (Value.int IntKind.i64 8)]) fun rs us => ifD (sl rs 0)
 ((liveD (sl us 0) (D.ref 0 0)).bind fun z => (mkArr 1 [D.v (Value.int IntKind.i64 1000000), D.v (Value.int IntKind.i64 0), D.v (Value.int IntKind.i64 500000)]).bind fun a => (ref0 z (sl us 0)).bind fun i =>
 (liveD i i).bind fun i => callK (F_spec_l1Cur_among [i, a]) fun rs us => (liveD b (D.ref 0 0)).bind fun z => (stD 1 b z (sl rs 0)).bind fun b => (fldD true 3 0 b).bind fun z => (stD 3 (D.agg
 [D.v (Value.int IntKind.i64 0), D.v (Value.int IntKind.i64 0), D.v (Value.int IntKind.i64 0)]) (D.ref 0 0) z).bind fun b => (fldD true 3 0 b).bind fun y => (liveD (sl us 0) (sl us 0)).bind fun _u =>
 some (Out.ret [y] [sl us 0])) ((fldD true 3 0 b).bind fun z => (stD 3 (D.agg [D.v (Value.int IntKind.i64 0), D.v (Value.int IntKind.i64 0), D.v (Value.int IntKind.i64 0)]) (D.ref 0 0) z).bind fun b =>
 (fldD true 3 0 b).bind fun y => (liveD (sl us 0) (sl us 0)).bind fun _u => some (Out.ret [y] [sl us 0]))) := by kernel_rfl
theorem t_spec_l1Cur_anyMelt (x0 : D) : F_spec_l1Cur_anyMelt [x0] =
  ((liveD x0 (D.ref 0 0)).bind fun z => (ref0 z x0).bind fun i => (liveD i i).bind fun i => callK (F_spec_l1Cur_melt [i]) fun rs us =>
 (stD 3 (D.agg [D.v (Value.int IntKind.i64 0), D.v (Value.int IntKind.i64 0), D.v (Value.int IntKind.i64 0)]) (D.ref 0 0) (sl rs 0)).bind fun b => (liveD (sl us 0) (D.ref 0 0)).bind fun z =>
 (ref0 z (sl us 0)).bind fun i => (liveD i i).bind fun i => callK (F_spec_l1Cur_pick [i, D.v (Value.int IntKind.i64 24)]) fun rs us => (bin BinOp.eql false [] (sl rs 0) (D.v (Value.int IntKind.i64 0))).bind fun z => ifD z
 ((liveD (sl us 0) (D.ref 0 0)).bind fun z => (mkArr 1 [D.v (Value.int IntKind.i64 (-1)), D.v (Value.int IntKind.i64 1000000), D.v (Value.int IntKind.i64 1000001), D.v (Value.int IntKind.i64 (-9223372036854775808))]).bind
 fun a => (ref0 z (sl us 0)).bind fun i => (liveD i i).bind fun i => callK (F_spec_l1Cur_among [i, a]) fun rs us => (liveD b (D.ref 0 0)).bind fun z => (stD 1 b z (sl rs 0)).bind fun b => (fldD true 3 0 b).bind fun z =>
 (stD 3 (D.agg [D.v (Value.int IntKind.i64 0), D.v (Value.int IntKind.i64 0), D.v (Value.int IntKind.i64 0)]) (D.ref 0 0) z).bind fun b => (fldD true 3 0 b).bind fun y =>
 (liveD (sl us 0) (sl us 0)).bind fun _u => some (Out.ret [y] [sl us 0])) ((bin BinOp.eql false [] (sl rs 0) (D.v (Value.int IntKind.i64 1))).bind fun z => ifD z ((liveD (sl us 0) (D.ref 0 0)).bind fun z => (mkArr 1
 [D.v (Value.int IntKind.i64 (-1)), D.v (Value.int IntKind.i64 1000000), D.v (Value.int IntKind.i64 1000001)]).bind fun a => (ref0 z (sl us 0)).bind fun i => (liveD i i).bind fun i =>
 callK (F_spec_l1Cur_among [i, a]) fun rs us => (liveD b (D.ref 0 1)).bind fun z => (stD 1 b z (sl rs 0)).bind fun b => (fldD true 3 0 b).bind fun z => (stD 3 (D.agg
 [D.v (Value.int IntKind.i64 0), D.v (Value.int IntKind.i64 0), D.v (Value.int IntKind.i64 0)]) (D.ref 0 0) z).bind fun b => (fldD true 3 0 b).bind fun y =>
 (liveD (sl us 0) (sl us 0)).bind fun _u => some (Out.ret [y] [sl us 0])) ((bin BinOp.eql false [] (sl rs 0) (D.v (Value.int IntKind.i64 2))).bind fun z => ifD z ((liveD (sl us 0) (D.ref 0 0)).bind fun z => (mkArr 1
 [D.v (Value.int IntKind.i64 (-1)), D.v (Value.int IntKind.i64 1000000), D.v (Value.int IntKind.i64 1000001)]).bind fun a => (ref0 z (sl us 0)).bind fun i => (liveD i i).bind fun i =>
 callK (F_spec_l1Cur_among [i, a]) fun rs us => (liveD b (D.ref 0 2)).bind fun z => (stD 1 b z (sl rs 0)).bind fun b => (fldD true 3 0 b).bind fun z => (stD 3 (D.agg
 [D.v (Value.int IntKind.i64 0), D.v (Value.int IntKind.i64 0), D.v (Value.int IntKind.i64 0)]) (D.ref 0 0) z).bind fun b => (fldD true 3 0 b).bind fun y => (liveD (sl us 0) (sl us 0)).bind fun _u =>
 some (Out.ret [y] [sl us 0])) ((bin BinOp.eql false [] (sl rs 0) (D.v (Value.int IntKind.i64 3))).bind fun z => ifD z ((bldD [] [D.v (Value.int IntKind.i64 0), D.v (Value.int IntKind.i64 0), D.v (Value.int IntKind.i64 0)]
 []).bind fun z => (stD 3 (D.agg [D.v (Value.int IntKind.i64 0), D.v (Value.int IntKind.i64 0), D.v (Value.int IntKind.i64 0)]) (D.ref 0 0) z).bind fun b => (fldD true 3 0 b).bind fun y =>
 (liveD (sl us 0) (sl us 0)).bind fun _u => some (Out.ret [y] [sl us 0])) ((fldD true 3 0 b).bind fun z => (stD 3 (D.agg [D.v (Value.int IntKind.i64 0), D.v (Value.int IntKind.i64 0), D.v (Value.int IntKind.i64 0)])
 (D.ref 0 0) z).bind fun b => (fldD true 3 0 b).bind fun y => (liveD (sl us 0) (sl us 0)).bind fun _u => some (Out.ret [y] [sl us 0])))))) := by kernel_rfl
theorem t_spec_meParts (x0 : D) : F_spec_meParts [x0] =
  ((boxD 3 x0).bind fun y => (liveD y (D.ref 0 0)).bind fun z => ((atD y z).bind (takeD false 1)).bind fun z => (liveD y (D.ref 0 1)).bind fun z_1 => ((atD y z_1).bind (takeD false 1)).bind fun z_2 =>
 (liveD y (D.ref 0 2)).bind fun z_3 => ((atD y z_3).bind (takeD false 1)).bind fun z_4 => (mkArr 1 [z, z_2, z_4]).bind fun a => some (Out.ret [a] [])) := by kernel_rfl
theorem t_spec_meGood (x0 : D) : F_spec_meGood [x0] =
  ((boxD 3 x0).bind fun y => (fldD true 3 0 y).bind fun z => callK (F_spec_meParts [z]) fun rs _u => callK (F_spec_l1All [sl rs 0, D.v (Value.int IntKind.i64 0), D.v (Value.int IntKind.i64 1000000)]) fun rs _u =>
 some (Out.ret [sl rs 0] [])) := by kernel_rfl
theorem t_spec_meGrams (x0 : D) : F_spec_meGrams [x0] =
  ((boxD 3 x0).bind fun y => (liveD y (D.ref 0 0)).bind fun z => ((atD y z).bind (takeD false 1)).bind fun z => (liveD y (D.ref 0 1)).bind fun z_1 => ((atD y z_1).bind (takeD false 1)).bind fun z_2 =>
 (bin BinOp.add false [] z z_2).bind fun z => (liveD y (D.ref 0 2)).bind fun z_3 => ((atD y z_3).bind (takeD false 1)).bind fun z_4 => (bin BinOp.add false [] z z_4).bind fun z => some (Out.ret [z] [])) := by kernel_rfl
theorem t_spec_DrawTakeMelt (x0 : D) : F_spec_DrawTakeMelt [x0] =
  ((bldD [(0, 1)] [D.arr 1 [], D.v (Value.int IntKind.i64 0), D.v (Value.int IntKind.u64 0)] [x0]).bind fun z => (boxD 3 z).bind fun y => (liveD y (D.ref 0 0)).bind fun z => (liveD z z).bind fun z_1 =>
 (ref0 z_1 y).bind fun i => (liveD i i).bind fun i => callK (F_spec_l1Cur_anyMelt [i]) fun rs us => (stD 3 (D.agg [D.v (Value.int IntKind.i64 0), D.v (Value.int IntKind.i64 0), D.v (Value.int IntKind.i64 0)])
 (D.ref 0 0) (sl rs 0)).bind fun b => (fldD true 3 0 b).bind fun z_2 => callK (F_spec_meGood [z_2]) fun rs _u => (gate D.bad (sl rs 0) true (liveD z z)).bind fun z_3 => gateC (sl rs 0) true
 ((ref0 z_3 (sl us 0)).bind fun i => (liveD i i).bind fun i => callK (F_spec_l1Cur_one [i, D.v (Value.int IntKind.i64 3)]) fun rs us => some (Out.nrm [sl rs 0, sl us 0])) [D.tup [], sl us 0] fun outs =>
 (gate (D.tup []) (sl rs 0) true (un UnOp.not (sl outs 0))).bind fun z_4 => (pickD (sl rs 0) z_4 (D.v (Value.bool false))).bind fun z_5 => ifD z_5 ((fldD true 3 0 b).bind fun z_6 => (liveD z z).bind fun z =>
 (fldD true 3 0 b).bind fun z_7 => callK (F_spec_meGrams [z_7]) fun rs _u => (fldD true 3 0 b).bind fun z_8 => callK (F_spec_meGrams [z_8]) fun rs_1 _u =>
 (bin BinOp.quo false [] (sl rs_1 0) (D.v (Value.int IntKind.i64 2))).bind fun z_9 => (fldD true 3 0 b).bind fun z_10 => callK (F_spec_meGrams [z_10]) fun rs_2 _u => (bin BinOp.sub false [] (sl rs_2 0)
 (D.v (Value.int IntKind.i64 1))).bind fun z_11 => (fldD true 3 0 b).bind fun z_12 => callK (F_spec_meGrams [z_12]) fun rs_3 _u => (bin BinOp.add false [] (sl rs_3 0) (D.v (Value.int IntKind.i64 1))).bind fun z_13 =>
 (fldD true 3 0 b).bind fun z_14 => callK (F_spec_meGrams [z_14]) fun rs_4 _u => (bin BinOp.quo false [] (sl rs_4 0) (D.v (Value.int IntKind.i64 3))).bind fun z_15 => (mkArr 1 [D.v (Value.int IntKind.i64 0), sl rs 0, z_9,
 z_11, z_13, z_15]).bind fun a => (ref0 z (sl outs 1)).bind fun i => (liveD i i).bind fun i => callK (F_spec_l1Cur_among [i, a]) fun rs _u => (stD 3 (D.agg [D.v (Value.int IntKind.i64 0), D.v (Value.int IntKind.i64 0),
 D.v (Value.int IntKind.i64 0)]) (D.ref 0 0) z_6).bind fun b => (fldD true 3 0 b).bind fun y => some (Out.ret [y, sl rs 0] [])) ((fldD true 3 0 b).bind fun z_6 => (liveD z z).bind fun z => (mkArr 1
 [D.v (Value.int IntKind.i64 0), D.v (Value.int IntKind.i64 1), D.v (Value.int IntKind.i64 10), D.v (Value.int IntKind.i64 50), D.v (Value.int IntKind.i64 (-1))]).bind fun a => (ref0 z (sl outs 1)).bind fun i =>
 (liveD i i).bind fun i => callK (F_spec_l1Cur_among [i, a]) fun rs _u => (stD 3 (D.agg [D.v (Value.int IntKind.i64 0), D.v (Value.int IntKind.i64 0), D.v (Value.int IntKind.i64 0)]) (D.ref 0 0) z_6).bind
 fun b => (fldD true 3 0 b).bind fun y => some (Out.ret [y, sl rs 0] []))) := by kernel_rfl
theorem t_impl_TakeMelt (x0 x1 : D) : F_impl_TakeMelt [x0, x1] =
  ((boxD 3 x0).bind fun y => (fldD true 3 0 y).bind fun z => callK (F_impl_IsMelt [z]) fun rs _u => (un UnOp.not (sl rs 0)).bind fun z => (gate (D.tup []) z false (some x1)).bind fun z_1 =>
 (gate (D.tup []) z false (fldD true 3 0 y)).bind fun z_2 => gateC z false (callK (F_impl_Melt_grams [z_2]) fun rs _u => some (Out.nrm [sl rs 0])) [D.tup []] fun outs => gateC z false
 (callK (F_impl_within [z_1, D.v (Value.int IntKind.i64 0), sl outs 0]) fun rs _u => some (Out.nrm [sl rs 0])) [D.tup []] fun outs => (gate (D.tup []) z false (un UnOp.not (sl outs 0))).bind fun z_3 =>
 (pickD z (D.v (Value.bool true)) z_3).bind fun z => ifD z ((bldD [] [D.v (Value.int IntKind.i64 0), D.v (Value.int IntKind.i64 0), D.v (Value.int IntKind.i64 0)] []).bind fun z => (bldD []
 [D.v (Value.int IntKind.i64 0), D.v (Value.int IntKind.i64 0), D.v (Value.int IntKind.i64 0)] []).bind fun z_4 => (stD 3 (D.agg [D.v (Value.int IntKind.i64 0), D.v (Value.int IntKind.i64 0),
 D.v (Value.int IntKind.i64 0)]) (D.ref 0 0) z).bind fun b => (stD 3 (D.agg [D.v (Value.int IntKind.i64 0), D.v (Value.int IntKind.i64 0), D.v (Value.int IntKind.i64 0)]) (D.ref 0 0) z_4).bind fun b_1 =>
 (fldD true 3 0 b).bind fun y => (fldD true 3 0 b_1).bind fun y_1 => some (Out.ret [y, y_1, D.v (Value.bool false)] [])) ((bldD [] [D.v (Value.int IntKind.i64 0), D.v (Value.int IntKind.i64 0),
 D.v (Value.int IntKind.i64 0)] []).bind fun z => (stD 3 (D.agg [D.v (Value.int IntKind.i64 0), D.v (Value.int IntKind.i64 0), D.v (Value.int IntKind.i64 0)]) (D.ref 0 0) z).bind fun b =>
 (bin BinOp.gtr false [] x1 (D.v (Value.int IntKind.i64 0))).bind fun z => ifD z ((liveD y (D.ref 0 1)).bind fun z => ((atD y z).bind (takeD false 1)).bind fun z => (bin BinOp.mul false [] z x1).bind fun z =>
 (fldD true 3 0 y).bind fun z_4 => callK (F_impl_Melt_grams [z_4]) fun rs _u => (bin BinOp.quo false [] z (sl rs 0)).bind fun z => (liveD y (D.ref 0 2)).bind fun z_5 => ((atD y z_5).bind (takeD false 1)).bind fun z_6 =>
 (bin BinOp.mul false [] z_6 x1).bind fun z_7 => (fldD true 3 0 y).bind fun z_8 => callK (F_impl_Melt_grams [z_8]) fun rs _u => (bin BinOp.quo false [] z_7 (sl rs 0)).bind fun z_9 => (liveD b (D.ref 0 1)).bind fun z_10 =>
 (stD 1 b z_10 z).bind fun b => (liveD b (D.ref 0 2)).bind fun z => (stD 1 b z z_9).bind fun b => (liveD b (D.ref 0 1)).bind fun z => ((atD b z).bind (takeD false 1)).bind fun z =>
 (bin BinOp.sub false [] x1 z).bind fun z => (liveD b (D.ref 0 2)).bind fun z_11 => ((atD b z_11).bind (takeD false 1)).bind fun z_12 => (bin BinOp.sub false [] z z_12).bind fun z => (liveD b (D.ref 0 0)).bind fun z_13 =>
 (stD 1 b z_13 z).bind fun b => (liveD y (D.ref 0 0)).bind fun z => ((atD y z).bind (takeD false 1)).bind fun z => (liveD b (D.ref 0 0)).bind fun z_14 => ((atD b z_14).bind (takeD false 1)).bind fun z_15 =>
 (bin BinOp.sub false [] z z_15).bind fun z => (liveD y (D.ref 0 1)).bind fun z_16 => ((atD y z_16).bind (takeD false 1)).bind fun z_17 => (liveD b (D.ref 0 1)).bind fun z_18 => ((atD b z_18).bind (takeD false 1)).bind
 fun z_19 => (bin BinOp.sub false [] z_17 z_19).bind fun z_20 => (liveD y (D.ref 0 2)).bind fun z_21 => ((atD y z_21).bind (takeD false 1)).bind fun z_22 => (liveD b (D.ref 0 2)).bind fun z_23 => ((atD b z_23).bind (takeD
 false 1)).bind fun z_24 => (bin BinOp.sub false [] z_22 z_24).bind fun z_25 => (bldD [(0, 1), (1, 1), (2, 1)] [D.v (Value.int IntKind.i64 0), D.v (Value.int IntKind.i64 0), D.v (Value.int IntKind.i64 0)] [z, z_20,
 z_25]).bind fun z => (stD 3 (D.agg [D.v (Value.int IntKind.i64 0), D.v (Value.int IntKind.i64 0), D.v (Value.int IntKind.i64 0)]) (D.ref 0 0) z).bind fun b_1 => (fldD true 3 0 b_1).bind fun z => callK (F_impl_IsMelt [z])
 fun rs _u => (un UnOp.not (sl rs 0)).bind fun z => ifD z ((bldD [] [D.v (Value.int IntKind.i64 0), D.v (Value.int IntKind.i64 0), D.v (Value.int IntKind.i64 0)] []).bind fun z => (bldD [] [D.v (Value.int IntKind.i64 0),
 D.v (Value.int IntKind.i64 0), D.v (Value.int IntKind.i64 0)] []).bind fun z_26 => (stD 3 (D.agg [D.v (Value.int IntKind.i64 0), D.v (Value.int IntKind.i64 0), D.v (Value.int IntKind.i64 0)]) (D.ref 0 0) z).bind fun b =>
 (stD 3 (D.agg [D.v (Value.int IntKind.i64 0), D.v (Value.int IntKind.i64 0), D.v (Value.int IntKind.i64 0)]) (D.ref 0 0) z_26).bind fun b_2 => (fldD true 3 0 b).bind fun y => (fldD true 3 0 b_2).bind fun y_1 => some
 (Out.ret [y, y_1, D.v (Value.bool false)] [])) ((fldD true 3 0 b).bind fun z => (fldD true 3 0 b_1).bind fun z_26 => (stD 3 (D.agg [D.v (Value.int IntKind.i64 0), D.v (Value.int IntKind.i64 0), D.v (Value.int IntKind.i64
 0)]) (D.ref 0 0) z).bind fun b => (stD 3 (D.agg [D.v (Value.int IntKind.i64 0), D.v (Value.int IntKind.i64 0), D.v (Value.int IntKind.i64 0)]) (D.ref 0 0) z_26).bind fun b_2 => (fldD true 3 0 b).bind fun y => (fldD true 3
 0 b_2).bind fun y_1 => some (Out.ret [y, y_1, D.v (Value.bool true)] []))) ((liveD y (D.ref 0 0)).bind fun z => ((atD y z).bind (takeD false 1)).bind fun z => (liveD b (D.ref 0 0)).bind fun z_4 =>
 ((atD b z_4).bind (takeD false 1)).bind fun z_5 => (bin BinOp.sub false [] z z_5).bind fun z => (liveD y (D.ref 0 1)).bind fun z_6 => ((atD y z_6).bind (takeD false 1)).bind fun z_7 =>
 (liveD b (D.ref 0 1)).bind fun z_8 => ((atD b z_8).bind (takeD false 1)).bind fun z_9 => (bin BinOp.sub false [] z_7 z_9).bind fun z_10 => (liveD y (D.ref 0 2)).bind fun z_11 =>
 ((atD y z_11).bind (takeD false 1)).bind fun z_12 => (liveD b (D.ref 0 2)).bind fun z_13 => ((atD b z_13).bind (takeD false 1)).bind fun z_14 => (bin BinOp.sub false [] z_12 z_14).bind fun z_15 =>
 (bldD [(0, 1), (1, 1), (2, 1)] [D.v (Value.int IntKind.i64 0), D.v (Value.int IntKind.i64 0), D.v (Value.int IntKind.i64 0)] [z, z_10, z_15]).bind fun z => (stD 3 (D.agg [D.v (Value.int IntKind.i64 0),
 D.v (Value.int IntKind.i64 0), D.v (Value.int IntKind.i64 0)]) (D.ref 0 0) z).bind fun b_1 => (fldD true 3 0 b_1).bind fun z => callK (F_impl_IsMelt [z]) fun rs _u => (un UnOp.not (sl rs 0)).bind fun z => ifD z ((bldD []
 [D.v (Value.int IntKind.i64 0), D.v (Value.int IntKind.i64 0), D.v (Value.int IntKind.i64 0)] []).bind fun z => (bldD [] [D.v (Value.int IntKind.i64 0), D.v (Value.int IntKind.i64 0), D.v (Value.int IntKind.i64 0)]
 []).bind fun z_16 => (stD 3 (D.agg [D.v (Value.int IntKind.i64 0), D.v (Value.int IntKind.i64 0), D.v (Value.int IntKind.i64 0)]) (D.ref 0 0) z).bind fun b => (stD 3 (D.agg [D.v (Value.int IntKind.i64 0),
 D.v (Value.int IntKind.i64 0), D.v (Value.int IntKind.i64 0)]) (D.ref 0 0) z_16).bind fun b_2 => (fldD true 3 0 b).bind fun y => (fldD true 3 0 b_2).bind fun y_1 => some (Out.ret [y, y_1, D.v (Value.bool false)] []))
 ((fldD true 3 0 b).bind fun z => (fldD true 3 0 b_1).bind fun z_16 => (stD 3 (D.agg [D.v (Value.int IntKind.i64 0), D.v (Value.int IntKind.i64 0), D.v (Value.int IntKind.i64 0)]) (D.ref 0 0) z).bind fun b => (stD 3 (D.agg
 [D.v (Value.int IntKind.i64 0), D.v (Value.int IntKind.i64 0), D.v (Value.int IntKind.i64 0)]) (D.ref 0 0) z_16).bind fun b_2 => (fldD true 3 0 b).bind fun y => (fldD true 3 0 b_2).bind fun y_1 => some (Out.ret [y, y_1,
 D.v (Value.bool true)] []))))) := by kernel_rfl
theorem t_spec_TakeMelt (x0 x1 : D) : F_spec_TakeMelt [x0, x1] =
  ((boxD 3 x0).bind fun y => (fldD true 3 0 y).bind fun z => callK (F_spec_meGood [z]) fun rs _u => (un UnOp.not (sl rs 0)).bind fun z => (gate (D.tup []) z false (some x1)).bind fun z_1 =>
 (gate (D.tup []) z false (fldD true 3 0 y)).bind fun z_2 => gateC z false (callK (F_spec_meGrams [z_2]) fun rs _u => some (Out.nrm [sl rs 0])) [D.tup []] fun outs => gateC z false
 (callK (F_spec_l1In [z_1, D.v (Value.int IntKind.i64 0), sl outs 0]) fun rs _u => some (Out.nrm [sl rs 0])) [D.tup []] fun outs => (gate (D.tup []) z false (un UnOp.not (sl outs 0))).bind fun z_3 =>
 (pickD z (D.v (Value.bool true)) z_3).bind fun z => ifD z ((bldD [] [D.v (Value.int IntKind.i64 0), D.v (Value.int IntKind.i64 0), D.v (Value.int IntKind.i64 0)] []).bind fun z => (bldD []
 [D.v (Value.int IntKind.i64 0), D.v (Value.int IntKind.i64 0), D.v (Value.int IntKind.i64 0)] []).bind fun z_4 => (stD 3 (D.agg [D.v (Value.int IntKind.i64 0), D.v (Value.int IntKind.i64 0),
 D.v (Value.int IntKind.i64 0)]) (D.ref 0 0) z).bind fun b => (stD 3 (D.agg [D.v (Value.int IntKind.i64 0), D.v (Value.int IntKind.i64 0), D.v (Value.int IntKind.i64 0)]) (D.ref 0 0) z_4).bind fun b_1 =>
 (fldD true 3 0 b).bind fun y => (fldD true 3 0 b_1).bind fun y_1 => some (Out.ret [y, y_1, D.v (Value.bool false)] [])) ((fldD true 3 0 y).bind fun z => callK (F_spec_meGrams [z]) fun rs _u =>
 (bin BinOp.gtr false [] (sl rs 0) (D.v (Value.int IntKind.i64 0))).bind fun z => ifD z ((liveD y (D.ref 0 1)).bind fun z => ((atD y z).bind (takeD false 1)).bind fun z => (bin BinOp.mul false [] z x1).bind fun z =>
 (bin BinOp.quo false [] z (sl rs 0)).bind fun z => (liveD (D.agg [D.v (Value.int IntKind.i64 0), D.v (Value.int IntKind.i64 0), D.v (Value.int IntKind.i64 0)]) (D.ref 0 1)).bind fun z_4 => (stD 1 (D.agg
 [D.v (Value.int IntKind.i64 0), D.v (Value.int IntKind.i64 0), D.v (Value.int IntKind.i64 0)]) z_4 z).bind fun b => (liveD y (D.ref 0 2)).bind fun z => ((atD y z).bind (takeD false 1)).bind fun z =>
 (bin BinOp.mul false [] z x1).bind fun z => (bin BinOp.quo false [] z (sl rs 0)).bind fun z => (liveD b (D.ref 0 2)).bind fun z_5 => (stD 1 b z_5 z).bind fun b => (liveD b (D.ref 0 1)).bind fun z =>
 ((atD b z).bind (takeD false 1)).bind fun z => (bin BinOp.sub false [] x1 z).bind fun z => (liveD b (D.ref 0 2)).bind fun z_6 => ((atD b z_6).bind (takeD false 1)).bind fun z_7 =>
 (bin BinOp.sub false [] z z_7).bind fun z => (liveD b (D.ref 0 0)).bind fun z_8 => (stD 1 b z_8 z).bind fun b => (liveD b (D.ref 0 0)).bind fun z => ((atD b z).bind (takeD false 1)).bind fun z =>
 (liveD y (D.ref 0 0)).bind fun z_9 => ((atD y z_9).bind (takeD false 1)).bind fun z_10 => (bin BinOp.gtr false [] z z_10).bind fun z => ifD z ((bldD [] [D.v (Value.int IntKind.i64 0), D.v (Value.int IntKind.i64 0), D.v
 (Value.int IntKind.i64 0)] []).bind fun z => (bldD [] [D.v (Value.int IntKind.i64 0), D.v (Value.int IntKind.i64 0), D.v (Value.int IntKind.i64 0)] []).bind fun z_11 => (stD 3 (D.agg [D.v (Value.int IntKind.i64 0), D.v
 (Value.int IntKind.i64 0), D.v (Value.int IntKind.i64 0)]) (D.ref 0 0) z).bind fun b => (stD 3 (D.agg [D.v (Value.int IntKind.i64 0), D.v (Value.int IntKind.i64 0), D.v (Value.int IntKind.i64 0)]) (D.ref 0 0) z_11).bind
 fun b_1 => (fldD true 3 0 b).bind fun y => (fldD true 3 0 b_1).bind fun y_1 => some (Out.ret [y, y_1, D.v (Value.bool false)] [])) ((fldD true 3 0 b).bind fun z => (liveD y (D.ref 0 0)).bind fun z_11 => ((atD y z_11).bind
 (takeD false 1)).bind fun z_12 => (liveD b (D.ref 0 0)).bind fun z_13 => ((atD b z_13).bind (takeD false 1)).bind fun z_14 => (bin BinOp.sub false [] z_12 z_14).bind fun z_15 => (liveD y (D.ref 0 1)).bind fun z_16 =>
 ((atD y z_16).bind (takeD false 1)).bind fun z_17 => (liveD b (D.ref 0 1)).bind fun z_18 => ((atD b z_18).bind (takeD false 1)).bind fun z_19 => (bin BinOp.sub false [] z_17 z_19).bind fun z_20 => (liveD y (D.ref 0
 2)).bind fun z_21 => ((atD y z_21).bind (takeD false 1)).bind fun z_22 => (liveD b (D.ref 0 2)).bind fun z_23 => ((atD b z_23).bind (takeD false 1)).bind fun z_24 => (bin BinOp.sub false [] z_22 z_24).bind fun z_25 =>
 (bldD [(0, 1), (1, 1), (2, 1)] [D.v (Value.int IntKind.i64 0), D.v (Value.int IntKind.i64 0), D.v (Value.int IntKind.i64 0)] [z_15, z_20, z_25]).bind fun z_26 => (stD 3 (D.agg [D.v (Value.int IntKind.i64 0), D.v
 (Value.int IntKind.i64 0), D.v (Value.int IntKind.i64 0)]) (D.ref 0 0) z).bind fun b => (stD 3 (D.agg [D.v (Value.int IntKind.i64 0), D.v (Value.int IntKind.i64 0), D.v (Value.int IntKind.i64 0)]) (D.ref 0 0) z_26).bind
 fun b_1 => (fldD true 3 0 b).bind fun y => (fldD true 3 0 b_1).bind fun y_1 => some (Out.ret [y, y_1, D.v (Value.bool true)] []))) ((liveD (D.agg [D.v (Value.int IntKind.i64 0), D.v (Value.int IntKind.i64 0),
 D.v (Value.int IntKind.i64 0)]) (D.ref 0 1)).bind fun z => ((atD (D.agg [D.v (Value.int IntKind.i64 0), D.v (Value.int IntKind.i64 0), D.v (Value.int IntKind.i64 0)]) z).bind (takeD false 1)).bind fun z =>
 (bin BinOp.sub false [] x1 z).bind fun z => (liveD (D.agg [D.v (Value.int IntKind.i64 0), D.v (Value.int IntKind.i64 0), D.v (Value.int IntKind.i64 0)]) (D.ref 0 2)).bind fun z_4 => ((atD (D.agg
 [D.v (Value.int IntKind.i64 0), D.v (Value.int IntKind.i64 0), D.v (Value.int IntKind.i64 0)]) z_4).bind (takeD false 1)).bind fun z_5 => (bin BinOp.sub false [] z z_5).bind fun z => (liveD (D.agg
 [D.v (Value.int IntKind.i64 0), D.v (Value.int IntKind.i64 0), D.v (Value.int IntKind.i64 0)]) (D.ref 0 0)).bind fun z_6 => (stD 1 (D.agg [D.v (Value.int IntKind.i64 0), D.v (Value.int IntKind.i64 0),
 D.v (Value.int IntKind.i64 0)]) z_6 z).bind fun b => (liveD b (D.ref 0 0)).bind fun z => ((atD b z).bind (takeD false 1)).bind fun z => (liveD y (D.ref 0 0)).bind fun z_7 =>
 ((atD y z_7).bind (takeD false 1)).bind fun z_8 => (bin BinOp.gtr false [] z z_8).bind fun z => ifD z ((bldD [] [D.v (Value.int IntKind.i64 0), D.v (Value.int IntKind.i64 0), D.v (Value.int IntKind.i64 0)] []).bind
 fun z => (bldD [] [D.v (Value.int IntKind.i64 0), D.v (Value.int IntKind.i64 0), D.v (Value.int IntKind.i64 0)] []).bind fun z_9 => (stD 3 (D.agg [D.v (Value.int IntKind.i64 0), D.v (Value.int IntKind.i64 0),
 D.v (Value.int IntKind.i64 0)]) (D.ref 0 0) z).bind fun b => (stD 3 (D.agg [D.v (Value.int IntKind.i64 0), D.v (Value.int IntKind.i64 0), D.v (Value.int IntKind.i64 0)]) (D.ref 0 0) z_9).bind fun b_1 =>
 (fldD true 3 0 b).bind fun y => (fldD true 3 0 b_1).bind fun y_1 => some (Out.ret [y, y_1, D.v (Value.bool false)] [])) ((fldD true 3 0 b).bind fun z => (liveD y (D.ref 0 0)).bind fun z_9 =>
 ((atD y z_9).bind (takeD false 1)).bind fun z_10 => (liveD b (D.ref 0 0)).bind fun z_11 => ((atD b z_11).bind (takeD false 1)).bind fun z_12 => (bin BinOp.sub false [] z_10 z_12).bind fun z_13 =>
 (liveD y (D.ref 0 1)).bind fun z_14 => ((atD y z_14).bind (takeD false 1)).bind fun z_15 => (liveD b (D.ref 0 1)).bind fun z_16 => ((atD b z_16).bind (takeD false 1)).bind fun z_17 =>
 (bin BinOp.sub false [] z_15 z_17).bind fun z_18 => (liveD y (D.ref 0 2)).bind fun z_19 => ((atD y z_19).bind (takeD false 1)).bind fun z_20 => (liveD b (D.ref 0 2)).bind fun z_21 => ((atD b z_21).bind
 (takeD false 1)).bind fun z_22 => (bin BinOp.sub false [] z_20 z_22).bind fun z_23 => (bldD [(0, 1), (1, 1), (2, 1)] [D.v (Value.int IntKind.i64 0), D.v (Value.int IntKind.i64 0), D.v (Value.int IntKind.i64 0)]
 [z_13, z_18, z_23]).bind fun z_24 => (stD 3 (D.agg [D.v (Value.int IntKind.i64 0), D.v (Value.int IntKind.i64 0), D.v (Value.int IntKind.i64 0)]) (D.ref 0 0) z).bind fun b => (stD 3 (D.agg [D.v (Value.int IntKind.i64 0),
 D.v (Value.int IntKind.i64 0), D.v (Value.int IntKind.i64 0)]) (D.ref 0 0) z_24).bind fun b_1 => (fldD true 3 0 b).bind fun y => (fldD true 3 0 b_1).bind fun y_1 => some (Out.ret [y, y_1, D.v (Value.bool true)] []))))) := by kernel_rfl
theorem t_impl_GramsOf (x0 : D) : F_impl_GramsOf [x0] =
  ((boxD 3 x0).bind fun y => (fldD true 3 0 y).bind fun z => callK (F_impl_IsMelt [z]) fun rs _u => (un UnOp.not (sl rs 0)).bind fun z => ifD z (some (Out.ret [D.v (Value.int IntKind.i64 0), D.v (Value.bool false)] []))
 ((fldD true 3 0 y).bind fun z => callK (F_impl_Melt_grams [z]) fun rs _u => some (Out.ret [sl rs 0, D.v (Value.bool true)] []))) := by kernel_rfl
theorem t_impl_Melt_plus (x0 x1 : D) : F_impl_Melt_plus [x0, x1] =
  ((boxD 3 x0).bind fun y => (boxD 3 x1).bind fun y_1 => (liveD y (D.ref 0 0)).bind fun z => ((atD y z).bind (takeD false 1)).bind fun z => (liveD y_1 (D.ref 0 0)).bind fun z_1 =>
 ((atD y_1 z_1).bind (takeD false 1)).bind fun z_2 => (bin BinOp.add false [] z z_2).bind fun z => (liveD y (D.ref 0 1)).bind fun z_3 => ((atD y z_3).bind (takeD false 1)).bind fun z_4 =>
 (liveD y_1 (D.ref 0 1)).bind fun z_5 => ((atD y_1 z_5).bind (takeD false 1)).bind fun z_6 => (bin BinOp.add false [] z_4 z_6).bind fun z_7 => (liveD y (D.ref 0 2)).bind fun z_8 =>
 ((atD y z_8).bind (takeD false 1)).bind fun z_9 => (liveD y_1 (D.ref 0 2)).bind fun z_10 => ((atD y_1 z_10).bind (takeD false 1)).bind fun z_11 => (bin BinOp.add false [] z_9 z_11).bind fun z_12 =>
 (bldD [(0, 1), (1, 1), (2, 1)] [D.v (Value.int IntKind.i64 0), D.v (Value.int IntKind.i64 0), D.v (Value.int IntKind.i64 0)] [z, z_7, z_12]).bind fun z => (stD 3 (D.agg
 [D.v (Value.int IntKind.i64 0), D.v (Value.int IntKind.i64 0), D.v (Value.int IntKind.i64 0)]) (D.ref 0 0) z).bind fun b => (fldD true 3 0 b).bind fun y => some (Out.ret [y] [])) := by kernel_rfl
theorem t_impl_JoinMelts (x0 : D) : F_impl_JoinMelts [x0] =
  ((bldD [] [D.v (Value.int IntKind.i64 0), D.v (Value.int IntKind.i64 0), D.v (Value.int IntKind.i64 0)] []).bind fun z =>
 (stD 3 (D.agg [D.v (Value.int IntKind.i64 0), D.v (Value.int IntKind.i64 0), D.v (Value.int IntKind.i64 0)]) (D.ref 0 0) z).bind fun b => (lenD false x0).bind fun z => (loopC (fun s =>
 (bin BinOp.lss false [] (sl s 5) (sl s 4)).bind fun z => ifD z ((Option.map D.ptr (elemD 3 (sl s 3) (sl s 5))).bind fun z => ((ldD true 3 z).bind chkV).bind fun z => (stD 3 (D.agg
 [D.v (Value.int IntKind.i64 0), D.v (Value.int IntKind.i64 0), D.v (Value.int IntKind.i64 0)]) (D.ref 0 0) z).bind fun b => (fldD true 3 0 b).bind fun z => callK (F_impl_IsMelt [z]) fun rs _u =>
 (un UnOp.not (sl rs 0)).bind fun z => ifD z ((bldD [] [D.v (Value.int IntKind.i64 0), D.v (Value.int IntKind.i64 0), D.v (Value.int IntKind.i64 0)] []).bind fun z => (stD 3 (sl s 1) (D.ref 0 0) z).bind fun b =>
 (fldD true 3 0 b).bind fun y => some (Out.ret [y, D.v (Value.bool false)] [])) ((fldD true 3 0 (sl s 2)).bind fun z => (fldD true 3 0 b).bind fun z_1 => callK (F_impl_Melt_plus [z, z_1]) fun rs _u =>
 (stD 3 (sl s 2) (D.ref 0 0) (sl rs 0)).bind fun b => (bin BinOp.add false [] (sl s 5) (D.v (Value.int IntKind.i64 1))).bind fun z => some (Out.nrm [sl s 0, sl s 1, b, sl s 3, sl s 4, z])))
 (some (Out.ext 0 [sl s 0, sl s 1, sl s 2]))) [x0, D.agg [D.v (Value.int IntKind.i64 0), D.v (Value.int IntKind.i64 0), D.v (Value.int IntKind.i64 0)], b, x0, z, D.v (Value.int IntKind.i64 0)]).bind fun o => outK o
 (fun i s => ifN (i.beq 0) ((lenD false (sl s 0)).bind fun z => (bin BinOp.gtr false [] z (D.v (Value.int IntKind.i64 20))).bind fun z => (gate (D.tup []) z false (fldD true 3 0 (sl s 2))).bind fun z_1 =>
 gateC z false (callK (F_impl_IsMelt [z_1]) fun rs _u => some (Out.nrm [sl rs 0])) [D.tup []] fun outs => (gate (D.tup []) z false (un UnOp.not (sl outs 0))).bind fun z_2 =>
 (pickD z (D.v (Value.bool true)) z_2).bind fun z => ifD z ((bldD [] [D.v (Value.int IntKind.i64 0), D.v (Value.int IntKind.i64 0), D.v (Value.int IntKind.i64 0)] []).bind fun z =>
 (stD 3 (sl s 1) (D.ref 0 0) z).bind fun b => (fldD true 3 0 b).bind fun y => some (Out.ret [y, D.v (Value.bool false)] [])) ((fldD true 3 0 (sl s 2)).bind fun z => (stD 3 (sl s 1) (D.ref 0 0) z).bind fun b =>
 (fldD true 3 0 b).bind fun y => some (Out.ret [y, D.v (Value.bool true)] []))) none) fun a b => some (Out.ret a b)) := by kernel_rfl
theorem t_spec_DrawIsMelt (x0 : D) : F_spec_DrawIsMelt [x0] =
  ((bldD [(0, 1)] [D.arr 1 [], D.v (Value.int IntKind.i64 0), D.v (Value.int IntKind.u64 0)] [x0]).bind fun z => (boxD 3 z).bind fun y => (liveD y (D.ref 0 0)).bind fun z => (liveD z z).bind fun z => (ref0 z y).bind fun i =>
 (liveD i i).bind fun i => callK (F_spec_l1Cur_anyMelt [i]) fun rs _u => (stD 3 (D.agg [D.v (Value.int IntKind.i64 0), D.v (Value.int IntKind.i64 0), D.v (Value.int IntKind.i64 0)]) (D.ref 0 0) (sl rs 0)).bind
 fun b => (fldD true 3 0 b).bind fun y => some (Out.ret [y] [])) := by kernel_rfl
theorem t_spec_DrawSharesOf (x0 : D) : F_spec_DrawSharesOf [x0] =
  (callK (F_spec_DrawIsMelt [x0]) fun rs _u => (stD 3 (D.agg [D.v (Value.int IntKind.i64 0), D.v (Value.int IntKind.i64 0), D.v (Value.int IntKind.i64 0)]) (D.ref 0 0) (sl rs 0)).bind
 fun b => (fldD true 3 0 b).bind fun y => some (Out.ret [y] [])) := by kernel_rfl
theorem t_impl_isMetal (x0 : D) : F_impl_isMetal [x0] =
  ((boxD 3 x0).bind fun y => (fldD true 3 0 y).bind fun z => callK (F_impl_IsMelt [z]) fun rs _u => (gate (D.tup []) (sl rs 0) true (fldD true 3 0 y)).bind fun z =>
 gateC (sl rs 0) true (callK (F_impl_Melt_grams [z]) fun rs _u => some (Out.nrm [sl rs 0])) [D.tup []] fun outs => (gate (D.tup []) (sl rs 0) true (bin BinOp.gtr false [] (sl outs 0) (D.v (Value.int IntKind.i64 0)))).bind
 fun z => (pickD (sl rs 0) z (D.v (Value.bool false))).bind fun z => some (Out.ret [z] [])) := by kernel_rfl
theorem t_impl_SharesOf (x0 : D) : F_impl_SharesOf [x0] =
  ((boxD 3 x0).bind fun y => (fldD true 3 0 y).bind fun z => callK (F_impl_isMetal [z]) fun rs _u => (un UnOp.not (sl rs 0)).bind fun z => ifD z ((mkArr 1 []).bind fun a => some (Out.ret [a, D.v (Value.bool false)] []))
 ((fldD true 3 0 y).bind fun z => callK (F_impl_Melt_grams [z]) fun rs _u => (liveD y (D.ref 0 0)).bind fun z => ((atD y z).bind (takeD false 1)).bind fun z =>
 (bin BinOp.mul false [] (D.v (Value.int IntKind.i64 1000)) z).bind fun z => (bin BinOp.quo false [] z (sl rs 0)).bind fun z => (liveD y (D.ref 0 1)).bind fun z_1 => ((atD y z_1).bind (takeD false 1)).bind fun z_2 =>
 (bin BinOp.mul false [] (D.v (Value.int IntKind.i64 1000)) z_2).bind fun z_3 => (bin BinOp.quo false [] z_3 (sl rs 0)).bind fun z_4 => (liveD y (D.ref 0 2)).bind fun z_5 =>
 ((atD y z_5).bind (takeD false 1)).bind fun z_6 => (bin BinOp.mul false [] (D.v (Value.int IntKind.i64 1000)) z_6).bind fun z_7 => (bin BinOp.quo false [] z_7 (sl rs 0)).bind fun z_8 =>
 (mkArr 1 [z, z_4, z_8]).bind fun a => some (Out.ret [a, D.v (Value.bool true)] []))) := by kernel_rfl
theorem t_spec_SharesOf (x0 : D) : F_spec_SharesOf [x0] =
  ((boxD 3 x0).bind fun y => (fldD true 3 0 y).bind fun z => callK (F_spec_meGood [z]) fun rs _u => (un UnOp.not (sl rs 0)).bind fun z => (gate (D.tup []) z false (fldD true 3 0 y)).bind fun z_1 =>
 gateC z false (callK (F_spec_meGrams [z_1]) fun rs _u => some (Out.nrm [sl rs 0])) [D.tup []] fun outs => (gate (D.tup []) z false (bin BinOp.eql false [] (sl outs 0) (D.v (Value.int IntKind.i64 0)))).bind fun z_2 =>
 (pickD z (D.v (Value.bool true)) z_2).bind fun z => ifD z (some (Out.ret [D.arr 1 [], D.v (Value.bool false)] [])) ((fldD true 3 0 y).bind fun z => callK (F_spec_meParts [z]) fun rs _u =>
 (lenD false (sl rs 0)).bind fun z => (loopC (fun s => (bin BinOp.lss false [] (sl s 4) (sl s 3)).bind fun z => ifD z ((Option.map D.ptr (elemD 1 (sl s 2) (sl s 4))).bind fun z => ((ldD false 1 z).bind chkV).bind fun z =>
 (bin BinOp.mul false [] (D.v (Value.int IntKind.i64 1000)) z).bind fun z => (fldD true 3 0 (sl s 0)).bind fun z_3 => callK (F_spec_meGrams [z_3]) fun rs _u => (bin BinOp.quo false [] z (sl rs 0)).bind fun z =>
 (mkArr 1 [z]).bind fun a => (chkA a).bind fun b => (appD 1 8 (sl s 1) b).bind fun y => (bin BinOp.add false [] (sl s 4) (D.v (Value.int IntKind.i64 1))).bind fun z => some (Out.nrm [sl s 0, y, sl s 2, sl s 3, z]))
 (some (Out.ext 0 [sl s 1]))) [y, D.arr 1 [], sl rs 0, z, D.v (Value.int IntKind.i64 0)]).bind fun o => outK o (fun i s => ifN (i.beq 0) (some (Out.ret [sl s 0, D.v (Value.bool true)] [])) none)
 fun a b => some (Out.ret a b))) := by kernel_rfl
theorem t_laws_pSum (x0 : D) : F_laws_pSum [x0] =
  ((lenD false x0).bind fun z => (loopC (fun s => (bin BinOp.lss false [] (sl s 3) (sl s 2)).bind fun z => ifD z ((Option.map D.ptr (elemD 1 (sl s 1) (sl s 3))).bind fun z => ((ldD false 1 z).bind chkV).bind fun z =>
 (bin BinOp.add false [] (sl s 0) z).bind fun z => (bin BinOp.add false [] (sl s 3) (D.v (Value.int IntKind.i64 1))).bind fun z_1 => some (Out.nrm [z, sl s 1, sl s 2, z_1])) (some (Out.ext 0 [sl s 0])))
 [D.v (Value.int IntKind.i64 0), x0, z, D.v (Value.int IntKind.i64 0)]).bind fun o => outK o (fun i s => ifN (i.beq 0) (some (Out.ret [sl s 0] [])) none) fun a b => some (Out.ret a b)) := by kernel_rfl
theorem t_spec_DrawAfterDross (x0 : D) : F_spec_DrawAfterDross [x0] =
  ((bldD [(0, 1)] [D.arr 1 [], D.v (Value.int IntKind.i64 0), D.v (Value.int IntKind.u64 0)] [x0]).bind fun z => (boxD 3 z).bind fun y => (liveD y (D.ref 0 0)).bind fun z => (liveD z z).bind fun z_1 =>
 (ref0 z_1 y).bind fun i => (liveD i i).bind fun i => callK (F_spec_l1Cur_anyMelt [i]) fun rs us => (liveD z z).bind fun z_2 => (liveD z z).bind fun z => (mkArr 1
 [D.v (Value.int IntKind.i64 3), D.v (Value.int IntKind.i64 (-1)), D.v (Value.int IntKind.i64 101)]).bind fun a => (ref0 z (sl us 0)).bind fun i => (liveD i i).bind fun i => callK (F_spec_l1Cur_among [i, a]) fun rs_1 us =>
 (mkArr 1 [D.v (Value.int IntKind.i64 0), D.v (Value.int IntKind.i64 1), D.v (Value.int IntKind.i64 5), D.v (Value.int IntKind.i64 50), D.v (Value.int IntKind.i64 100), sl rs_1 0]).bind fun a =>
 (ref0 z_2 (sl us 0)).bind fun i => (liveD i i).bind fun i => callK (F_spec_l1Cur_among [i, a]) fun rs_2 _u => (stD 3 (D.agg [D.v (Value.int IntKind.i64 0), D.v (Value.int IntKind.i64 0), D.v (Value.int IntKind.i64 0)])
 (D.ref 0 0) (sl rs 0)).bind fun b => (fldD true 3 0 b).bind fun y => some (Out.ret [y, sl rs_2 0] [])) := by kernel_rfl
theorem t_impl_AfterDross_1 (x0 x1 : D) : F_impl_AfterDross_1 [x0, x1] =
  (((ldD false 1 x1).bind chkV).bind fun z => (bin BinOp.mul false [] x0 z).bind fun z => (bin BinOp.add false [] z (D.v (Value.int IntKind.i64 99))).bind fun z =>
 (bin BinOp.quo false [] z (D.v (Value.int IntKind.i64 100))).bind fun z => (bin BinOp.sub false [] x0 z).bind fun z => some (Out.ret [z] [])) := by kernel_rfl
theorem t_impl_AfterDross (x0 x1 : D) : F_impl_AfterDross [x0, x1] =
  ((boxD 3 x0).bind fun y => (boxD 1 x1).bind fun y_1 => (frzD y_1).bind fun y_2 => (fldD true 3 0 y).bind fun z => callK (F_impl_IsMelt [z]) fun rs _u => (un UnOp.not (sl rs 0)).bind fun z =>
 (gate (D.tup []) z false ((ldD false 1 y_2).bind chkV)).bind fun z_1 => gateC z false (callK (F_impl_within [z_1, D.v (Value.int IntKind.i64 0), D.v (Value.int IntKind.i64 100)]) fun rs _u => some (Out.nrm [sl rs 0]))
 [D.tup []] fun outs => (gate (D.tup []) z false (un UnOp.not (sl outs 0))).bind fun z_2 => (pickD z (D.v (Value.bool true)) z_2).bind fun z => ifD z ((bldD [] [D.v (Value.int IntKind.i64 0), D.v (Value.int IntKind.i64 0),
 D.v (Value.int IntKind.i64 0)] []).bind fun z => (stD 3 (D.agg [D.v (Value.int IntKind.i64 0), D.v (Value.int IntKind.i64 0), D.v (Value.int IntKind.i64 0)]) (D.ref 0 0) z).bind fun b => (fldD true 3 0 b).bind fun y =>
 some (Out.ret [y, D.v (Value.int IntKind.i64 0), D.v (Value.bool false)] [])) ((cloD 120 [y_2]).bind fun z => (liveD y (D.ref 0 0)).bind fun z_3 => ((atD y z_3).bind (takeD false 1)).bind fun z_4 =>
 (capsD 120 1 z).bind fun caps => callK (F_impl_AfterDross_1 ([z_4] ++ caps)) fun rs _u => (liveD y (D.ref 0 1)).bind fun z_5 => ((atD y z_5).bind (takeD false 1)).bind fun z_6 => (capsD 120 1 z).bind fun caps =>
 callK (F_impl_AfterDross_1 ([z_6] ++ caps)) fun rs_1 _u => (liveD y (D.ref 0 2)).bind fun z_7 => ((atD y z_7).bind (takeD false 1)).bind fun z_8 => (capsD 120 1 z).bind fun caps =>
 callK (F_impl_AfterDross_1 ([z_8] ++ caps)) fun rs_2 _u => (bldD [(0, 1), (1, 1), (2, 1)] [D.v (Value.int IntKind.i64 0), D.v (Value.int IntKind.i64 0), D.v (Value.int IntKind.i64 0)] [sl rs 0, sl rs_1 0, sl rs_2 0]).bind
 fun z => (stD 3 (D.agg [D.v (Value.int IntKind.i64 0), D.v (Value.int IntKind.i64 0), D.v (Value.int IntKind.i64 0)]) (D.ref 0 0) z).bind fun b => (fldD true 3 0 b).bind fun z => (fldD true 3 0 y).bind fun z_9 =>
 callK (F_impl_Melt_grams [z_9]) fun rs _u => (fldD true 3 0 b).bind fun z_10 => callK (F_impl_Melt_grams [z_10]) fun rs_3 _u => (bin BinOp.sub false [] (sl rs 0) (sl rs_3 0)).bind fun z_11 => (stD 3 (D.agg
 [D.v (Value.int IntKind.i64 0), D.v (Value.int IntKind.i64 0), D.v (Value.int IntKind.i64 0)]) (D.ref 0 0) z).bind fun b => (fldD true 3 0 b).bind fun y => some (Out.ret [y, z_11, D.v (Value.bool true)] []))) := by kernel_rfl
theorem t_spec_l1Most (x0 x1 : D) : F_spec_l1Most [x0, x1] =
  ((bin BinOp.gtr false [] x0 x1).bind fun z => ifD z (some (Out.ret [x0] [])) (some (Out.ret [x1] []))) := by kernel_rfl
theorem t_spec_meUp (x0 x1 : D) : F_spec_meUp [x0, x1] =
  ((bin BinOp.add false [] x0 x1).bind fun z => (bin BinOp.sub false [] z (D.v (Value.int IntKind.i64 1))).bind fun z => (bin BinOp.quo false [] z x1).bind fun z =>
 callK (F_spec_l1Most [D.v (Value.int IntKind.i64 0), z]) fun rs _u => some (Out.ret [sl rs 0] [])) := by kernel_rfl
theorem t_spec_AfterDross (x0 x1 : D) : F_spec_AfterDross [x0, x1] =
  ((boxD 3 x0).bind fun y => (fldD true 3 0 y).bind fun z => callK (F_spec_meGood [z]) fun rs _u => (un UnOp.not (sl rs 0)).bind fun z => (gate (D.tup []) z false (some x1)).bind fun z_1 => gateC z false
 (callK (F_spec_l1In [z_1, D.v (Value.int IntKind.i64 0), D.v (Value.int IntKind.i64 100)]) fun rs _u => some (Out.nrm [sl rs 0])) [D.tup []] fun outs => (gate (D.tup []) z false (un UnOp.not (sl outs 0))).bind fun z_2 =>
 (pickD z (D.v (Value.bool true)) z_2).bind fun z => ifD z ((bldD [] [D.v (Value.int IntKind.i64 0), D.v (Value.int IntKind.i64 0), D.v (Value.int IntKind.i64 0)] []).bind fun z => (stD 3 (D.agg
 [D.v (Value.int IntKind.i64 0), D.v (Value.int IntKind.i64 0), D.v (Value.int IntKind.i64 0)]) (D.ref 0 0) z).bind fun b => (fldD true 3 0 b).bind fun y =>
 some (Out.ret [y, D.v (Value.int IntKind.i64 0), D.v (Value.bool false)] [])) ((liveD y (D.ref 0 0)).bind fun z => ((atD y z).bind (takeD false 1)).bind fun z => (liveD y (D.ref 0 0)).bind fun z_3 =>
 ((atD y z_3).bind (takeD false 1)).bind fun z_4 => (bin BinOp.mul false [] z_4 x1).bind fun z_5 => callK (F_spec_meUp [z_5, D.v (Value.int IntKind.i64 100)]) fun rs _u => (bin BinOp.sub false [] z (sl rs 0)).bind fun z =>
 (liveD y (D.ref 0 1)).bind fun z_6 => ((atD y z_6).bind (takeD false 1)).bind fun z_7 => (liveD y (D.ref 0 1)).bind fun z_8 => ((atD y z_8).bind (takeD false 1)).bind fun z_9 =>
 (bin BinOp.mul false [] z_9 x1).bind fun z_10 => callK (F_spec_meUp [z_10, D.v (Value.int IntKind.i64 100)]) fun rs _u => (bin BinOp.sub false [] z_7 (sl rs 0)).bind fun z_11 => (liveD y (D.ref 0 2)).bind fun z_12 =>
 ((atD y z_12).bind (takeD false 1)).bind fun z_13 => (liveD y (D.ref 0 2)).bind fun z_14 => ((atD y z_14).bind (takeD false 1)).bind fun z_15 => (bin BinOp.mul false [] z_15 x1).bind fun z_16 =>
 callK (F_spec_meUp [z_16, D.v (Value.int IntKind.i64 100)]) fun rs _u => (bin BinOp.sub false [] z_13 (sl rs 0)).bind fun z_17 => (bldD [(0, 1), (1, 1), (2, 1)] [D.v (Value.int IntKind.i64 0),
 D.v (Value.int IntKind.i64 0), D.v (Value.int IntKind.i64 0)] [z, z_11, z_17]).bind fun z => (stD 3 (D.agg [D.v (Value.int IntKind.i64 0), D.v (Value.int IntKind.i64 0), D.v (Value.int IntKind.i64 0)]) (D.ref 0 0) z).bind
 fun b => (fldD true 3 0 b).bind fun z => (fldD true 3 0 y).bind fun z_18 => callK (F_spec_meGrams [z_18]) fun rs _u => (fldD true 3 0 b).bind fun z_19 => callK (F_spec_meGrams [z_19]) fun rs_1 _u =>
 (bin BinOp.sub false [] (sl rs 0) (sl rs_1 0)).bind fun z_20 => (stD 3 (D.agg [D.v (Value.int IntKind.i64 0), D.v (Value.int IntKind.i64 0), D.v (Value.int IntKind.i64 0)]) (D.ref 0 0) z).bind fun b =>
 (fldD true 3 0 b).bind fun y => some (Out.ret [y, z_20, D.v (Value.bool true)] []))) := by kernel_rfl
theorem t_spec_DrawJoinMelts (x0 : D) : F_spec_DrawJoinMelts [x0] =
  ((bldD [(0, 1)] [D.arr 1 [], D.v (Value.int IntKind.i64 0), D.v (Value.int IntKind.u64 0)] [x0]).bind fun z => (boxD 3 z).bind fun y => (liveD y (D.ref 0 0)).bind fun z => (liveD z z).bind fun z_1 =>
 (ref0 z_1 y).bind fun i => (liveD i i).bind fun i => callK (F_spec_l1Cur_pick [i, D.v (Value.int IntKind.i64 5)]) fun rs us => (liveD z z).bind fun z_2 => (ref0 z_2 (sl us 0)).bind fun i => (liveD i i).bind fun i =>
 callK (F_spec_l1Cur_one [i, D.v (Value.int IntKind.i64 10)]) fun rs_1 us => ifD (sl rs_1 0) ((liveD z z).bind fun z_3 => (ref0 z_3 (sl us 0)).bind fun i => (liveD i i).bind fun i =>
 callK (F_spec_l1Cur_pick [i, D.v (Value.int IntKind.i64 2)]) fun rs us => (bin BinOp.add false [] (D.v (Value.int IntKind.i64 20)) (sl rs 0)).bind fun z_4 => (loopC (fun s => (liveD (sl s 1) (D.ref 0 0)).bind fun z =>
 ((liveD z (sl s 1)).bind (lenD false)).bind fun z => (bin BinOp.lss false [] z (sl s 2)).bind fun z => ifD z ((liveD (sl s 0) (sl s 0)).bind fun z => (ref0 z (sl s 3)).bind fun i => (liveD i i).bind fun i =>
 callK (F_spec_l1Cur_melt [i]) fun rs us => (mkArr 3 [sl rs 0]).bind fun a => (chkA a).bind fun b => (appD 3 24 (sl s 1) b).bind fun y => some (Out.nrm [sl s 0, y, sl s 2, sl us 0]))
 (some (Out.ext 0 [sl s 0, sl s 1, sl s 2, sl s 3]))) [z, D.arr 3 [], z_4, sl us 0]).bind fun o => outK o (fun i s => ifN (i.beq 0) ((bin BinOp.gtr false [] (sl s 2) (D.v (Value.int IntKind.i64 0))).bind fun z =>
 (gate D.bad z true (liveD (sl s 0) (sl s 0))).bind fun z_5 => gateC z true ((ref0 z_5 (sl s 3)).bind fun i => (liveD i i).bind fun i => callK (F_spec_l1Cur_one [i, D.v (Value.int IntKind.i64 8)])
 fun rs us => some (Out.nrm [sl rs 0, sl us 0])) [D.tup [], sl s 3] fun outs => (pickD z (sl outs 0) (D.v (Value.bool false))).bind fun z => ifD z ((liveD (sl s 1) (D.ref 0 0)).bind fun z =>
 (liveD (sl s 0) (sl s 0)).bind fun z_6 => (ref0 z_6 (sl outs 1)).bind fun i => (liveD i i).bind fun i => callK (F_spec_l1Cur_pick [i, sl s 2]) fun rs us => (liveD (sl s 0) (sl s 0)).bind fun z_7 =>
 (ref0 z_7 (sl us 0)).bind fun i => (liveD i i).bind fun i => callK (F_spec_l1Cur_anyMelt [i]) fun rs_2 _u => ((liveD z (sl s 1)).bind fun b => refI 3 b (sl rs 0)).bind fun z => (stD 3 (sl s 1) z (sl rs_2 0)).bind fun b =>
 some (Out.ret [b] [])) (some (Out.ret [sl s 1] []))) none) fun a b => some (Out.ret a b)) ((loopC (fun s => (liveD (sl s 1) (D.ref 0 0)).bind fun z => ((liveD z (sl s 1)).bind (lenD false)).bind fun z =>
 (bin BinOp.lss false [] z (sl s 2)).bind fun z => ifD z ((liveD (sl s 0) (sl s 0)).bind fun z => (ref0 z (sl s 3)).bind fun i => (liveD i i).bind fun i => callK (F_spec_l1Cur_melt [i]) fun rs us =>
 (mkArr 3 [sl rs 0]).bind fun a => (chkA a).bind fun b => (appD 3 24 (sl s 1) b).bind fun y => some (Out.nrm [sl s 0, y, sl s 2, sl us 0])) (some (Out.ext 0 [sl s 0, sl s 1, sl s 2, sl s 3])))
 [z, D.arr 3 [], sl rs 0, sl us 0]).bind fun o => outK o (fun i s => ifN (i.beq 0) ((bin BinOp.gtr false [] (sl s 2) (D.v (Value.int IntKind.i64 0))).bind fun z =>
 (gate D.bad z true (liveD (sl s 0) (sl s 0))).bind fun z_3 => gateC z true ((ref0 z_3 (sl s 3)).bind fun i => (liveD i i).bind fun i => callK (F_spec_l1Cur_one [i, D.v (Value.int IntKind.i64 8)]) fun rs us =>
 some (Out.nrm [sl rs 0, sl us 0])) [D.tup [], sl s 3] fun outs => (pickD z (sl outs 0) (D.v (Value.bool false))).bind fun z => ifD z ((liveD (sl s 1) (D.ref 0 0)).bind fun z => (liveD (sl s 0) (sl s 0)).bind fun z_4 =>
 (ref0 z_4 (sl outs 1)).bind fun i => (liveD i i).bind fun i => callK (F_spec_l1Cur_pick [i, sl s 2]) fun rs us => (liveD (sl s 0) (sl s 0)).bind fun z_5 => (ref0 z_5 (sl us 0)).bind fun i => (liveD i i).bind fun i =>
 callK (F_spec_l1Cur_anyMelt [i]) fun rs_2 _u => ((liveD z (sl s 1)).bind fun b => refI 3 b (sl rs 0)).bind fun z => (stD 3 (sl s 1) z (sl rs_2 0)).bind fun b => some (Out.ret [b] [])) (some (Out.ret [sl s 1] []))) none)
 fun a b => some (Out.ret a b))) := by kernel_rfl
theorem t_spec_meJoin (x0 x1 : D) : F_spec_meJoin [x0, x1] =
  ((boxD 3 x0).bind fun y => (boxD 3 x1).bind fun y_1 => (liveD y (D.ref 0 0)).bind fun z => ((atD y z).bind (takeD false 1)).bind fun z => (liveD y_1 (D.ref 0 0)).bind fun z_1 =>
 ((atD y_1 z_1).bind (takeD false 1)).bind fun z_2 => (bin BinOp.add false [] z z_2).bind fun z => (liveD y (D.ref 0 1)).bind fun z_3 => ((atD y z_3).bind (takeD false 1)).bind fun z_4 =>
 (liveD y_1 (D.ref 0 1)).bind fun z_5 => ((atD y_1 z_5).bind (takeD false 1)).bind fun z_6 => (bin BinOp.add false [] z_4 z_6).bind fun z_7 => (liveD y (D.ref 0 2)).bind fun z_8 =>
 ((atD y z_8).bind (takeD false 1)).bind fun z_9 => (liveD y_1 (D.ref 0 2)).bind fun z_10 => ((atD y_1 z_10).bind (takeD false 1)).bind fun z_11 => (bin BinOp.add false [] z_9 z_11).bind fun z_12 =>
 (bldD [(0, 1), (1, 1), (2, 1)] [D.v (Value.int IntKind.i64 0), D.v (Value.int IntKind.i64 0), D.v (Value.int IntKind.i64 0)] [z, z_7, z_12]).bind fun z => (stD 3 (D.agg
 [D.v (Value.int IntKind.i64 0), D.v (Value.int IntKind.i64 0), D.v (Value.int IntKind.i64 0)]) (D.ref 0 0) z).bind fun b => (fldD true 3 0 b).bind fun y => some (Out.ret [y] [])) := by kernel_rfl
theorem t_spec_meIf (x0 : D) : F_spec_meIf [x0] =
  ((boxD 3 x0).bind fun y => (fldD true 3 0 y).bind fun z => callK (F_spec_meGood [z]) fun rs _u => (un UnOp.not (sl rs 0)).bind fun z => ifD z
 ((bldD [] [D.v (Value.int IntKind.i64 0), D.v (Value.int IntKind.i64 0), D.v (Value.int IntKind.i64 0)] []).bind fun z => (stD 3 (D.agg
 [D.v (Value.int IntKind.i64 0), D.v (Value.int IntKind.i64 0), D.v (Value.int IntKind.i64 0)]) (D.ref 0 0) z).bind fun b => (fldD true 3 0 b).bind fun y => some (Out.ret [y, D.v (Value.bool false)] []))
 ((fldD true 3 0 y).bind fun z => (stD 3 (D.agg [D.v (Value.int IntKind.i64 0), D.v (Value.int IntKind.i64 0), D.v (Value.int IntKind.i64 0)]) (D.ref 0 0) z).bind
 fun b => (fldD true 3 0 b).bind fun y => some (Out.ret [y, D.v (Value.bool true)] []))) := by kernel_rfl
theorem t_spec_JoinMelts (x0 : D) : F_spec_JoinMelts [x0] =
  ((lenD false x0).bind fun z => (bin BinOp.gtr false [] z (D.v (Value.int IntKind.i64 20))).bind fun z => ifD z
 ((bldD [] [D.v (Value.int IntKind.i64 0), D.v (Value.int IntKind.i64 0), D.v (Value.int IntKind.i64 0)] []).bind fun z =>
 (stD 3 (D.agg [D.v (Value.int IntKind.i64 0), D.v (Value.int IntKind.i64 0), D.v (Value.int IntKind.i64 0)]) (D.ref 0 0) z).bind fun b => (fldD true 3 0 b).bind fun y => some (Out.ret [y, D.v (Value.bool false)] []))
 ((lenD false x0).bind fun z => (loopC (fun s => (bin BinOp.lss false [] (sl s 4) (sl s 3)).bind fun z => ifD z ((Option.map D.ptr (elemD 3 (sl s 2) (sl s 4))).bind fun z => ((ldD true 3 z).bind chkV).bind fun z => (stD 3
 (D.agg [D.v (Value.int IntKind.i64 0), D.v (Value.int IntKind.i64 0), D.v (Value.int IntKind.i64 0)]) (D.ref 0 0) z).bind fun b => (fldD true 3 0 b).bind fun z => callK (F_spec_meGood [z]) fun rs _u =>
 (un UnOp.not (sl rs 0)).bind fun z => ifD z ((bldD [] [D.v (Value.int IntKind.i64 0), D.v (Value.int IntKind.i64 0), D.v (Value.int IntKind.i64 0)] []).bind fun z => (stD 3 (sl s 0) (D.ref 0 0) z).bind fun b =>
 (fldD true 3 0 b).bind fun y => some (Out.ret [y, D.v (Value.bool false)] [])) ((fldD true 3 0 (sl s 1)).bind fun z => (fldD true 3 0 b).bind fun z_1 => callK (F_spec_meJoin [z, z_1]) fun rs _u =>
 (stD 3 (sl s 1) (D.ref 0 0) (sl rs 0)).bind fun b => (bin BinOp.add false [] (sl s 4) (D.v (Value.int IntKind.i64 1))).bind fun z => some (Out.nrm [sl s 0, b, sl s 2, sl s 3, z]))) (some (Out.ext 0 [sl s 0, sl s 1])))
 [D.agg [D.v (Value.int IntKind.i64 0), D.v (Value.int IntKind.i64 0), D.v (Value.int IntKind.i64 0)], D.agg [D.v (Value.int IntKind.i64 0), D.v (Value.int IntKind.i64 0), D.v (Value.int IntKind.i64 0)],
 x0, z, D.v (Value.int IntKind.i64 0)]).bind fun o => outK o (fun i s => ifN (i.beq 0) ((fldD true 3 0 (sl s 1)).bind fun z => callK (F_spec_meIf [z]) fun rs _u => (tupAt (D.tup rs) 0).bind fun z =>
 (tupAt (D.tup rs) 1).bind fun z_1 => (stD 3 (sl s 0) (D.ref 0 0) z).bind fun b => (fldD true 3 0 b).bind fun y => some (Out.ret [y, z_1] [])) none) fun a b => some (Out.ret a b))) := by kernel_rfl
theorem t_impl_meltText (x0 : D) : F_impl_meltText [x0] =
  ((boxD 3 x0).bind fun y => (liveD y (D.ref 0 0)).bind fun z => ((atD y z).bind (takeD false 1)).bind fun z => (liveD y (D.ref 0 1)).bind fun z_1 => ((atD y z_1).bind (takeD false 1)).bind fun z_2 =>
 (liveD y (D.ref 0 2)).bind fun z_3 => ((atD y z_3).bind (takeD false 1)).bind fun z_4 => (mkArr 1 [z, z_2, z_4]).bind fun a => callK (F_impl_join [a, D.v (Value.string { data := { toList := [45] } })]) fun rs _u =>
 some (Out.ret [sl rs 0] [])) := by kernel_rfl
theorem t_impl_MeltText (x0 : D) : F_impl_MeltText [x0] =
  ((boxD 3 x0).bind fun y => (fldD true 3 0 y).bind fun z => callK (F_impl_IsMelt [z]) fun rs _u => (un UnOp.not (sl rs 0)).bind fun z =>
 ifD z (some (Out.ret [D.v (Value.string { data := { toList := [] } }), D.v (Value.bool false)] [])) ((fldD true 3 0 y).bind fun z =>
 callK (F_impl_meltText [z]) fun rs _u => some (Out.ret [sl rs 0, D.v (Value.bool true)] []))) := by kernel_rfl
theorem t_spec_meText (x0 : D) : F_spec_meText [x0] =
  ((boxD 3 x0).bind fun y => (liveD y (D.ref 0 0)).bind fun z => ((atD y z).bind (takeD false 1)).bind fun z => callK (F_spec_l1Num [z]) fun rs _u =>
 (bin BinOp.add false [] (sl rs 0) (D.v (Value.string { data := { toList := [45] } }))).bind fun z => (liveD y (D.ref 0 1)).bind fun z_1 => ((atD y z_1).bind (takeD false 1)).bind fun z_2 =>
 callK (F_spec_l1Num [z_2]) fun rs _u => (bin BinOp.add false [] z (sl rs 0)).bind fun z => (bin BinOp.add false [] z (D.v (Value.string { data := { toList := [45] } }))).bind fun z => (liveD y (D.ref 0 2)).bind fun z_3 =>
 ((atD y z_3).bind (takeD false 1)).bind fun z_4 => callK (F_spec_l1Num [z_4]) fun rs _u => (bin BinOp.add false [] z (sl rs 0)).bind fun z => some (Out.ret [z] [])) := by kernel_rfl
theorem t_spec_MeltText (x0 : D) : F_spec_MeltText [x0] =
  ((boxD 3 x0).bind fun y => (fldD true 3 0 y).bind fun z => callK (F_spec_meGood [z]) fun rs _u => (un UnOp.not (sl rs 0)).bind fun z =>
 ifD z (some (Out.ret [D.v (Value.string { data := { toList := [] } }), D.v (Value.bool false)] [])) ((fldD true 3 0 y).bind fun z =>
 callK (F_spec_meText [z]) fun rs _u => some (Out.ret [sl rs 0, D.v (Value.bool true)] []))) := by kernel_rfl
theorem t_spec_DrawParseMelt (x0 : D) : F_spec_DrawParseMelt [x0] =
  ((bldD [(0, 1)] [D.arr 1 [], D.v (Value.int IntKind.i64 0), D.v (Value.int IntKind.u64 0)] [x0]).bind fun z => (boxD 3 z).bind fun y => (liveD y (D.ref 0 0)).bind fun z => (liveD z z).bind fun z_1 =>
 (ref0 z_1 y).bind fun i => (liveD i i).bind fun i => callK (F_spec_l1Cur_melt [i]) fun rs us => callK (F_spec_meText [sl rs 0]) fun rs _u => (liveD z z).bind fun z_2 => (ref0 z_2 (sl us 0)).bind fun i =>
 (liveD i i).bind fun i => callK (F_spec_l1Cur_pick [i, D.v (Value.int IntKind.i64 5)]) fun rs_1 us => (bin BinOp.eql false [] (sl rs_1 0) (D.v (Value.int IntKind.i64 0))).bind fun z_3 => ifD z_3 ((liveD z z).bind fun z =>
 (ref0 z (sl us 0)).bind fun i => (liveD i i).bind fun i => callK (F_spec_l1Cur_spoilt [i, sl rs 0, D.v (Value.string { data := { toList := [45, 48, 49, 57] } })]) fun rs _u => some (Out.ret [sl rs 0] []))
 ((bin BinOp.eql false [] (sl rs_1 0) (D.v (Value.int IntKind.i64 1))).bind fun z_4 => ifD z_4 ((liveD z z).bind fun z => (mkArr 1 [D.v (Value.string { data := { toList := [] } }),
 D.v (Value.string { data := { toList := [48, 45, 48, 45, 48] } }), D.v (Value.string { data := { toList := [49, 45, 49] } }), D.v (Value.string { data := { toList := [49, 45, 45, 49, 45, 49] } }), D.v (Value.string
 { data := { toList := [49, 48, 48, 48, 48, 48, 48, 45, 48, 45, 48] } }), D.v (Value.string { data := { toList := [49, 48, 48, 48, 48, 48, 49, 45, 48, 45, 48] } }),
 D.v (Value.string { data := { toList := [48, 49, 45, 48, 45, 48] } }), D.v (Value.string { data := { toList := [49, 45, 49, 45, 49, 45, 49] } })]).bind fun a => (ref0 z (sl us 0)).bind fun i => (liveD i i).bind fun i =>
 callK (F_spec_l1Cur_of [i, a]) fun rs _u => some (Out.ret [sl rs 0] [])) (some (Out.ret [sl rs 0] [])))) := by kernel_rfl
theorem t_impl_ParseMelt (x0 : D) : F_impl_ParseMelt [x0] =
  (callK (F_impl_numbersIn [x0]) fun rs _u => (lenD false (sl rs 0)).bind fun z => (bin BinOp.neq false [] z (D.v (Value.int IntKind.i64 3))).bind fun z => ifD z
 ((bldD [] [D.v (Value.int IntKind.i64 0), D.v (Value.int IntKind.i64 0), D.v (Value.int IntKind.i64 0)] []).bind fun z =>
 (stD 3 (D.agg [D.v (Value.int IntKind.i64 0), D.v (Value.int IntKind.i64 0), D.v (Value.int IntKind.i64 0)]) (D.ref 0 0) z).bind fun b => (fldD true 3 0 b).bind fun y => some (Out.ret [y, D.v (Value.bool false)] []))
 ((Option.map D.ptr (elemD 1 (sl rs 0) (D.v (Value.int IntKind.i64 0)))).bind fun z => ((ldD false 1 z).bind chkV).bind fun z => (Option.map D.ptr (elemD 1 (sl rs 0) (D.v (Value.int IntKind.i64 1)))).bind fun z_1 =>
 ((ldD false 1 z_1).bind chkV).bind fun z_2 => (Option.map D.ptr (elemD 1 (sl rs 0) (D.v (Value.int IntKind.i64 2)))).bind fun z_3 => ((ldD false 1 z_3).bind chkV).bind fun z_4 => (bldD [(0, 1), (1, 1), (2, 1)]
 [D.v (Value.int IntKind.i64 0), D.v (Value.int IntKind.i64 0), D.v (Value.int IntKind.i64 0)] [z, z_2, z_4]).bind fun z => (stD 3 (D.agg [D.v (Value.int IntKind.i64 0), D.v (Value.int IntKind.i64 0),
 D.v (Value.int IntKind.i64 0)]) (D.ref 0 0) z).bind fun b => (fldD true 3 0 b).bind fun z => callK (F_impl_IsMelt [z]) fun rs _u => (un UnOp.not (sl rs 0)).bind fun z =>
 (gate (D.tup []) z false (fldD true 3 0 b)).bind fun z_5 => gateC z false (callK (F_impl_meltText [z_5]) fun rs _u => some (Out.nrm [sl rs 0])) [D.tup []] fun outs => (gate (D.tup []) z false (some x0)).bind fun z_6 =>
 (gate (D.tup []) z false (bin BinOp.neq false [] (sl outs 0) z_6)).bind fun z_7 => (pickD z (D.v (Value.bool true)) z_7).bind fun z => ifD z ((bldD [] [D.v (Value.int IntKind.i64 0), D.v (Value.int IntKind.i64 0),
 D.v (Value.int IntKind.i64 0)] []).bind fun z => (stD 3 (D.agg [D.v (Value.int IntKind.i64 0), D.v (Value.int IntKind.i64 0), D.v (Value.int IntKind.i64 0)]) (D.ref 0 0) z).bind fun b => (fldD true 3 0 b).bind fun y =>
 some (Out.ret [y, D.v (Value.bool false)] [])) ((fldD true 3 0 b).bind fun z => (stD 3 (D.agg [D.v (Value.int IntKind.i64 0), D.v (Value.int IntKind.i64 0), D.v (Value.int IntKind.i64 0)]) (D.ref 0 0) z).bind fun b =>
 (fldD true 3 0 b).bind fun y => some (Out.ret [y, D.v (Value.bool true)] [])))) := by kernel_rfl
theorem t_spec_meRead (x0 : D) : F_spec_meRead [x0] =
  ((lenD true x0).bind fun z => callK (F_spec_l1In [z, D.v (Value.int IntKind.i64 1), D.v (Value.int IntKind.i64 10)]) fun rs _u => (un UnOp.not (sl rs 0)).bind fun z => (gate (D.tup []) z false (some x0)).bind fun z_1 =>
 (gate (D.tup []) z false (charD z_1 (D.v (Value.int IntKind.i64 0)))).bind fun z_2 => (gate (D.tup []) z false (bin BinOp.eql false [] z_2 (D.v (Value.int IntKind.u8 48)))).bind fun z_3 =>
 (gate (D.tup []) z false (some z_3)).bind fun z_4 => (gate (D.tup []) z_4 true (some x0)).bind fun z_5 => (gate (D.tup []) z_4 true (lenD true z_5)).bind fun z_6 =>
 (gate (D.tup []) z_4 true (bin BinOp.gtr false [] z_6 (D.v (Value.int IntKind.i64 1)))).bind fun z_7 => (gate (D.tup []) z false (pickD z_4 z_7 (D.v (Value.bool false)))).bind fun z_8 =>
 (pickD z (D.v (Value.bool true)) z_8).bind fun z => ifD z (some (Out.ret [D.v (Value.int IntKind.i64 (-1))] [])) ((loopC (fun s => (lenD true (sl s 0)).bind fun z => (bin BinOp.lss false [] (sl s 2) z).bind fun z => ifD z
 ((charD (sl s 0) (sl s 2)).bind fun z => (bin BinOp.lss false [] z (D.v (Value.int IntKind.u8 48))).bind fun z => (gate (D.tup []) z false (some (sl s 0))).bind fun z_9 =>
 (gate (D.tup []) z false (some (sl s 2))).bind fun z_10 => (gate (D.tup []) z false (charD z_9 z_10)).bind fun z_11 => (gate (D.tup []) z false (bin BinOp.gtr false [] z_11 (D.v (Value.int IntKind.u8 57)))).bind
 fun z_12 => (pickD z (D.v (Value.bool true)) z_12).bind fun z => ifD z (some (Out.ret [D.v (Value.int IntKind.i64 (-1))] [])) ((bin BinOp.mul false [] (D.v (Value.int IntKind.i64 10)) (sl s 1)).bind fun z =>
 (charD (sl s 0) (sl s 2)).bind fun z_13 => (bin BinOp.sub false [] z_13 (D.v (Value.int IntKind.u8 48))).bind fun z_14 => (convD (some IntKind.i64) false z_14).bind fun z_15 =>
 (bin BinOp.add false [] z z_15).bind fun z => (bin BinOp.add false [] (sl s 2) (D.v (Value.int IntKind.i64 1))).bind fun z_16 => some (Out.nrm [sl s 0, z, z_16]))) (some (Out.ext 0 [sl s 1])))
 [x0, D.v (Value.int IntKind.i64 0), D.v (Value.int IntKind.i64 0)]).bind fun o => outK o (fun i s => ifN (i.beq 0) (some (Out.ret [sl s 0] [])) none) fun a b => some (Out.ret a b))) := by kernel_rfl
theorem t_spec_ParseMelt (x0 : D) : F_spec_ParseMelt [x0] =
  (callK (F_spec_l1Split [x0, D.v (Value.int IntKind.u8 45)]) fun rs _u => (lenD false (sl rs 0)).bind fun z => (bin BinOp.neq false [] z (D.v (Value.int IntKind.i64 3))).bind fun z => ifD z
 ((bldD [] [D.v (Value.int IntKind.i64 0), D.v (Value.int IntKind.i64 0), D.v (Value.int IntKind.i64 0)] []).bind fun z =>
 (stD 3 (D.agg [D.v (Value.int IntKind.i64 0), D.v (Value.int IntKind.i64 0), D.v (Value.int IntKind.i64 0)]) (D.ref 0 0) z).bind fun b => (fldD true 3 0 b).bind fun y => some (Out.ret [y, D.v (Value.bool false)] []))
 ((Option.map D.ptr (elemD 1 (sl rs 0) (D.v (Value.int IntKind.i64 0)))).bind fun z => ((ldD false 1 z).bind chkV).bind fun z => callK (F_spec_meRead [z]) fun rs_1 _u =>
 (Option.map D.ptr (elemD 1 (sl rs 0) (D.v (Value.int IntKind.i64 1)))).bind fun z => ((ldD false 1 z).bind chkV).bind fun z => callK (F_spec_meRead [z]) fun rs_2 _u =>
 (Option.map D.ptr (elemD 1 (sl rs 0) (D.v (Value.int IntKind.i64 2)))).bind fun z => ((ldD false 1 z).bind chkV).bind fun z => callK (F_spec_meRead [z]) fun rs _u => (bldD [(0, 1), (1, 1), (2, 1)]
 [D.v (Value.int IntKind.i64 0), D.v (Value.int IntKind.i64 0), D.v (Value.int IntKind.i64 0)] [sl rs_1 0, sl rs_2 0, sl rs 0]).bind fun z => callK (F_spec_meIf [z]) fun rs _u => (tupAt (D.tup rs) 0).bind fun z =>
 (tupAt (D.tup rs) 1).bind fun z_1 => (stD 3 (D.agg [D.v (Value.int IntKind.i64 0), D.v (Value.int IntKind.i64 0), D.v (Value.int IntKind.i64 0)]) (D.ref 0 0) z).bind
 fun b => (fldD true 3 0 b).bind fun y => some (Out.ret [y, z_1] []))) := by kernel_rfl
theorem t_laws_FnMelts (x0 x1 : D) : F_laws_FnMelts [x0, x1] =
  (callK (F_laws_big [x0, x1]) fun rs _u => ifD (sl rs 0) (some (Out.ret [D.v (Value.bool true)] [])) (callK (F_spec_DrawTakeMelt [x0]) fun rs _u => (tupAt (D.tup rs) 0).bind fun z => (tupAt (D.tup rs) 1).bind fun z_1 =>
 (stD 3 (D.agg [D.v (Value.int IntKind.i64 0), D.v (Value.int IntKind.i64 0), D.v (Value.int IntKind.i64 0)]) (D.ref 0 0) z).bind fun b => (fldD true 3 0 b).bind fun z => callK (F_impl_TakeMelt [z, z_1]) fun rs _u =>
 (tupAt (D.tup rs) 0).bind fun z => (tupAt (D.tup rs) 1).bind fun z_2 => (tupAt (D.tup rs) 2).bind fun z_3 => (stD 3 (D.agg [D.v (Value.int IntKind.i64 0), D.v (Value.int IntKind.i64 0), D.v (Value.int IntKind.i64 0)])
 (D.ref 0 0) z).bind fun b_1 => (stD 3 (D.agg [D.v (Value.int IntKind.i64 0), D.v (Value.int IntKind.i64 0), D.v (Value.int IntKind.i64 0)]) (D.ref 0 0) z_2).bind fun b_2 => (fldD true 3 0 b).bind fun z =>
 callK (F_spec_TakeMelt [z, z_1]) fun rs _u => (tupAt (D.tup rs) 0).bind fun z => (tupAt (D.tup rs) 1).bind fun z_4 => (tupAt (D.tup rs) 2).bind fun z_5 => (stD 3 (D.agg
 [D.v (Value.int IntKind.i64 0), D.v (Value.int IntKind.i64 0), D.v (Value.int IntKind.i64 0)]) (D.ref 0 0) z).bind fun b_3 => (stD 3 (D.agg [D.v (Value.int IntKind.i64 0), D.v (Value.int IntKind.i64 0),
 D.v (Value.int IntKind.i64 0)]) (D.ref 0 0) z_4).bind fun b_4 => (bin BinOp.neq true [] z_3 z_5).bind fun z => (gate (D.tup []) z false (fldD true 3 0 b_1)).bind fun z_6 =>
 (gate (D.tup []) z false (fldD true 3 0 b_3)).bind fun z_7 => (gate (D.tup []) z false (bin BinOp.neq false [1, 1, 1] z_6 z_7)).bind fun z_8 => (pickD z (D.v (Value.bool true)) z_8).bind fun z =>
 (gate (D.tup []) z false (fldD true 3 0 b_2)).bind fun z_9 => (gate (D.tup []) z false (fldD true 3 0 b_4)).bind fun z_10 => (gate (D.tup []) z false (bin BinOp.neq false [1, 1, 1] z_9 z_10)).bind fun z_11 =>
 (pickD z (D.v (Value.bool true)) z_11).bind fun z => ifD z (some (Out.ret [D.v (Value.bool false)] [])) (joinC (fun j => ifD z_3 ((fldD true 3 0 b_1).bind fun z => callK (F_impl_GramsOf [z]) fun rs _u =>
 (tupAt (D.tup rs) 0).bind fun z => (tupAt (D.tup rs) 1).bind fun z_12 => (fldD true 3 0 b_1).bind fun z_13 => (fldD true 3 0 b_2).bind fun z_14 => (mkArr 3 [z_13, z_14]).bind fun a => callK (F_impl_JoinMelts [a])
 fun rs _u => (tupAt (D.tup rs) 0).bind fun z_15 => (tupAt (D.tup rs) 1).bind fun z_16 => (stD 3 (D.agg [D.v (Value.int IntKind.i64 0), D.v (Value.int IntKind.i64 0), D.v (Value.int IntKind.i64 0)]) (D.ref 0 0) z_15).bind
 fun b_5 => (un UnOp.not z_12).bind fun z_17 => (gate (D.tup []) z_17 false (some z)).bind fun z => (gate (D.tup []) z_17 false (some z_1)).bind fun z_18 => (gate (D.tup []) z_17 false (bin BinOp.neq false [] z z_18)).bind
 fun z => (pickD z_17 (D.v (Value.bool true)) z).bind fun z => (gate (D.tup []) z false (some z_16)).bind fun z_19 => (gate (D.tup []) z false (un UnOp.not z_19)).bind fun z_20 => (pickD z (D.v (Value.bool true))
 z_20).bind fun z => (gate (D.tup []) z false (fldD true 3 0 b_5)).bind fun z_21 => (gate (D.tup []) z false (fldD true 3 0 b)).bind fun z_22 => (gate (D.tup []) z false (bin BinOp.neq false [1, 1, 1] z_21 z_22)).bind fun
 z_23 => (pickD z (D.v (Value.bool true)) z_23).bind fun z => ifD z (some (Out.ret [D.v (Value.bool false)] [])) (j [x1, b])) (j [x1, b])) fun s => callK (F_spec_DrawSharesOf [sl s 0]) fun rs _u => (stD 3 (D.agg
 [D.v (Value.int IntKind.i64 0), D.v (Value.int IntKind.i64 0), D.v (Value.int IntKind.i64 0)]) (D.ref 0 0) (sl rs 0)).bind fun b => (fldD true 3 0 b).bind fun z => callK (F_impl_SharesOf [z]) fun rs _u =>
 (tupAt (D.tup rs) 0).bind fun y => (tupAt (tupCut (D.tup rs) 0) 1).bind fun z => (fldD true 3 0 b).bind fun z_12 => callK (F_spec_SharesOf [z_12]) fun rs _u => (tupAt (D.tup rs) 0).bind fun y_1 =>
 (tupAt (tupCut (D.tup rs) 0) 1).bind fun z_13 => (bin BinOp.neq true [] z z_13).bind fun z_14 => (gate (D.tup []) z_14 false (some y)).bind fun z_15 => (gate (D.tup []) z_14 false (some y_1)).bind fun z_16 =>
 gateC z_14 false (callK (F_laws_sameInts [z_15, z_16]) fun rs _u => some (Out.nrm [sl rs 0])) [D.tup []] fun outs => (gate (D.tup []) z_14 false (un UnOp.not (sl outs 0))).bind fun z_17 => (pickD z_14 (D.v
 (Value.bool true)) z_17).bind fun z_18 => (gate (D.tup []) z_18 false (some z)).bind fun z => (gate (D.tup []) z_18 false (some z)).bind fun z => (gate (D.tup []) z true (some y_1)).bind fun z_19 => (gate (D.tup []) z
 true (lenD false z_19)).bind fun z_20 => (gate (D.tup []) z true (bin BinOp.neq false [] z_20 (D.v (Value.int IntKind.i64 3)))).bind fun z_21 => (gate (D.tup []) z true (some z_21)).bind fun z_22 => (gate (D.tup []) z_22
 false (some y_1)).bind fun z_23 => gateC z_22 false (callK (F_laws_pSum [z_23]) fun rs _u => some (Out.nrm [sl rs 0])) [D.tup []] fun outs => (gate (D.tup []) z_22 false (bin BinOp.gtr false [] (sl outs 0) (D.v (Value.int
 IntKind.i64 1000)))).bind fun z_24 => (gate (D.tup []) z true (pickD z_22 (D.v (Value.bool true)) z_24)).bind fun z_25 => (gate (D.tup []) z true (some z_25)).bind fun z_26 => (gate (D.tup []) z_26 false (some y_1)).bind
 fun z_27 => gateC z_26 false (callK (F_laws_pSum [z_27]) fun rs _u => some (Out.nrm [sl rs 0])) [D.tup []] fun outs => (gate (D.tup []) z_26 false (bin BinOp.lss false [] (sl outs 0) (D.v (Value.int IntKind.i64
 998)))).bind fun z_28 => (gate (D.tup []) z true (pickD z_26 (D.v (Value.bool true)) z_28)).bind fun z_29 => (gate (D.tup []) z_18 false (pickD z z_29 (D.v (Value.bool false)))).bind fun z => (pickD z_18 (D.v (Value.bool
 true)) z).bind fun z => ifD z (some (Out.ret [D.v (Value.bool false)] [])) (callK (F_spec_DrawAfterDross [sl s 0]) fun rs _u => (tupAt (D.tup rs) 0).bind fun z => (tupAt (D.tup rs) 1).bind fun z_30 => (stD 3 (D.agg [D.v
 (Value.int IntKind.i64 0), D.v (Value.int IntKind.i64 0), D.v (Value.int IntKind.i64 0)]) (D.ref 0 0) z).bind fun b => (fldD true 3 0 b).bind fun z => callK (F_impl_AfterDross [z, z_30]) fun rs _u => (tupAt (D.tup rs)
 0).bind fun z => (tupAt (D.tup rs) 1).bind fun z_31 => (tupAt (D.tup rs) 2).bind fun z_32 => (stD 3 (D.agg [D.v (Value.int IntKind.i64 0), D.v (Value.int IntKind.i64 0), D.v (Value.int IntKind.i64 0)]) (D.ref 0 0) z).bind
 fun b_5 => (fldD true 3 0 b).bind fun z => callK (F_spec_AfterDross [z, z_30]) fun rs _u => (tupAt (D.tup rs) 0).bind fun z => (tupAt (D.tup rs) 1).bind fun z_33 => (tupAt (D.tup rs) 2).bind fun z_34 => (stD 3 (D.agg [D.v
 (Value.int IntKind.i64 0), D.v (Value.int IntKind.i64 0), D.v (Value.int IntKind.i64 0)]) (D.ref 0 0) z).bind fun b_6 => (bin BinOp.neq true [] z_32 z_34).bind fun z => (gate (D.tup []) z false (fldD true 3 0 b_5)).bind
 fun z_35 => (gate (D.tup []) z false (fldD true 3 0 b_6)).bind fun z_36 => (gate (D.tup []) z false (bin BinOp.neq false [1, 1, 1] z_35 z_36)).bind fun z_37 => (pickD z (D.v (Value.bool true)) z_37).bind fun z => (gate
 (D.tup []) z false (some z_31)).bind fun z_38 => (gate (D.tup []) z false (some z_33)).bind fun z_39 => (gate (D.tup []) z false (bin BinOp.neq false [] z_38 z_39)).bind fun z_40 => (pickD z (D.v (Value.bool true))
 z_40).bind fun z => ifD z (some (Out.ret [D.v (Value.bool false)] [])) (joinC (fun j => ifD z_32 ((fldD true 3 0 b).bind fun z => callK (F_impl_GramsOf [z]) fun rs _u => (tupAt (D.tup rs) 0).bind fun z => (tupAt (D.tup
 rs) 1).bind fun z_41 => (fldD true 3 0 b_5).bind fun z_42 => callK (F_impl_GramsOf [z_42]) fun rs _u => (tupAt (D.tup rs) 0).bind fun z_43 => (tupAt (D.tup rs) 1).bind fun z_44 => (un UnOp.not z_41).bind fun z_45 => (gate
 (D.tup []) z_45 false (some z_44)).bind fun z_46 => (gate (D.tup []) z_45 false (un UnOp.not z_46)).bind fun z_47 => (pickD z_45 (D.v (Value.bool true)) z_47).bind fun z_48 => (gate (D.tup []) z_48 false (some z)).bind
 fun z => (gate (D.tup []) z_48 false (some z_43)).bind fun z_49 => (gate (D.tup []) z_48 false (bin BinOp.sub false [] z z_49)).bind fun z => (gate (D.tup []) z_48 false (some z_33)).bind fun z_50 => (gate (D.tup []) z_48
 false (bin BinOp.neq false [] z z_50)).bind fun z => (pickD z_48 (D.v (Value.bool true)) z).bind fun z => (gate (D.tup []) z false (fldD true 3 0 b_5)).bind fun z_51 => gateC z false (callK (F_impl_IsMelt [z_51]) fun rs
 _u => some (Out.nrm [sl rs 0])) [D.tup []] fun outs => (gate (D.tup []) z false (un UnOp.not (sl outs 0))).bind fun z_52 => (pickD z (D.v (Value.bool true)) z_52).bind fun z => (gate (D.tup []) z false (some z_33)).bind
 fun z_53 => (gate (D.tup []) z false (bin BinOp.lss false [] z_53 (D.v (Value.int IntKind.i64 0)))).bind fun z_54 => (pickD z (D.v (Value.bool true)) z_54).bind fun z => ifD z (some (Out.ret [D.v (Value.bool false)] []))
 (j [sl s 0, sl s 1])) (j [sl s 0, sl s 1])) fun s => callK (F_spec_DrawJoinMelts [sl s 0]) fun rs _u => callK (F_impl_JoinMelts [sl rs 0]) fun rs_1 _u => (tupAt (D.tup rs_1) 0).bind fun z => (tupAt (D.tup rs_1) 1).bind
 fun z_41 => (stD 3 (D.agg [D.v (Value.int IntKind.i64 0), D.v (Value.int IntKind.i64 0), D.v (Value.int IntKind.i64 0)]) (D.ref 0 0) z).bind fun b => callK (F_spec_JoinMelts [sl rs 0]) fun rs _u => (tupAt (D.tup rs)
 0).bind fun z => (tupAt (D.tup rs) 1).bind fun z_42 => (stD 3 (D.agg [D.v (Value.int IntKind.i64 0), D.v (Value.int IntKind.i64 0), D.v (Value.int IntKind.i64 0)]) (D.ref 0 0) z).bind fun b_7 => (fldD true 3 0 (sl s
 1)).bind fun z => callK (F_impl_MeltText [z]) fun rs _u => (tupAt (D.tup rs) 0).bind fun z => (tupAt (D.tup rs) 1).bind fun z_43 => (fldD true 3 0 (sl s 1)).bind fun z_44 => callK (F_spec_MeltText [z_44]) fun rs _u =>
 (tupAt (D.tup rs) 0).bind fun z_45 => (tupAt (D.tup rs) 1).bind fun z_46 => callK (F_spec_DrawParseMelt [sl s 0]) fun rs _u => callK (F_impl_ParseMelt [sl rs 0]) fun rs_2 _u => (tupAt (D.tup rs_2) 0).bind fun z_47 =>
 (tupAt (D.tup rs_2) 1).bind fun z_48 => (stD 3 (D.agg [D.v (Value.int IntKind.i64 0), D.v (Value.int IntKind.i64 0), D.v (Value.int IntKind.i64 0)]) (D.ref 0 0) z_47).bind fun b_8 => callK (F_spec_ParseMelt [sl rs 0]) fun
 rs _u => (tupAt (D.tup rs) 0).bind fun z_49 => (tupAt (D.tup rs) 1).bind fun z_50 => (stD 3 (D.agg [D.v (Value.int IntKind.i64 0), D.v (Value.int IntKind.i64 0), D.v (Value.int IntKind.i64 0)]) (D.ref 0 0) z_49).bind fun
 b_9 => (bin BinOp.neq true [] z_41 z_42).bind fun z_51 => (gate (D.tup []) z_51 false (fldD true 3 0 b)).bind fun z_52 => (gate (D.tup []) z_51 false (fldD true 3 0 b_7)).bind fun z_53 => (gate (D.tup []) z_51 false (bin
 BinOp.neq false [1, 1, 1] z_52 z_53)).bind fun z_54 => (pickD z_51 (D.v (Value.bool true)) z_54).bind fun z_55 => (gate (D.tup []) z_55 false (some z_43)).bind fun z_56 => (gate (D.tup []) z_55 false (some z_46)).bind fun
 z_57 => (gate (D.tup []) z_55 false (bin BinOp.neq true [] z_56 z_57)).bind fun z_58 => (pickD z_55 (D.v (Value.bool true)) z_58).bind fun z_59 => (gate (D.tup []) z_59 false (some z)).bind fun z_60 => (gate (D.tup [])
 z_59 false (some z_45)).bind fun z_61 => (gate (D.tup []) z_59 false (bin BinOp.neq false [] z_60 z_61)).bind fun z_62 => (pickD z_59 (D.v (Value.bool true)) z_62).bind fun z_63 => (gate (D.tup []) z_63 false (some
 z_48)).bind fun z_64 => (gate (D.tup []) z_63 false (some z_50)).bind fun z_65 => (gate (D.tup []) z_63 false (bin BinOp.neq true [] z_64 z_65)).bind fun z_66 => (pickD z_63 (D.v (Value.bool true)) z_66).bind fun z_67 =>
 (gate (D.tup []) z_67 false (fldD true 3 0 b_8)).bind fun z_68 => (gate (D.tup []) z_67 false (fldD true 3 0 b_9)).bind fun z_69 => (gate (D.tup []) z_67 false (bin BinOp.neq false [1, 1, 1] z_68 z_69)).bind fun z_70 =>
 (pickD z_67 (D.v (Value.bool true)) z_70).bind fun z_71 => (gate (D.tup []) z_71 false (some z_43)).bind fun z_72 => (gate (D.tup []) z_71 false (fldD true 3 0 (sl s 1))).bind fun z_73 => gateC z_71 false (callK
 (F_impl_IsMelt [z_73]) fun rs _u => some (Out.nrm [sl rs 0])) [D.tup []] fun outs => (gate (D.tup []) z_71 false (bin BinOp.neq true [] z_72 (sl outs 0))).bind fun z_74 => (pickD z_71 (D.v (Value.bool true)) z_74).bind
 fun z_75 => ifD z_75 (some (Out.ret [D.v (Value.bool false)] [])) (ifD z_43 (callK (F_impl_ParseMelt [z]) fun rs _u => (tupAt (D.tup rs) 0).bind fun z => (tupAt (D.tup rs) 1).bind fun z_76 => (stD 3 (D.agg [D.v (Value.int
 IntKind.i64 0), D.v (Value.int IntKind.i64 0), D.v (Value.int IntKind.i64 0)]) (D.ref 0 0) z).bind fun b => (gate (D.tup []) z_76 true (fldD true 3 0 b)).bind fun z => (gate (D.tup []) z_76 true (fldD true 3 0 (sl s
 1))).bind fun z_77 => (gate (D.tup []) z_76 true (bin BinOp.eql false [1, 1, 1] z z_77)).bind fun z => (pickD z_76 z (D.v (Value.bool false))).bind fun z => some (Out.ret [z] [])) (some (Out.ret [D.v (Value.bool true)]
 [])))))))) := by kernel_rfl
end Go.Proofs.YtlphibidnkjpdaaDoor
/-
  Numbers as texts; the text of an order.
-/
namespace Go.Proofs.YtlphibidnkjpdaaDoor
open Go Go.V
set_option linter.unusedSimpArgs false

theorem e_spec_l1In (a b c : Int) : F_spec_l1In [I a, I b, I c] = some (.ret [B (decide (b ≤ a ∧ a ≤ c))] []) := by
  rw [t_spec_l1In]
  by_cases h : b ≤ a <;> simp [h]
theorem e_impl_within (a b c : Int) : F_impl_within [I a, I b, I c] = some (.ret [B (decide (b ≤ a ∧ a ≤ c))] []) := by
  rw [t_impl_within]
  by_cases h : b ≤ a <;> simp [h]

/-! ### numbers -/
/-- The decimal numeral. -/
def numT (u : Nat) : ByteArray := ⟨(Lib.decDigits u).toArray⟩
def intT (n : Int) : ByteArray := ⟨(Lib.itoa n).toArray⟩
theorem intT_nat (u : Nat) : intT (u : Int) = numT u := by
  unfold intT numT
  rw [Lib.itoa_nonneg]
theorem numT_small {u : Nat} (h : u < 10) : numT u = ⟨#[UInt8.ofNat (48 + u)]⟩ := by
  unfold numT
  rw [Lib.decDigits_one h]
theorem numT_big {u : Nat} (h : ¬ u < 10) : numT u = numT (u / 10) ++ ⟨#[UInt8.ofNat (48 + u % 10)]⟩ := by
  unfold numT
  rw [Lib.decDigits, dif_neg h]
  apply ByteArray.ext
  simp
theorem numT_size : ∀ (k u : Nat), u < 10 ^ (k + 1) → (numT u).size ≤ k + 1
  | 0, u, h => by
    rw [numT_small (by simpa using h)]
    exact Nat.le_refl _
  | k + 1, u, h => by
    by_cases hu : u < 10
    · rw [numT_small hu]
      show 1 ≤ k + 1 + 1
      omega
    · rw [numT_big hu, ByteArray.size_append]
      have h1 := numT_size k (u / 10) (by rw [Nat.pow_succ] at h; exact Nat.div_lt_of_lt_mul (by rw [Nat.mul_comm]; exact h))
      have h2 : (⟨#[UInt8.ofNat (48 + u % 10)]⟩ : ByteArray).size = 1 := rfl
      omega
theorem intT_size (k : Nat) {n : Int} (h0 : 0 ≤ n) (h1 : n < 10 ^ (k + 1)) : (intT n).size ≤ k + 1 := by
  obtain ⟨u, rfl⟩ := Int.eq_ofNat_of_zero_le h0
  rw [intT_nat]
  exact numT_size k u (by exact_mod_cast h1)
theorem byte_of (u : Nat) (h : u < 10) : bytesOf [.v (.int .u8 (48 + (u : Int)))] = some [UInt8.ofNat (48 + u)] := by
  have e : (48 + (u : Int)).toNat = 48 + u := by omega
  simp only [bytesOf, e, Option.map_some]
theorem wrap8 (a : Int) (h0 : 0 ≤ a) (h1 : a < 256) : IntKind.u8.wrap a = a := by
  have := Int.emod_eq_of_lt h0 h1
  simpa [IntKind.wrap, IntKind.bits, IntKind.signed] using this
theorem mkArr_u8 (a : Int) : mkArr 1 [.v (.int .u8 a)] = some (.arr 1 [.v (.int .u8 a)]) := by simp [mkArr, lenOkD]

theorem num_step (k u : Nat) (hu : u < 10 ^ 18) (ih : R_spec_l1Num k [I ((u / 10 : Nat) : Int)] = none ∨ R_spec_l1Num k [I ((u / 10 : Nat) : Int)] = some (.ret [T (numT (u / 10))] [])) :
    (R_spec_l1Num (k + 1) [I (u : Int)] = none ∧ R_spec_l1Num k [I ((u / 10 : Nat) : Int)] = none ∧ ¬ u < 10) ∨ R_spec_l1Num (k + 1) [I (u : Int)] = some (.ret [T (numT u)] []) := by
  rw [t_spec_l1Num]
  by_cases h : u < 10
  · right
    have h1 : (u : Int) < 10 := by omega
    have hw : IntKind.i64.wrap (48 + (u : Int)) = 48 + (u : Int) := wrap_id (by omega) (by omega)
    have hw8 := wrap8 (48 + (u : Int)) (by omega) (by omega)
    simp only [bin_lss, h1, decide_true, Option.bind_some, ifD_B, if_true, bin_add, hw, convD, hw8, mkArr_u8, strD, byte_of u h, Option.map_some, numT_small h]
  · have h1 : ¬ (u : Int) < 10 := by omega
    have hq : IntKind.i64.wrap ((u : Int).tdiv 10) = ((u / 10 : Nat) : Int) := by
      rw [Int.tdiv_eq_ediv_of_nonneg (by omega), wrap_id (by omega) (by omega)]
      omega
    have hr : (u : Int).tmod 10 = ((u % 10 : Nat) : Int) := by
      rw [Int.tmod_eq_emod_of_nonneg (by omega)]
      omega
    have hm : u % 10 < 10 := Nat.mod_lt _ (by decide)
    have hw : IntKind.i64.wrap (48 + ((u % 10 : Nat) : Int)) = 48 + ((u % 10 : Nat) : Int) := wrap_id (by omega) (by omega)
    have hw8 := wrap8 (48 + ((u % 10 : Nat) : Int)) (by omega) (by omega)
    have hs : (numT (u / 10)).size + (⟨#[UInt8.ofNat (48 + u % 10)]⟩ : ByteArray).size ≤ 1152921504606846976 := by
      have := numT_size 17 (u / 10) (by omega)
      have h2 : (⟨#[UInt8.ofNat (48 + u % 10)]⟩ : ByteArray).size = 1 := rfl
      omega
    rcases ih with e | e
    · left
      refine ⟨?_, e, h⟩
      simp only [bin_lss, h1, decide_false, Option.bind_some, ifD_B, Bool.false_eq_true, if_false, bin_quo, show ¬ (10 : Int) = 0 by decide, hq, e, callK]
    · right
      simp only [bin_lss, h1, decide_false, Option.bind_some, ifD_B, Bool.false_eq_true, if_false, bin_quo, show ¬ (10 : Int) = 0 by decide, hq, e, callK_ret, bin_rem, hr, bin_add, hw, convD, hw8, mkArr_u8, strD,
        byte_of _ hm, Option.map_some, sl_zero, bin_addS, hs, if_true, numT_big h]
theorem num_or : ∀ (k u : Nat), u < 10 ^ 18 → R_spec_l1Num k [I (u : Int)] = none ∨ R_spec_l1Num k [I (u : Int)] = some (.ret [T (numT u)] [])
  | 0, _, _ => .inl rfl
  | k + 1, u, hu => (num_step k u hu (num_or k (u / 10) (by omega))).imp (fun h => h.1) id
theorem num_big : ∀ (k u : Nat), u < 10 ^ 18 → u < 10 ^ (k + 1) → R_spec_l1Num (k + 1) [I (u : Int)] = some (.ret [T (numT u)] [])
  | 0, u, hu, h => by
    rcases num_step 0 u hu (num_or 0 _ (by omega)) with ⟨_, _, h1⟩ | h1
    · exact absurd (by simpa using h) h1
    · exact h1
  | k + 1, u, hu, h => by
    rcases num_step (k + 1) u hu (num_or (k + 1) _ (by omega)) with ⟨_, h1, _⟩ | h1
    · rw [num_big k (u / 10) (by omega) (by rw [Nat.pow_succ] at h; exact Nat.div_lt_of_lt_mul (by rw [Nat.mul_comm]; exact h))] at h1
      cases h1
    · exact h1
theorem e_spec_l1Num {n : Int} (h0 : 0 ≤ n) (h1 : n < 1000000000000000000) : F_spec_l1Num [I n] = some (.ret [T (intT n)] []) := by
  obtain ⟨u, rfl⟩ := Int.eq_ofNat_of_zero_le h0
  have hu : u < 10 ^ 18 := by omega
  rw [intT_nat]
  refine recF_eq (fun k o ho => ?_) 18 (num_big 17 u hu hu)
  rcases num_or k u hu with e | e
  · rw [e] at ho; cases ho
  · rw [e] at ho; cases ho; rfl
theorem e_Itoa {n : Int} (h0 : -9223372036854775808 ≤ n) (h1 : n ≤ 9223372036854775807) : fItoa [I n] = some (.ret [T (intT n)] []) := by
  simp only [fItoa, h0, h1, and_self, if_true]
  rfl

/-! ### orders -/
/-- A text of few bytes. -/
theorem addS {a b : ByteArray} {bl : Bool} {eq : List Nat} (h : a.size + b.size ≤ 1152921504606846976) : bin .add bl eq (T a) (T b) = some (T (a ++ b)) := by rw [bin_addS, if_pos h]
theorem sz1 (a : UInt8) : (⟨#[a]⟩ : ByteArray).size = 1 := rfl
theorem sz4 (a b c d : UInt8) : (⟨#[a, b, c, d]⟩ : ByteArray).size = 4 := rfl
end Go.Proofs.YtlphibidnkjpdaaDoor
/-
  More laws of loops; letters; cases.
-/
namespace Go.Proofs.YtlphibidnkjpdaaDoor
open Go Go.V
set_option linter.unusedSimpArgs false

/-- The first place where something holds. -/
def findI {β : Type} (p : β → Bool) : Nat → List β → Option Nat
  | _, [] => none
  | i, x :: l => if p x = true then some i else findI p (i + 1) l
theorem loop_find {β : Type} {body : List D → Option Out} (l : List β) (st : Nat → List D) (p : β → Bool) (o1 : Nat → Out) (o2 : Out) (hs : ∀ (i : Nat) (hi : i < l.length), body (st i) = some (if p l[i] = true then o1 i else .nrm (st (i + 1)))) (he : body (st l.length) = some o2)
    (h1 : ∀ i, (o1 i).ends = true) (h2 : o2.ends = true) {s0 : List D} (h : s0 = st 0) : loopC body s0 = some ((findI p 0 l).elim o2 o1) := by
  have e : ∀ (m : List β) (i : Nat), goL (fun i x (_ : Unit) => if p x = true then .inr (o1 i) else .inl ()) (fun _ => o2) i m () = (findI p i m).elim o2 o1 := by
    intro m
    induction m with
    | nil => intro i; simp [goL, findI]
    | cons x m ih =>
      intro i
      simp only [goL, findI]
      by_cases hp : p x = true
      · simp [hp]
      · simp [hp, ih]
  rw [← e]
  refine loop_list l (fun i _ => st i) (fun _ _ => True) _ _ (fun i x a hx _ => ?_) (fun _ _ => ⟨he, h2⟩) () trivial h
  have hi : i < l.length := (List.getElem?_eq_some_iff.1 hx).1
  have hxe : l[i] = x := (List.getElem?_eq_some_iff.1 hx).2
  have := hs i hi
  rw [hxe] at this
  by_cases hp : p x = true
  · simpa [hp, h1] using this
  · simpa [hp] using this
/-- All is well, and something is gathered. -/
theorem loop_allf {α β : Type} {body : List D → Option Out} (l : List β) (st : Nat → α → List D) (Inv : Nat → α → Prop) (p : Nat → β → Bool) (f : α → β → α) (o1 : Out) (fin : α → Out) (a : α) (hs : ∀ (i : Nat) (a : α) (hi : i < l.length), Inv i a → body (st i a) = some (if p i l[i] = true then .nrm (st (i + 1) (f a l[i])) else o1) ∧ (p i l[i] = true → Inv (i + 1) (f a l[i])))
    (he : ∀ a, Inv l.length a → body (st l.length a) = some (fin a)) (h1 : o1.ends = true) (h2 : ∀ a, (fin a).ends = true) (h0 : Inv 0 a) {s0 : List D} (h : s0 = st 0 a) : loopC body s0 = some (if allI p 0 l = true then fin (l.foldl f a) else o1) := by
  have e : ∀ (m : List β) (i : Nat) (a : α), goL (fun i x (a : α) => if p i x = true then .inl (f a x) else .inr o1) fin i m a = if allI p i m = true then fin (m.foldl f a) else o1 := by
    intro m
    induction m with
    | nil => intro i a; simp [goL, allI]
    | cons x m ih =>
      intro i a
      simp only [goL, allI, List.foldl_cons]
      by_cases hp : p i x = true
      · simp [hp, ih]
      · simp [hp]
  rw [← e]
  refine loop_list l st Inv _ _ (fun i x a hx hI => ?_) (fun a hI => ⟨he a hI, h2 a⟩) a h0 h
  have hi : i < l.length := (List.getElem?_eq_some_iff.1 hx).1
  have hxe : l[i] = x := (List.getElem?_eq_some_iff.1 hx).2
  have := hs i a hi hI
  rw [hxe] at this
  by_cases hp : p i x = true
  · simpa [hp] using this
  · simpa [hp, h1] using this
def chars (s : ByteArray) : List UInt8 := s.data.toList
theorem charD_nat {s : ByteArray} {k : IntKind} {i : Nat} : charD (T s) (.v (.int k (i : Int))) = ((chars s)[i]?).map fun b => U b.toNat := by simp [charD, chars]
theorem size_list (s : ByteArray) : s.size = (chars s).length := rfl
theorem bin_geqS {a b : ByteArray} {bl : Bool} {eq : List Nat} : bin .geq bl eq (T a) (T b) = some (B (!Op.bytesLess a.toList b.toList)) := by simp [bin, strBin]

/-! ### letters -/
/-! ### cases -/
end Go.Proofs.YtlphibidnkjpdaaDoor
/-
  Texts cut at a byte.
-/
namespace Go.Proofs.YtlphibidnkjpdaaDoor
open Go Go.V
set_option linter.unusedSimpArgs false

theorem chars_inj {a b : ByteArray} (h : chars a = chars b) : a = b := by
  cases a with | mk a => cases b with | mk b =>
    cases a with | mk a => cases b with | mk b =>
      simp [chars] at h
      rw [h]
theorem chars_extract (s : ByteArray) (i j : Nat) : chars (s.extract i j) = ((chars s).take j).drop i := by
  simp [chars, List.drop_take]
theorem chars_mk (l : List UInt8) : chars ⟨l.toArray⟩ = l := by simp [chars]
theorem mk_chars (s : ByteArray) : (⟨(chars s).toArray⟩ : ByteArray) = s := chars_inj (chars_mk _)
theorem chars_append (a b : ByteArray) : chars (a ++ b) = chars a ++ chars b := by simp [chars]
theorem sliceS {s : ByteArray} {z i j : Nat} (h1 : i ≤ j) (h2 : j ≤ s.size) : sliceD true z (T s) (I (i : Int)) (I (j : Int)) = some (T (s.extract i j)) := by
  simp only [sliceD, Int.toNat_natCast]
  rw [if_pos (by omega)]
theorem sliceHiS {s : ByteArray} {z i : Nat} (h : i ≤ s.size) : sliceHi true z (T s) (I (i : Int)) = some (T (s.extract i s.size)) := by
  simp only [sliceHi, Int.toNat_natCast]
  rw [if_pos (by omega)]

/-! ### the pieces -/
def consH (x : UInt8) : List (List UInt8) → List (List UInt8)
  | [] => [[x]]
  | h :: t => (x :: h) :: t
/-- A text cut at each c. -/
def splitL (c : UInt8) : List UInt8 → List (List UInt8)
  | [] => [[]]
  | x :: l => if x = c then [] :: splitL c l else consH x (splitL c l)
theorem splitL_ne (c : UInt8) (l : List UInt8) : splitL c l ≠ [] := by
  cases l with
  | nil => simp [splitL]
  | cons x l =>
    simp only [splitL]
    split
    · simp
    · cases splitL c l <;> simp [consH]
theorem splitL_miss {c : UInt8} : ∀ {l : List UInt8}, c ∉ l → splitL c l = [l]
  | [], _ => rfl
  | x :: l, h => by
    simp only [List.mem_cons, not_or] at h
    simp only [splitL]
    rw [if_neg (Ne.symm h.1), splitL_miss h.2]
    rfl
theorem splitL_hit {c : UInt8} {b : List UInt8} : ∀ {a : List UInt8}, c ∉ a → splitL c (a ++ c :: b) = a :: splitL c b
  | [], _ => by simp [splitL]
  | x :: a, h => by
    simp only [List.mem_cons, not_or] at h
    rw [List.cons_append]
    simp only [splitL]
    rw [if_neg (Ne.symm h.1), splitL_hit h.2]
    rfl
theorem splitL_snoc (c x : UInt8) : ∀ (l : List UInt8) (o : List (List UInt8)) (p : List UInt8), splitL c l = o ++ [p] → splitL c (l ++ [x]) = if x = c then (o ++ [p]) ++ [[]] else o ++ [p ++ [x]]
  | [], o, p, h => by
    have h : [[]] = o ++ [p] := h
    have : o = [] ∧ p = [] := by
      cases o with
      | nil => simpa using h.symm
      | cons y o => cases o <;> simp at h
    obtain ⟨rfl, rfl⟩ := this
    simp only [List.nil_append, splitL]
    split <;> rfl
  | y :: l, o, p, h => by
    simp only [splitL] at h
    rw [List.cons_append]
    simp only [splitL]
    by_cases hy : y = c
    · rw [if_pos hy] at h ⊢
      cases o with
      | nil => exact absurd (List.cons.inj h).2 (splitL_ne c l)
      | cons z o =>
        rw [List.cons_append, List.cons.injEq] at h
        obtain ⟨rfl, h⟩ := h
        rw [splitL_snoc c x l o p h]
        split <;> rfl
    · rw [if_neg hy] at h ⊢
      generalize hs : splitL c l = s at h
      cases s with
      | nil => exact absurd hs (splitL_ne c l)
      | cons z s =>
        simp only [consH] at h
        cases o with
        | nil =>
          have : s = [] ∧ p = y :: z := by
            rw [List.nil_append, List.cons.injEq] at h
            exact ⟨h.2, h.1.symm⟩
          obtain ⟨rfl, rfl⟩ := this
          rw [splitL_snoc c x l [] z hs]
          split <;> simp [consH]
        | cons w o =>
          rw [List.cons_append, List.cons.injEq] at h
          obtain ⟨rfl, h⟩ := h
          rw [splitL_snoc c x l (z :: o) p (by rw [hs, h]; rfl)]
          split <;> simp [consH]

/-! ### the library's own words -/
theorem index_spec (c : UInt8) : ∀ (l : List UInt8), (Lib.index l [c] = -1 ∧ c ∉ l) ∨ ∃ a b, l = a ++ c :: b ∧ c ∉ a ∧ Lib.index l [c] = a.length
  | [] => .inl ⟨by simp [Lib.index], by simp⟩
  | x :: l => by
    rw [Lib.index_one]
    simp only [Lib.indexByte]
    by_cases hx : x = c
    · subst hx
      exact .inr ⟨[], l, rfl, by simp, by simp⟩
    · have ih := index_spec c l
      rw [Lib.index_one] at ih
      rw [if_neg (by simpa using hx)]
      rcases ih with ⟨h1, h2⟩ | ⟨a, b, rfl, h2, h3⟩
      · exact .inl ⟨by rw [h1]; rfl, by simp [h2, Ne.symm hx]⟩
      · refine .inr ⟨x :: a, b, rfl, by simp [h2, Ne.symm hx], ?_⟩
        rw [if_neg (by rw [h3]; simp), h3]
        simp
theorem splitK_eq (c : UInt8) : ∀ (n : Nat) (l : List UInt8), l.length ≤ n → Lib.splitK [c] 0 (Lib.count l [c]) l = splitL c l
  | n, l, hn => by
    rcases index_spec c l with ⟨h1, h2⟩ | ⟨a, b, rfl, h2, h3⟩
    · rw [Lib.count_miss h1, splitL_miss h2]
      rfl
    · rw [Lib.count_hit (by simp) h3, splitL_hit h2, Nat.add_comm 1]
      have hb : (a ++ c :: b).drop (a.length + [c].length) = b := by
        rw [← List.drop_drop]
        simp
      cases n with
      | zero => simp at hn
      | succ n =>
        rw [hb]
        unfold Lib.splitK
        rw [if_neg (by rw [h3]; simp), h3]
        have e : ((a.length : Int)).toNat = a.length := by omega
        rw [e, hb, splitK_eq c n b (by simp at hn; omega)]
        simp
/-- A text cut at each c. -/
def splitT (c : UInt8) (s : ByteArray) : List ByteArray := (splitL c (chars s)).map fun l => ⟨l.toArray⟩
theorem splitOf_eq (c : UInt8) (s : ByteArray) : splitOf s ⟨#[c]⟩ = splitT c s := by
  have h : (splitOf s ⟨#[c]⟩).map chars = splitL c (chars s) := by
    have := Lib.splitB_data ⟨#[c]⟩ 0 (Lib.countB s ⟨#[c]⟩) s
    rw [show (fun x : ByteArray => x.data.toList) = chars from rfl] at this
    rw [splitOf, this]
    exact splitK_eq c _ _ (Nat.le_refl _)
  have h2 : (splitOf s ⟨#[c]⟩).map (fun x => (⟨(chars x).toArray⟩ : ByteArray)) = splitT c s := by
    rw [splitT, ← h, List.map_map]
    rfl
  rw [← h2]
  have : (fun x : ByteArray => (⟨(chars x).toArray⟩ : ByteArray)) = id := funext mk_chars
  rw [this, List.map_id]
theorem e_Split {c : UInt8} {s : ByteArray} (h : s.size < 4294967281) : fSplit [T s, T ⟨#[c]⟩] = some (.ret [.arr 1 ((splitT c s).map T)] []) := by
  have h1 : 1 ≤ (⟨#[c]⟩ : ByteArray).size := Nat.le_refl 1
  simp only [fSplit, h, h1, and_self, if_true, splitOf_eq]
theorem cut_miss {c : UInt8} {l : List UInt8} (h : c ∉ l) : Lib.cut l [c] = (l, [], false) := by
  rcases index_spec c l with ⟨h1, _⟩ | ⟨a, b, rfl, _, _⟩
  · unfold Lib.cut
    rw [h1, if_neg (by decide)]
  · simp at h
theorem cut_hit {c : UInt8} {a b : List UInt8} (h : c ∉ a) : Lib.cut (a ++ c :: b) [c] = (a, b, true) := by
  rcases index_spec c (a ++ c :: b) with ⟨_, h2⟩ | ⟨a', b', e, h2, h3⟩
  · simp at h2
  · have hl : a.length = a'.length := by
      have key : ∀ (a a' b b' : List UInt8), c ∉ a → c ∉ a' → a ++ c :: b = a' ++ c :: b' → a.length = a'.length := by
        intro a
        induction a with
        | nil =>
          intro a' b b' _ h2 e
          cases a' with
          | nil => rfl
          | cons y a' =>
            simp at e
            simp [e.1] at h2
        | cons x a ih =>
          intro a' b b' h1 h2 e
          cases a' with
          | nil =>
            simp at e
            simp [e.1] at h1
          | cons y a' =>
            simp at e h1 h2 ⊢
            exact ih a' b b' h1.2 h2.2 e.2
      exact key a a' b b' h h2 e
    unfold Lib.cut
    rw [h3, if_pos (by omega)]
    have e2 : ((a'.length : Int)).toNat = a.length := by omega
    rw [e2]
    have hb : (a ++ c :: b).drop (a.length + [c].length) = b := by
      rw [← List.drop_drop]
      simp
    rw [hb]
    simp

theorem splitL_length (c : UInt8) : ∀ (l : List UInt8), (splitL c l).length ≤ l.length + 1
  | [] => by simp [splitL]
  | x :: l => by
    have ih := splitL_length c l
    simp only [splitL]
    split
    · simp; omega
    · generalize splitL c l = s at ih
      cases s <;> simp [consH] at ih ⊢ <;> omega
theorem one_text (s : ByteArray) : mkArr 1 [T s] = some (.arr 1 [T s]) := by simp [mkArr, lenOkD]
theorem chkA_texts (l : List ByteArray) : chkA (.arr 1 (l.map T)) = some (.arr 1 (l.map T)) := chkA_map fun _ => rfl

theorem e_spec_l1Split (s : ByteArray) (c : UInt8) (h : s.size ≤ 4294967296) : F_spec_l1Split [T s, U c.toNat] = some (.ret [.arr 1 ((splitT c s).map T)] []) := by
  rw [t_spec_l1Split]
  let mk : List UInt8 → ByteArray := fun l => ⟨l.toArray⟩
  refine loop_wf_bind (fun r => r = _) (fun (a : List (List UInt8) × Nat × Nat) => [T s, U c.toNat, .arr 1 ((a.1.map mk).map T), I (a.2.1 : Int), I (a.2.2 : Int)])
    (fun a => a.2.2 ≤ s.size ∧ a.2.1 ≤ a.2.2 ∧ a.1.length ≤ a.2.2 ∧ splitL c ((chars s).take a.2.2) = a.1 ++ [((chars s).take a.2.2).drop a.2.1])
    (fun a => s.size - a.2.2) (fun o => ∃ (outs : List (List UInt8)) (fr : Nat), o = .ext 0 [T s, .arr 1 ((outs.map mk).map T), I (fr : Int)] ∧ fr ≤ s.size ∧ outs.length ≤ s.size ∧ splitL c (chars s) = outs ++ [(chars s).drop fr])
    ?_ ([], 0, 0) ⟨Nat.zero_le _, Nat.le_refl _, Nat.le_refl _, by simp [splitL]⟩ rfl ?_
  · rintro ⟨outs, fr, i⟩ ⟨h1, h2, h3, h4⟩
    simp only at h1 h2 h3 h4
    by_cases hi : i < s.size
    · left
      have hl : i < (chars s).length := by rw [← size_list]; exact hi
      have hi' : (i : Int) < (s.size : Int) := by omega
      have hw : IntKind.i64.wrap ((i : Int) + 1) = ((i + 1 : Nat) : Int) := by rw [wrap_id (by omega) (by omega)]; omega
      have hch : charD (T s) (I (i : Int)) = some (U ((chars s)[i].toNat : Int)) := by
        rw [charD_nat, List.getElem?_eq_getElem hl]
        rfl
      have htk : (chars s).take (i + 1) = (chars s).take i ++ [(chars s)[i]] := List.take_succ_eq_append_getElem hl
      have hdr : ((chars s).take i ++ [(chars s)[i]]).drop fr = ((chars s).take i).drop fr ++ [(chars s)[i]] := by
        rw [List.drop_append_of_le_length (by rw [List.length_take]; omega)]
      by_cases hc : (chars s)[i] = c
      · refine ⟨(outs ++ [((chars s).take i).drop fr], i + 1, i + 1), ?_, ⟨by simp only; omega, Nat.le_refl _, by simp; omega, ?_⟩, by simp only; omega⟩
        · have hsl := sliceS (s := s) (z := 0) (i := fr) (j := i) h2 (by omega)
          have hmk : mk (((chars s).take i).drop fr) = s.extract fr i := chars_inj (by rw [chars_extract]; exact chars_mk _)
          have hap : (outs.length + 1) * 16 ≤ 140737488355328 ∧ outs.length + 1 ≤ 1152921504606846976 := by omega
          have e2 : (outs ++ [((chars s).take i).drop fr]).map mk = outs.map mk ++ [s.extract fr i] := by rw [List.map_append, List.map_cons, List.map_nil, hmk]
          have e1 : ((outs.map mk).map T).length + [T (s.extract fr i)].length = outs.length + 1 := by simp
          have hck : chkA (.arr 1 [T (s.extract fr i)]) = some (.arr 1 [T (s.extract fr i)]) := chkA_texts [s.extract fr i]
          simp only [sl_zero, sl_succ, lenD_str, Option.bind_some, bin_lss, hi', decide_true, ifD_B, if_true, hch, bin_eql, hc, hsl, one_text, hck, appD_eq, e1, hap, and_self, bin_add, hw, e2, List.map_append, List.map_cons, List.map_nil]
        · have := splitL_snoc c (chars s)[i] _ _ _ h4
          rw [if_pos hc, ← htk] at this
          simp only
          have hz : ((chars s).take (i + 1)).drop (i + 1) = [] := List.drop_eq_nil_of_le (by rw [List.length_take]; omega)
          rw [this, hz]
      · refine ⟨(outs, fr, i + 1), ?_, ⟨by simp only; omega, by simp only; omega, by simp only; omega, ?_⟩, by simp only; omega⟩
        · have hne : ¬ ((chars s)[i].toNat : Int) = (c.toNat : Int) := fun e => hc (UInt8.toNat_inj.1 (by omega))
          simp only [sl_zero, sl_succ, lenD_str, Option.bind_some, bin_lss, hi', decide_true, ifD_B, if_true, hch, bin_eql, hne, decide_false, Bool.false_eq_true, if_false, bin_add, hw]
        · have := splitL_snoc c (chars s)[i] _ _ _ h4
          rw [if_neg hc, ← htk] at this
          simp only
          rw [this, htk, hdr]
    · right
      have hi' : ¬ (i : Int) < (s.size : Int) := by omega
      have hie : i = s.size := by omega
      refine ⟨_, ?_, rfl, outs, fr, rfl, by omega, by omega, ?_⟩
      · simp only [sl_zero, sl_succ, lenD_str, Option.bind_some, bin_lss, hi', decide_false, ifD_B, Bool.false_eq_true, if_false]
      · rw [hie, size_list, List.take_length] at h4
        exact h4
  · rintro o ⟨outs, fr, rfl, h1, h2, h3⟩
    have hsl := sliceHiS (s := s) (z := 0) (i := fr) h1
    have hmk : mk ((chars s).drop fr) = s.extract fr s.size := chars_inj (by rw [chars_extract, size_list, List.take_length]; exact chars_mk _)
    have hap : (outs.length + 1) * 16 ≤ 140737488355328 ∧ outs.length + 1 ≤ 1152921504606846976 := by omega
    have e1 : ((outs.map mk).map T).length + [T (s.extract fr s.size)].length = outs.length + 1 := by simp
    have hck : chkA (.arr 1 [T (s.extract fr s.size)]) = some (.arr 1 [T (s.extract fr s.size)]) := chkA_texts [s.extract fr s.size]
    have e2 : splitT c s = outs.map mk ++ [s.extract fr s.size] := by rw [splitT, h3, List.map_append, List.map_cons, List.map_nil]; exact congrArg _ (congrArg (fun x => [x]) hmk)
    simp only [outK_ext, Nat.beq_refl, ifN_B, if_true, sl_zero, sl_succ, hsl, Option.bind_some, one_text, hck, appD_eq, e1, hap, and_self, e2, List.map_append, List.map_cons, List.map_nil]
end Go.Proofs.YtlphibidnkjpdaaDoor
/-
  Numbers read out of texts: the plain laws; 'l1Read', 'numbersIn'.
-/
namespace Go.Proofs.YtlphibidnkjpdaaDoor
open Go Go.V
set_option linter.unusedSimpArgs false

/-! ### digits -/
def dig (b : UInt8) : Bool := decide (48 ≤ b.toNat) && decide (b.toNat ≤ 57)
theorem dig_iff {b : UInt8} : dig b = true ↔ 48 ≤ b.toNat ∧ b.toNat ≤ 57 := by simp [dig]
theorem toNat_digit {u : Nat} (h : u < 10) : (UInt8.ofNat (48 + u)).toNat = 48 + u := by
  simp
  omega
theorem dig_ofNat {u : Nat} (h : u < 10) : dig (UInt8.ofNat (48 + u)) = true := by
  rw [dig_iff, toNat_digit h]
  omega
theorem decDigits_step {u : Nat} (h : ¬ u < 10) : Lib.decDigits u = Lib.decDigits (u / 10) ++ [UInt8.ofNat (48 + u % 10)] := by rw [Lib.decDigits, dif_neg h]
theorem decDigits_ind {P : Nat → Prop} (h0 : ∀ u, u < 10 → P u) (h1 : ∀ u, ¬ u < 10 → P (u / 10) → P u) : ∀ u, P u := by
  intro u
  induction u using Nat.strongRecOn with
  | _ u ih =>
    by_cases h : u < 10
    · exact h0 u h
    · exact h1 u h (ih (u / 10) (by omega))
theorem decDigits_dig : ∀ u, ∀ b ∈ Lib.decDigits u, dig b = true := by
  refine decDigits_ind (fun u h b hb => ?_) (fun u h ih b hb => ?_)
  · rw [Lib.decDigits_one h] at hb
    rw [List.mem_singleton.1 hb]
    exact dig_ofNat h
  · rw [decDigits_step h] at hb
    rcases List.mem_append.1 hb with hb | hb
    · exact ih b hb
    · rw [List.mem_singleton.1 hb]
      exact dig_ofNat (Nat.mod_lt u (show 10 > 0 by decide))
theorem decDigits_ne : ∀ u, Lib.decDigits u ≠ [] := by
  refine decDigits_ind (fun u h => ?_) (fun u h ih => ?_)
  · rw [Lib.decDigits_one h]; simp
  · rw [decDigits_step h]; simp
/-- The first digit is 0 just at 0. -/
theorem decDigits_head : ∀ u, 0 < u → ∀ b t, Lib.decDigits u = b :: t → b ≠ 48 := by
  refine decDigits_ind (fun u h h0 b t e => ?_) (fun u h ih h0 b t e => ?_)
  · rw [Lib.decDigits_one h] at e
    obtain ⟨rfl, _⟩ := List.cons.inj e
    intro e2
    have := congrArg UInt8.toNat e2
    rw [toNat_digit h] at this
    have h48 : (48 : UInt8).toNat = 48 := rfl
    omega
  · rw [decDigits_step h] at e
    cases hd : Lib.decDigits (u / 10) with
    | nil => exact absurd hd (decDigits_ne _)
    | cons b' t' =>
      rw [hd, List.cons_append] at e
      obtain ⟨rfl, _⟩ := List.cons.inj e
      exact ih (by omega) _ _ hd
/-- What digits spell. -/
def valF (a : Nat) (l : List UInt8) : Nat := l.foldl (fun a b => a * 10 + (b.toNat - 48)) a
theorem valF_dec : ∀ u, valF 0 (Lib.decDigits u) = u := by
  refine decDigits_ind (fun u h => ?_) (fun u h ih => ?_)
  · rw [Lib.decDigits_one h]
    simp only [valF, List.foldl_cons, List.foldl_nil, toNat_digit h]
    omega
  · rw [decDigits_step h]
    simp only [valF] at ih ⊢
    rw [List.foldl_append, ih]
    simp only [List.foldl_cons, List.foldl_nil, toNat_digit (Nat.mod_lt u (show 10 > 0 by decide))]
    omega

/-! ### strconv.Atoi -/
theorem parse_append : ∀ (l r : List UInt8) (a b : Nat), Lib.parseUint10 a l = .ok b → Lib.parseUint10 a (l ++ r) = Lib.parseUint10 b r
  | [], r, a, b, h => by
    simp only [Lib.parseUint10] at h
    injection h with h
    subst h
    rfl
  | c :: l, r, a, b, h => by
    simp only [Lib.parseUint10] at h
    rw [List.cons_append]
    simp only [Lib.parseUint10]
    split at h
    · rename_i h1
      rw [if_pos h1]
      split at h
      · cases h
      · rename_i h2
        rw [if_neg h2]
        split at h
        · cases h
        · rename_i h3
          rw [if_neg h3]
          exact parse_append l r _ b h
    · cases h
theorem parse_dec : ∀ u, u < 1844674407370955162 → Lib.parseUint10 0 (Lib.decDigits u) = .ok u := by
  refine decDigits_ind (fun u h hu => ?_) (fun u h ih hu => ?_)
  · rw [Lib.decDigits_one h]
    simp only [Lib.parseUint10, toNat_digit h]
    rw [if_pos (by omega), if_neg (by omega), if_neg (by omega)]
    congr 1
    omega
  · have h10 := toNat_digit (Nat.mod_lt u (show 10 > 0 by decide))
    rw [decDigits_step h, parse_append _ _ _ _ (ih (by omega))]
    simp only [Lib.parseUint10, h10]
    rw [if_pos (by omega), if_neg (by omega), if_neg (by omega)]
    congr 1
    omega
theorem atoi_dec {u : Nat} (h : u < 1844674407370955162) : Lib.atoiAll (Lib.decDigits u) = .ok (u : Int) := by
  have hp := parse_dec u h
  cases hd : Lib.decDigits u with
  | nil => exact absurd hd (decDigits_ne u)
  | cons c r =>
    have hc := dig_iff.1 (decDigits_dig u c (by rw [hd]; simp))
    rw [hd] at hp
    unfold Lib.atoiAll
    simp only
    rw [if_neg (by omega)]
    unfold Lib.parseMag
    rw [if_neg (by simp), hp]
    simp only
    have h45 : ¬ c.toNat = 45 := by omega
    rw [if_neg (by omega), if_neg (by simp [h45]), if_neg h45]

/-! ### the fields of a text -/
def sepB (b : UInt8) : Bool := isSep b.toNat
theorem sepB_dig (b : UInt8) : sepB b = !dig b := by
  simp only [sepB, isSep, dig]
  by_cases h1 : b.toNat < 48 <;> by_cases h2 : 57 < b.toNat <;> simp [h1, h2] <;> omega
def flds : Option (List UInt8) → List UInt8 → List (List UInt8)
  | none, [] => []
  | some c, [] => [c]
  | none, b :: l => if sepB b = true then flds none l else flds (some [b]) l
  | some c, b :: l => if sepB b = true then c :: flds none l else flds (some (c ++ [b])) l
theorem flds_sep : ∀ {a : List UInt8} (l : List UInt8), (∀ b ∈ a, dig b = false) → flds none (a ++ l) = flds none l
  | [], _, _ => rfl
  | x :: a, l, h => by
    rw [List.cons_append]
    simp only [flds]
    rw [if_pos (by rw [sepB_dig, h x (by simp)]; rfl)]
    exact flds_sep l fun b hb => h b (by simp [hb])
theorem flds_cur : ∀ {w : List UInt8} (c l : List UInt8), (∀ b ∈ w, dig b = true) → flds (some c) (w ++ l) = flds (some (c ++ w)) l
  | [], c, l, _ => by simp
  | x :: w, c, l, h => by
    rw [List.cons_append]
    simp only [flds]
    rw [if_neg (by rw [sepB_dig, h x (by simp)]; simp), flds_cur (c ++ [x]) l fun b hb => h b (by simp [hb])]
    simp
theorem flds_word {w : List UInt8} (hn : w ≠ []) (h : ∀ b ∈ w, dig b = true) {x : UInt8} (hx : dig x = false) (l : List UInt8) : flds none (w ++ x :: l) = w :: flds none l := by
  cases w with
  | nil => exact absurd rfl hn
  | cons y w =>
    rw [List.cons_append]
    simp only [flds]
    rw [if_neg (by rw [sepB_dig, h y (by simp)]; simp), flds_cur [y] _ fun b hb => h b (by simp [hb])]
    simp only [flds]
    rw [if_pos (by rw [sepB_dig, hx]; rfl)]
    rfl
theorem flds_last {w : List UInt8} (hn : w ≠ []) (h : ∀ b ∈ w, dig b = true) : flds none w = [w] := by
  cases w with
  | nil => exact absurd rfl hn
  | cons y w =>
    simp only [flds]
    rw [if_neg (by rw [sepB_dig, h y (by simp)]; simp)]
    have := flds_cur (w := w) [y] [] fun b hb => h b (by simp [hb])
    rw [List.append_nil] at this
    rw [this]
    rfl

theorem fields_spans (s : ByteArray) (hs : ∀ b ∈ chars s, b.toNat < 128) : ∀ (f pos : Nat) (st : Option Nat) (acc : List (Nat × Nat)), s.size ≤ pos + f → pos ≤ s.size → (∀ a, st = some a → a < pos) →
    (Lib.closeSpans s (Lib.spansFromP isSep s f pos st acc)).map (fun x => chars (s.extract x.1 x.2)) = acc.map (fun x => chars (s.extract x.1 x.2)) ++ flds (st.map fun a => ((chars s).take pos).drop a) ((chars s).drop pos) := by
  intro f
  induction f with
  | zero =>
    intro pos st acc h1 h2 h3
    have hp : pos = s.size := by omega
    have hd : (chars s).drop pos = [] := List.drop_eq_nil_of_le (by rw [← size_list]; omega)
    rw [hd]
    cases st with
    | none => simp [Lib.spansFromP, Lib.closeSpans, flds]
    | some a => simp only [Lib.spansFromP, Lib.closeSpans, flds, Option.map_some, List.map_append, List.map_cons, List.map_nil, chars_extract, hp]
  | succ f ih =>
    intro pos st acc h1 h2 h3
    by_cases hp : pos < s.size
    case neg =>
      have hpe : pos = s.size := by omega
      have hd : (chars s).drop pos = [] := List.drop_eq_nil_of_le (by rw [← size_list]; omega)
      rw [hd, Lib.spansFromP_end _ _ _ _ _ _ hp]
      cases st with
      | none => simp [Lib.closeSpans, flds]
      | some a => simp only [Lib.closeSpans, flds, Option.map_some, List.map_append, List.map_cons, List.map_nil, chars_extract, hpe]
    have hl : pos < (chars s).length := by rw [← size_list]; exact hp
    have hb : (chars s)[pos].toNat < 128 := hs _ (List.getElem_mem hl)
    have hdec : Utf8.decode s pos = ((chars s)[pos].toNat, 1) := decode_ascii s pos hp hb
    have hcons : (chars s).drop pos = (chars s)[pos] :: (chars s).drop (pos + 1) := List.drop_eq_getElem_cons hl
    have htk : (chars s).take (pos + 1) = (chars s).take pos ++ [(chars s)[pos]] := List.take_succ_eq_append_getElem hl
    rw [hcons]
    unfold Lib.spansFromP
    rw [if_pos hp, hdec]
    simp only
    by_cases hsep : isSep (chars s)[pos].toNat = true
    · rw [if_pos hsep]
      cases st with
      | none =>
        simp only [Option.map_none, flds]
        rw [if_pos (show sepB _ = true from hsep)]
        exact ih (pos + 1) none acc (by omega) (by omega) (by simp)
      | some a =>
        simp only [Option.map_some, flds]
        rw [if_pos (show sepB _ = true from hsep), ih (pos + 1) none (acc ++ [(a, pos)]) (by omega) (by omega) (by simp)]
        simp only [List.map_append, List.map_cons, List.map_nil, List.append_assoc, chars_extract, Option.map_none, List.cons_append, List.nil_append]
    · rw [if_neg hsep]
      cases st with
      | none =>
        simp only [Option.map_none, flds]
        rw [if_neg (show ¬ sepB _ = true from hsep), ih (pos + 1) (some pos) acc (by omega) (by omega) (by intro a ha; cases ha; omega)]
        simp only [Option.map_some]
        rw [htk, List.drop_append_of_le_length (by rw [List.length_take]; omega), List.drop_eq_nil_of_le (by rw [List.length_take]; omega)]
        rfl
      | some a =>
        have ha := h3 a rfl
        simp only [Option.map_some, flds]
        rw [if_neg (show ¬ sepB _ = true from hsep), ih (pos + 1) (some a) acc (by omega) (by omega) (by intro a' ha'; cases ha'; omega)]
        simp only [Option.map_some]
        rw [htk, List.drop_append_of_le_length (by rw [List.length_take]; omega)]
theorem fields_ascii (s : ByteArray) (hs : ∀ b ∈ chars s, b.toNat < 128) : (Lib.goFieldsP isSep s).map chars = flds none (chars s) := by
  have := fields_spans s hs s.size 0 none [] (by omega) (Nat.zero_le _) (by simp)
  simpa [Lib.goFieldsP, Lib.spansOfP, List.map_map, Function.comp_def] using this

/-! ### numbersIn -/
/-- The numbers that words spell; none, if one is no number. -/
def numsG : List ByteArray → List Int → List Int
  | [], acc => acc
  | w :: l, acc => match Lib.atoiAll (chars w) with
    | .ok v => numsG l (acc ++ [v])
    | _ => []
def numsT (s : ByteArray) : List Int := numsG (Lib.goFieldsP isSep s) []
abbrev ints (l : List Int) : D := .arr 1 (l.map I)
theorem spans_length (p : Nat → Bool) (s : ByteArray) : ∀ (f pos : Nat) (st : Option Nat) (acc : List (Nat × Nat)), (Lib.spansFromP p s f pos st acc).1.length ≤ acc.length + f
  | 0, pos, st, acc => by simp [Lib.spansFromP]
  | f + 1, pos, st, acc => by
    unfold Lib.spansFromP
    by_cases hp : pos < s.size
    case neg =>
      rw [if_neg hp]
      exact Nat.le_add_right _ _
    rw [if_pos hp]
    by_cases hq : p (Utf8.decode s pos).1 = true
    · rw [if_pos hq]
      cases st with
      | none => exact Nat.le_trans (spans_length p s f _ none acc) (by omega)
      | some a =>
        have h := spans_length p s f (pos + (Utf8.decode s pos).2) none (acc ++ [(a, pos)])
        rw [List.length_append, List.length_singleton] at h
        exact Nat.le_trans h (by omega)
    · rw [if_neg hq]
      cases st with
      | none => exact Nat.le_trans (spans_length p s f _ _ acc) (by omega)
      | some a => exact Nat.le_trans (spans_length p s f _ _ acc) (by omega)
theorem fields_length (p : Nat → Bool) (s : ByteArray) : (Lib.goFieldsP p s).length ≤ s.size + 1 := by
  unfold Lib.goFieldsP Lib.spansOfP
  rw [List.length_map]
  have := spans_length p s s.size 0 none []
  unfold Lib.closeSpans
  split
  · simp only [List.length_append, List.length_cons, List.length_nil] at this ⊢; omega
  · simp only [List.length_nil] at this; omega
theorem fields_size (p : Nat → Bool) (s : ByteArray) : ∀ w ∈ Lib.goFieldsP p s, w.size ≤ s.size := by
  intro w hw
  unfold Lib.goFieldsP at hw
  obtain ⟨x, _, rfl⟩ := List.mem_map.1 hw
  rw [size_list, chars_extract, List.length_drop, List.length_take, ← size_list]
  omega
theorem e_FieldsFunc (s : ByteArray) (k : Nat) (p : Nat → Bool) (h : s.size ≤ 4294967296) : fFieldsFunc k p [T s, .clo k []] = some (.ret [.arr 1 ((Lib.goFieldsP p s).map T)] []) := by
  simp only [fFieldsFunc, h, and_self, if_true]
theorem one_int (a : Int) : mkArr 1 [I a] = some (ints [a]) := by simp [mkArr, lenOkD]
theorem chkA_ints (l : List Int) : chkA (ints l) = some (ints l) := chkA_map fun _ => rfl
theorem e_Atoi (w : ByteArray) (h : w.size ≤ 4294967296) : fAtoi [T w] = some (match Lib.atoiAll (chars w) with
    | .ok v => Out.ret [I v, .v .nilIface] []
    | .range => Out.ret [I (Lib.atoiSat (chars w)), .ifc] []
    | _ => Out.ret [I 0, .ifc] []) := by
  have h2 : w.size ≤ 281474976710656 := by omega
  simp only [fAtoi, h2, if_true]
  rw [show w.data.toList = chars w from rfl]
  cases Lib.atoiAll (chars w) <;> rfl
theorem e_impl_numbersIn (s : ByteArray) (h : s.size ≤ 1048576) : F_impl_numbersIn [T s] = some (.ret [ints (numsT s)] []) := by
  rw [t_impl_numbersIn]
  have hl := fields_length isSep s
  have hz := fields_size isSep s
  rw [e_FieldsFunc s _ isSep (by omega)]
  simp only [mkArr_nil, Option.bind_some, callK_ret, sl_zero, lenD_arr, List.length_map]
  generalize hw : Lib.goFieldsP isSep s = ws at hl hz
  have hnum : numsT s = numsG ws [] := by rw [numsT, hw]
  rw [hnum]
  refine loop_wf_bind (fun r => r = _) (fun (a : List Int × Nat) => [ints a.1, .arr 1 (ws.map T), I ws.length, I (a.2 : Int)]) (fun a => a.2 ≤ ws.length ∧ a.1.length ≤ a.2 ∧ numsG (ws.drop a.2) a.1 = numsG ws [])
    (fun a => ws.length - a.2) (fun o => o = .ext 0 [ints (numsG ws [])] ∨ o = .ret [ints (numsG ws [])] []) ?_ ([], 0) ⟨Nat.zero_le _, Nat.le_refl _, rfl⟩ rfl ?_
  · rintro ⟨acc, i⟩ ⟨h1, h2, h3⟩
    simp only at h1 h2 h3
    by_cases hi : i < ws.length
    · have hi' : (i : Int) < (ws.length : Int) := by omega
      have hw : IntKind.i64.wrap ((i : Int) + 1) = ((i + 1 : Nat) : Int) := by rw [wrap_id (by omega) (by omega)]; omega
      have hat := e_Atoi ws[i] (by have := hz ws[i] (List.getElem_mem hi); omega)
      have hel : elemD 1 (.arr 1 (ws.map T)) (I (i : Int)) = some [T ws[i]] := by simp [hi]
      rw [List.drop_eq_getElem_cons hi] at h3
      simp only [numsG] at h3
      cases ha : Lib.atoiAll (chars ws[i]) with
      | ok v =>
        rw [ha] at h3 hat
        left
        refine ⟨(acc ++ [v], i + 1), ?_, ⟨by simp only; omega, by simp; omega, h3⟩, by simp only; omega⟩
        have e1 : (acc.map I).length + ([v].map I).length = acc.length + 1 := by simp
        have hap : (acc.length + 1) * 8 ≤ 140737488355328 ∧ acc.length + 1 ≤ 1152921504606846976 := by omega
        simp only [sl_zero, sl_succ, Option.bind_some, bin_lss, hi', decide_true, ifD_B, if_true, hel, Option.map_some, ldD_ptr, takeD_f, chkV_v, hat, callK_ret, show tupAt (.tup [I v, .v .nilIface]) 0 = some (I v) from rfl,
          show tupAt (.tup [I v, .v .nilIface]) 1 = some (.v .nilIface) from rfl, show binI true BinOp.neq (.v .nilIface) (.v .nilIface) = some (B false) from rfl, Bool.false_eq_true, if_false, one_int, chkA_ints, appD_eq, e1, hap, and_self, bin_add, hw]
        rw [← List.map_append]
      | range =>
        rw [ha] at h3 hat
        right
        refine ⟨.ret [ints []] [], ?_, rfl, .inr (by rw [← h3])⟩
        simp only [sl_zero, sl_succ, Option.bind_some, bin_lss, hi', decide_true, ifD_B, if_true, hel, Option.map_some, ldD_ptr, takeD_f, chkV_v, hat, callK_ret, show ∀ n : Int, tupAt (.tup [I n, .ifc]) 0 = some (I n) from fun _ => rfl,
          show ∀ n : Int, tupAt (.tup [I n, .ifc]) 1 = some .ifc from fun _ => rfl, show binI true BinOp.neq .ifc (.v .nilIface) = some (B true) from rfl, mkArr_nil]
        rfl
      | _ =>
        rw [ha] at h3 hat
        right
        refine ⟨.ret [ints []] [], ?_, rfl, .inr (by rw [← h3])⟩
        simp only [sl_zero, sl_succ, Option.bind_some, bin_lss, hi', decide_true, ifD_B, if_true, hel, Option.map_some, ldD_ptr, takeD_f, chkV_v, hat, callK_ret, show tupAt (.tup [I 0, .ifc]) 0 = some (I 0) from rfl,
          show tupAt (.tup [I 0, .ifc]) 1 = some .ifc from rfl, show binI true BinOp.neq .ifc (.v .nilIface) = some (B true) from rfl, mkArr_nil]
        rfl
    · right
      have hi' : ¬ (i : Int) < (ws.length : Int) := by omega
      refine ⟨.ext 0 [ints acc], ?_, rfl, .inl ?_⟩
      · simp only [sl_zero, sl_succ, Option.bind_some, bin_lss, hi', decide_false, ifD_B, Bool.false_eq_true, if_false]
      · rw [List.drop_eq_nil_of_le (by omega)] at h3
        rw [← h3]
        rfl
  · rintro o (rfl | rfl)
    · simp only [outK_ext, Nat.beq_refl, ifN_B, if_true, sl_zero]
    · rfl
end Go.Proofs.YtlphibidnkjpdaaDoor
/-
  Orders read out of texts.
-/
namespace Go.Proofs.YtlphibidnkjpdaaDoor
open Go Go.V
set_option linter.unusedSimpArgs false

/-! ### l1Read -/
def readL (l : List UInt8) : Int :=
  if (1 ≤ l.length ∧ l.length ≤ 6) ∧ ¬ (l.head? = some 48 ∧ 1 < l.length) ∧ l.all dig = true then (valF 0 l : Int) else -1
def readT (s : ByteArray) : Int := readL (chars s)
theorem valF_snoc (l : List UInt8) (x : UInt8) (a : Nat) : valF a (l ++ [x]) = valF a l * 10 + (x.toNat - 48) := by simp [valF, List.foldl_append]
theorem valF_lt : ∀ (n : Nat) (l : List UInt8), l.length = n → (∀ b ∈ l, dig b = true) → valF 0 l < 10 ^ n := by
  intro n
  induction n with
  | zero =>
    intro l hl _
    rw [List.eq_nil_of_length_eq_zero hl]
    decide
  | succ n ih =>
    intro l hl hd
    have hne : l ≠ [] := fun e => by rw [e] at hl; simp at hl
    have hsp := List.dropLast_concat_getLast hne
    have h1 := ih l.dropLast (by rw [List.length_dropLast]; omega) fun b hb => hd b ((List.dropLast_sublist l).subset hb)
    have h2 := dig_iff.1 (hd _ (List.getLast_mem hne))
    rw [← hsp, valF_snoc, Nat.pow_succ]
    omega
theorem e_spec_l1Read (s : ByteArray) (h : s.size ≤ 4294967296) : F_spec_l1Read [T s] = some (.ret [I (readT s)] []) := by
  rw [t_spec_l1Read]
  have hsz : s.size = (chars s).length := rfl
  by_cases h1 : 1 ≤ (s.size : Int) ∧ (s.size : Int) ≤ 6
  case neg =>
    have hr : readT s = -1 := by
      unfold readT readL
      rw [if_neg (by rintro ⟨⟨g1, g2⟩, _⟩; exact h1 (by omega))]
    rw [hr]
    simp -implicitDefEqProofs [e_spec_l1In, h1]
  have hpos : 0 < (chars s).length := by omega
  have hch0 : charD (T s) (I 0) = some (U ((chars s)[0].toNat : Int)) := by
    have := charD_nat (s := s) (k := .i64) (i := 0)
    rw [List.getElem?_eq_getElem hpos] at this
    exact this
  have hhead : (chars s).head? = some (chars s)[0] := by rw [List.head?_eq_getElem?, List.getElem?_eq_getElem hpos]
  have h48 : (48 : UInt8).toNat = 48 := rfl
  have hc48 : ((chars s)[0].toNat : Int) = 48 ↔ (chars s)[0] = 48 := ⟨fun e => UInt8.toNat_inj.1 (by omega), fun e => by rw [e]; rfl⟩
  by_cases h2 : (chars s)[0] = 48 ∧ 1 < (chars s).length
  · have hr : readT s = -1 := by
      unfold readT readL
      rw [if_neg (by rintro ⟨_, g, _⟩; exact g ⟨by rw [hhead, h2.1], h2.2⟩)]
    have hl : (1 : Int) < (s.size : Int) := by omega
    have hc := hc48.2 h2.1
    rw [hr]
    simp -implicitDefEqProofs [e_spec_l1In, h1, hch0, hc, hl]
  have hgo : ∀ (K : D → Option Out), ((bin BinOp.eql false [] (U ((chars s)[0].toNat : Int)) (D.v (Value.int IntKind.u8 48))).bind fun z_3 => (gate (D.tup []) (B false) false (some z_3)).bind fun z_4 => (gate (D.tup []) z_4 true (some (T s))).bind fun z_5 =>
      (gate (D.tup []) z_4 true (lenD true z_5)).bind fun z_6 => (gate (D.tup []) z_4 true (bin BinOp.gtr false [] z_6 (D.v (Value.int IntKind.i64 1)))).bind fun z_7 => (gate (D.tup []) (B false) false (pickD z_4 z_7 (D.v (Value.bool false)))).bind K) = K (B false) := by
    intro K
    by_cases e : ((chars s)[0].toNat : Int) = 48
    · have : ¬ (1 : Int) < (s.size : Int) := fun hl => h2 ⟨hc48.1 e, by omega⟩
      simp -implicitDefEqProofs [e, this]
    · simp -implicitDefEqProofs [e]
  simp only [lenD_str, Option.bind_some, e_spec_l1In, h1, and_self, decide_true, callK_ret, sl_zero, un_not, Bool.not_true, gate_f, Bool.false_eq_true, if_false, hch0]
  have hgo' := hgo
  simp only [gate_f, Bool.false_eq_true, if_false, Option.bind_some] at hgo'
  rw [hgo']
  simp only [pickD_B, Bool.false_eq_true, if_false, Option.bind_some, ifD_B]
  refine loop_wf_bind (fun r => r = _) (fun (a : Nat × Nat) => [T s, I (a.1 : Int), I (a.2 : Int)]) (fun a => a.2 ≤ s.size ∧ a.1 = valF 0 ((chars s).take a.2) ∧ ∀ b ∈ (chars s).take a.2, dig b = true) (fun a => s.size - a.2)
    (fun o => o = if (chars s).all dig = true then .ext 0 [I (valF 0 (chars s) : Int)] else .ret [I (-1)] []) ?_ (0, 0) ⟨Nat.zero_le _, rfl, by simp⟩ rfl ?_
  · rintro ⟨n, i⟩ ⟨g1, g2, g3⟩
    simp only at g1 g2 g3
    by_cases hi : i < s.size
    · have hl : i < (chars s).length := by rw [← hsz]; exact hi
      have hi' : (i : Int) < (s.size : Int) := by omega
      have hch : charD (T s) (I (i : Int)) = some (U ((chars s)[i].toNat : Int)) := by
        rw [charD_nat, List.getElem?_eq_getElem hl]
        rfl
      have htk : (chars s).take (i + 1) = (chars s).take i ++ [(chars s)[i]] := List.take_succ_eq_append_getElem hl
      by_cases hd : dig (chars s)[i] = true
      · left
        have hd' := dig_iff.1 hd
        have hn : n < 10 ^ i := by
          rw [g2]
          exact valF_lt i _ (by rw [List.length_take]; omega) g3
        have h10 : 10 ^ i ≤ 10 ^ 6 := Nat.pow_le_pow_right (by decide) (by omega)
        have hw : IntKind.i64.wrap ((i : Int) + 1) = ((i + 1 : Nat) : Int) := by rw [wrap_id (by omega) (by omega)]; omega
        have hw1 : IntKind.i64.wrap (10 * (n : Int)) = 10 * (n : Int) := wrap_id (by omega) (by omega)
        have hw2 : IntKind.u8.wrap (((chars s)[i].toNat : Int) - 48) = ((chars s)[i].toNat : Int) - 48 := wrap8 _ (by omega) (by omega)
        have hw3 : IntKind.i64.wrap (((chars s)[i].toNat : Int) - 48) = ((chars s)[i].toNat : Int) - 48 := wrap_id (by omega) (by omega)
        have hw4 : IntKind.i64.wrap (10 * (n : Int) + (((chars s)[i].toNat : Int) - 48)) = ((n * 10 + ((chars s)[i].toNat - 48) : Nat) : Int) := by rw [wrap_id (by omega) (by omega)]; omega
        have c1 : ¬ ((chars s)[i].toNat : Int) < 48 := by omega
        have c2 : ¬ (57 : Int) < ((chars s)[i].toNat : Int) := by omega
        refine ⟨(n * 10 + ((chars s)[i].toNat - 48), i + 1), ?_, ⟨by simp only; omega, ?_, ?_⟩, by simp only; omega⟩
        · simp only [sl_zero, sl_succ, lenD_str, Option.bind_some, bin_lss, hi', decide_true, ifD_B, if_true, hch, c1, decide_false, gate_f, Bool.false_eq_true, if_false, bin_gtr, c2, pickD_B, bin_mul, hw1, bin_sub, hw2, convD, hw3, bin_add, hw4, hw]
        · simp only
          rw [htk, valF_snoc, g2]
        · simp only
          rw [htk]
          intro b hb
          rcases List.mem_append.1 hb with hb | hb
          · exact g3 b hb
          · rw [List.mem_singleton.1 hb]; exact hd
      · right
        refine ⟨.ret [I (-1)] [], ?_, rfl, ?_⟩
        · by_cases c1 : ((chars s)[i].toNat : Int) < 48
          · simp -implicitDefEqProofs [hi', hch, c1]
          · have c2 : (57 : Int) < ((chars s)[i].toNat : Int) := by
              have : ¬ (48 ≤ (chars s)[i].toNat ∧ (chars s)[i].toNat ≤ 57) := fun e => hd (dig_iff.2 e)
              omega
            simp -implicitDefEqProofs [hi', hch, c1, c2]
        · rw [if_neg]
          intro hall
          exact hd (List.all_eq_true.1 hall _ (List.getElem_mem hl))
    · right
      have hi' : ¬ (i : Int) < (s.size : Int) := by omega
      have hie : (chars s).take i = chars s := List.take_of_length_le (by omega)
      rw [hie] at g2 g3
      refine ⟨.ext 0 [I (n : Int)], ?_, rfl, ?_⟩
      · simp -implicitDefEqProofs [hi']
      · rw [if_pos (List.all_eq_true.2 g3), g2]
  · rintro o rfl
    by_cases ha : (chars s).all dig = true
    · have hr : readT s = (valF 0 (chars s) : Int) := by
        unfold readT readL
        rw [if_pos ⟨⟨by omega, by omega⟩, fun g => h2 ⟨by have := g.1; rw [hhead] at this; exact Option.some.inj this, g.2⟩, ha⟩]
      rw [if_pos ha, hr]
      rfl
    · have hr : readT s = -1 := by
        unfold readT readL
        rw [if_neg (fun g => ha g.2.2)]
      rw [if_neg ha, hr]
      rfl
theorem decDigits_len {u : Nat} (h : u < 1000000) : (Lib.decDigits u).length ≤ 6 := numT_size 5 u (by omega)
theorem readL_dec {u : Nat} (h : u < 1000000) : readL (Lib.decDigits u) = (u : Int) := by
  have h1 := decDigits_ne u
  have h2 := decDigits_len h
  have h3 : 1 ≤ (Lib.decDigits u).length := List.length_pos_iff.2 h1
  have hno : ¬ ((Lib.decDigits u).head? = some 48 ∧ 1 < (Lib.decDigits u).length) := by
    rintro ⟨g1, g2⟩
    by_cases hu : 0 < u
    · cases hd : Lib.decDigits u with
      | nil => exact h1 hd
      | cons b t =>
        rw [hd] at g1
        exact decDigits_head u hu b t hd (by simpa using g1)
    · have : u = 0 := by omega
      subst this
      rw [Lib.decDigits_one (by decide)] at g2
      simp at g2
  unfold readL
  rw [if_pos ⟨⟨h3, h2⟩, hno, List.all_eq_true.2 (decDigits_dig u)⟩, valF_dec]
theorem chars_intT (n : Int) (h : 0 ≤ n) : chars (intT n) = Lib.decDigits n.toNat := by
  obtain ⟨u, rfl⟩ := Int.eq_ofNat_of_zero_le h
  rw [intT_nat]
  exact chars_mk _
theorem readT_int {n : Int} (h0 : 0 ≤ n) (h1 : n < 1000000) : readT (intT n) = n := by
  unfold readT
  rw [chars_intT n h0, readL_dec (by omega)]
  omega
theorem atoi_int {n : Int} (h0 : 0 ≤ n) (h1 : n < 1000000) : Lib.atoiAll (chars (intT n)) = .ok n := by
  rw [chars_intT n h0, atoi_dec (by omega)]
  congr 1
  omega
theorem dig_int {n : Int} (h0 : 0 ≤ n) : chars (intT n) ≠ [] ∧ ∀ b ∈ chars (intT n), dig b = true := by
  rw [chars_intT n h0]
  exact ⟨decDigits_ne _, decDigits_dig _⟩
theorem dig_lt {b : UInt8} (h : dig b = true) : b.toNat < 128 := by
  have := dig_iff.1 h
  omega
/-- The numbers of a text whose fields are numerals. -/
theorem numsT_of {s : ByteArray} (hs : ∀ b ∈ chars s, b.toNat < 128) {ns : List Int} (hn : ∀ n ∈ ns, 0 ≤ n ∧ n < 1000000) (h : flds none (chars s) = ns.map fun n => chars (intT n)) : numsT s = ns := by
  unfold numsT
  have hf := fields_ascii s hs
  rw [h] at hf
  have key : ∀ (ws : List ByteArray) (ns : List Int) (acc : List Int), (∀ n ∈ ns, 0 ≤ n ∧ n < 1000000) → ws.map chars = ns.map (fun n => chars (intT n)) → numsG ws acc = acc ++ ns := by
    intro ws
    induction ws with
    | nil =>
      intro ns acc _ e
      cases ns with
      | nil => simp [numsG]
      | cons _ _ => simp at e
    | cons w ws ih =>
      intro ns acc hn e
      cases ns with
      | nil => simp at e
      | cons n ns =>
        rw [List.map_cons, List.map_cons, List.cons.injEq] at e
        have hr := hn n (by simp)
        simp only [numsG]
        rw [e.1, atoi_int hr.1 hr.2]
        simp only
        rw [ih ns (acc ++ [n]) (fun m hm => hn m (by simp [hm])) e.2]
        simp
  simpa using key _ ns [] hn hf

/-! ### orders -/
theorem not_dig {b : UInt8} {l : List UInt8} (h : ∀ x ∈ l, dig x = true) (hb : dig b = false) : b ∉ l := fun hm => by rw [h b hm] at hb; cases hb
theorem splitT_size (c : UInt8) (s : ByteArray) : ∀ w ∈ splitT c s, w.size ≤ s.size := by
  intro w hw
  unfold splitT at hw
  obtain ⟨l, hl, rfl⟩ := List.mem_map.1 hw
  have key : ∀ (m : List UInt8), ∀ l ∈ splitL c m, l.length ≤ m.length := by
    intro m
    induction m with
    | nil => intro l hl; simp [splitL] at hl; simp [hl]
    | cons x m ih =>
      intro l hl
      simp only [splitL] at hl
      split at hl
      · rcases List.mem_cons.1 hl with rfl | hl
        · simp
        · have := ih l hl
          simp; omega
      · generalize hs : splitL c m = t at hl ih
        cases t with
        | nil => exact absurd hs (splitL_ne c m)
        | cons y t =>
          simp only [consH] at hl
          rcases List.mem_cons.1 hl with rfl | hl
          · have := ih y (by simp)
            simp; omega
          · have := ih l (by simp [hl])
            simp; omega
  have := key _ l hl
  rw [size_list, chars_mk]
  exact this
theorem splitT_length (c : UInt8) (s : ByteArray) : (splitT c s).length = (splitL c (chars s)).length := by simp [splitT]
end Go.Proofs.YtlphibidnkjpdaaDoor
/-
  Numbers in a text with a byte between them: written, read back in two ways.
-/
namespace Go.Proofs.YtlphibidnkjpdaaDoor
open Go Go.V
set_option linter.unusedSimpArgs false

/-- Texts with a byte between them. -/
def joinL (c : UInt8) : List (List UInt8) → List UInt8
  | [] => []
  | [a] => a
  | a :: b :: l => a ++ c :: joinL c (b :: l)
theorem splitL_joinL {c : UInt8} : ∀ (ws : List (List UInt8)), ws ≠ [] → (∀ w ∈ ws, c ∉ w) → splitL c (joinL c ws) = ws
  | [], h, _ => absurd rfl h
  | [a], _, h => splitL_miss (h a (by simp))
  | a :: b :: l, _, h => by
    have hj : joinL c (a :: b :: l) = a ++ c :: joinL c (b :: l) := rfl
    rw [hj, splitL_hit (h a (by simp)), splitL_joinL (b :: l) (by simp) fun w hw => h w (by simp [hw])]
theorem joinL_splitL (c : UInt8) : ∀ (l : List UInt8), joinL c (splitL c l) = l
  | [] => rfl
  | x :: l => by
    have ih := joinL_splitL c l
    simp only [splitL]
    split
    · rename_i hx
      cases hs : splitL c l with
      | nil => exact absurd hs (splitL_ne c l)
      | cons y t =>
        rw [hs] at ih
        have : joinL c ([] :: y :: t) = [] ++ c :: joinL c (y :: t) := rfl
        rw [this, ih, hx]
        rfl
    · cases hs : splitL c l with
      | nil => exact absurd hs (splitL_ne c l)
      | cons y t =>
        rw [hs] at ih
        cases t with
        | nil =>
          have e : joinL c [y] = y := rfl
          rw [e] at ih
          show x :: y = x :: l
          rw [ih]
        | cons z t =>
          have e : joinL c (y :: z :: t) = y ++ c :: joinL c (z :: t) := rfl
          rw [e] at ih
          show (x :: y) ++ c :: joinL c (z :: t) = x :: l
          rw [← ih]
          rfl
theorem flds_joinL {c : UInt8} (hc : dig c = false) : ∀ (ws : List (List UInt8)), (∀ w ∈ ws, w ≠ [] ∧ ∀ b ∈ w, dig b = true) → flds none (joinL c ws) = ws
  | [], _ => rfl
  | [a], h => flds_last (h a (by simp)).1 (h a (by simp)).2
  | a :: b :: l, h => by
    have hj : joinL c (a :: b :: l) = a ++ c :: joinL c (b :: l) := rfl
    rw [hj, flds_word (h a (by simp)).1 (h a (by simp)).2 hc, flds_joinL hc (b :: l) fun w hw => h w (by simp [hw])]
theorem mem_joinL {c b : UInt8} : ∀ {ws : List (List UInt8)}, b ∈ joinL c ws → b = c ∨ ∃ w ∈ ws, b ∈ w
  | [], h => by cases h
  | [a], h => .inr ⟨a, by simp, h⟩
  | a :: a' :: l, h => by
    have hj : joinL c (a :: a' :: l) = a ++ c :: joinL c (a' :: l) := rfl
    rw [hj, List.mem_append, List.mem_cons] at h
    rcases h with h | h | h
    · exact .inr ⟨a, by simp, h⟩
    · exact .inl h
    · rcases mem_joinL h with h | ⟨w, hw, hb⟩
      · exact .inl h
      · exact .inr ⟨w, by simp only [List.mem_cons] at hw ⊢; exact .inr hw, hb⟩

/-! ### numerals are read back -/
theorem decDigits_val : ∀ (n : Nat) (l : List UInt8), l.length = n + 1 → (∀ b ∈ l, dig b = true) → (l.head? = some 48 → n = 0) → Lib.decDigits (valF 0 l) = l := by
  intro n
  induction n with
  | zero =>
    intro l hl hd _
    obtain ⟨x, rfl⟩ := List.length_eq_one_iff.1 hl
    have hx := dig_iff.1 (hd x (by simp))
    have hv : valF 0 [x] = x.toNat - 48 := by simp [valF]
    rw [hv, Lib.decDigits_one (by omega)]
    congr 1
    apply UInt8.toNat_inj.1
    rw [toNat_digit (by omega)]
    omega
  | succ n ih =>
    intro l hl hd hz
    have hne : l ≠ [] := fun e => by rw [e] at hl; simp at hl
    have hsp := List.dropLast_concat_getLast hne
    have hlen : l.dropLast.length = n + 1 := by rw [List.length_dropLast]; omega
    have hne2 : l.dropLast ≠ [] := fun e => by rw [e] at hlen; simp at hlen
    have hx := dig_iff.1 (hd _ (List.getLast_mem hne))
    have hhead : l.head? = l.dropLast.head? := by
      conv => lhs; rw [← hsp]
      cases h : l.dropLast with
      | nil => exact absurd h hne2
      | cons a t => rfl
    have h48 : l.dropLast.head? ≠ some 48 := fun e => by have := hz (hhead.trans e); omega
    have hi := ih l.dropLast hlen (fun b hb => hd b ((List.dropLast_sublist l).subset hb)) fun e => absurd e h48
    have hpos : 1 ≤ valF 0 l.dropLast := by
      rcases Nat.lt_or_ge 0 (valF 0 l.dropLast) with g | g
      · exact g
      · have h0 : valF 0 l.dropLast = 0 := by omega
        rw [h0, Lib.decDigits_one (by decide)] at hi
        rw [← hi] at h48
        exact absurd rfl h48
    have hv : valF 0 l = valF 0 l.dropLast * 10 + ((l.getLast hne).toNat - 48) := by
      conv => lhs; rw [← hsp]
      exact valF_snoc _ _ _
    rw [hv, decDigits_step (by omega)]
    have h1 : (valF 0 l.dropLast * 10 + ((l.getLast hne).toNat - 48)) / 10 = valF 0 l.dropLast := by omega
    have h2 : (valF 0 l.dropLast * 10 + ((l.getLast hne).toNat - 48)) % 10 = (l.getLast hne).toNat - 48 := by omega
    rw [h1, h2, hi]
    conv => rhs; rw [← hsp]
    congr 1
    congr 1
    apply UInt8.toNat_inj.1
    rw [toNat_digit (by omega)]
    omega
theorem readT_canon {w : ByteArray} {n : Int} (h : readT w = n) (h0 : 0 ≤ n) : w = intT n := by
  unfold readT readL at h
  split at h
  · rename_i hc
    obtain ⟨⟨g1, g2⟩, g3, g4⟩ := hc
    subst h
    apply chars_inj
    rw [chars_intT _ h0]
    have : ((valF 0 (chars w) : Int)).toNat = valF 0 (chars w) := by omega
    rw [this]
    refine (decDigits_val ((chars w).length - 1) (chars w) (by omega) (List.all_eq_true.1 g4) fun e => ?_).symm
    rcases Nat.lt_or_ge 1 (chars w).length with g | g
    · exact absurd ⟨e, g⟩ g3
    · omega
  · omega

/-! ### numbers with a byte between them -/
def numsJ (c : UInt8) (ns : List Int) : ByteArray := ⟨(joinL c (ns.map fun n => chars (intT n))).toArray⟩
def fewI (ns : List Int) : Prop := ∀ n ∈ ns, 0 ≤ n ∧ n < 1000000000000000000
theorem chars_numsJ (c : UInt8) (ns : List Int) : chars (numsJ c ns) = joinL c (ns.map fun n => chars (intT n)) := chars_mk _
theorem atoi_int' {n : Int} (h0 : 0 ≤ n) (h1 : n < 1000000000000000000) : Lib.atoiAll (chars (intT n)) = .ok n := by
  rw [chars_intT n h0, atoi_dec (by omega)]
  congr 1
  omega
/-- The numbers of a text whose fields are numerals. -/
theorem numsT_of' {s : ByteArray} (hs : ∀ b ∈ chars s, b.toNat < 128) {ns : List Int} (hn : fewI ns) (h : flds none (chars s) = ns.map fun n => chars (intT n)) : numsT s = ns := by
  unfold numsT
  have hf := fields_ascii s hs
  rw [h] at hf
  have key : ∀ (ws : List ByteArray) (ns : List Int) (acc : List Int), fewI ns → ws.map chars = ns.map (fun n => chars (intT n)) → numsG ws acc = acc ++ ns := by
    intro ws
    induction ws with
    | nil =>
      intro ns acc _ e
      cases ns with
      | nil => simp [numsG]
      | cons _ _ => simp at e
    | cons w ws ih =>
      intro ns acc hn e
      cases ns with
      | nil => simp at e
      | cons n ns =>
        rw [List.map_cons, List.map_cons, List.cons.injEq] at e
        have hr := hn n (by simp)
        simp only [numsG]
        rw [e.1, atoi_int' hr.1 hr.2]
        simp only
        rw [ih ns (acc ++ [n]) (fun m hm => hn m (by simp [hm])) e.2]
        simp
  simpa using key _ ns [] hn hf
theorem numsT_J {c : UInt8} {ns : List Int} (hc : dig c = false) (hb : c.toNat < 128) (h : fewI ns) : numsT (numsJ c ns) = ns := by
  have hw : ∀ w ∈ ns.map (fun n => chars (intT n)), w ≠ [] ∧ ∀ b ∈ w, dig b = true := by
    intro w hw
    obtain ⟨n, hn, rfl⟩ := List.mem_map.1 hw
    exact dig_int (h n hn).1
  refine numsT_of' (fun b hb' => ?_) h ?_
  · rw [chars_numsJ] at hb'
    rcases mem_joinL hb' with rfl | ⟨w, hw', hb'⟩
    · exact hb
    · exact dig_lt ((hw w hw').2 b hb')
  · rw [chars_numsJ]
    exact flds_joinL hc _ hw
theorem splitT_J {c : UInt8} {ns : List Int} (hc : dig c = false) (hne : ns ≠ []) (h : fewI ns) : splitT c (numsJ c ns) = ns.map intT := by
  unfold splitT
  rw [chars_numsJ, splitL_joinL _ (by simpa using hne)]
  · rw [List.map_map]
    refine List.map_congr_left fun n _ => ?_
    exact mk_chars _
  · intro w hw
    obtain ⟨n, hn, rfl⟩ := List.mem_map.1 hw
    exact not_dig (dig_int (h n hn).1).2 hc
/-- A way to read numerals back. -/
structure Reads (rd : ByteArray → Int) (few : Int) : Prop where
  le : few ≤ 1000000000000000000
  of : ∀ n, 0 ≤ n → n < few → rd (intT n) = n
  canon : ∀ w, 0 ≤ rd w → w = intT (rd w)
theorem reads_T : Reads readT 1000000 := ⟨by decide, fun _ h0 h1 => readT_int h0 h1, fun _ h => readT_canon rfl h⟩
section
variable {rd : ByteArray → Int} {few : Int} (hr : Reads rd few) {c : UInt8} (hc : dig c = false) (hb : c.toNat < 128)
include hr hc
theorem readT_J {ns : List Int} (hne : ns ≠ []) (h : ∀ n ∈ ns, 0 ≤ n ∧ n < few) : (splitT c (numsJ c ns)).map rd = ns := by
  rw [splitT_J hc hne (fun n hn => ⟨(h n hn).1, Int.lt_of_lt_of_le (h n hn).2 hr.le⟩), List.map_map]
  have : ns.map (rd ∘ intT) = ns.map id := List.map_congr_left fun n hn => hr.of n (h n hn).1 (h n hn).2
  rw [this, List.map_id]
omit hc in
theorem split_read {s : ByteArray} (h : ∀ n ∈ (splitT c s).map rd, 0 ≤ n) : numsJ c ((splitT c s).map rd) = s := by
  apply chars_inj
  rw [chars_numsJ, List.map_map]
  have e : (splitT c s).map ((fun n => chars (intT n)) ∘ rd) = (splitT c s).map chars := List.map_congr_left fun w hw => by
    have := hr.canon w (h _ (List.mem_map_of_mem hw))
    exact congrArg chars this.symm
  rw [e]
  have e2 : (splitT c s).map chars = splitL c (chars s) := by
    unfold splitT
    rw [List.map_map]
    have : ((chars ∘ fun l : List UInt8 => (⟨l.toArray⟩ : ByteArray))) = id := funext fun l => chars_mk l
    rw [this, List.map_id]
  rw [e2, joinL_splitL]
end
/-- Numbers read out of a text: all numbers in it, which are written so; the numbers between the bytes. -/
def parseI (c : UInt8) (k : Nat) (good : List Int → Bool) (s : ByteArray) : Option (List Int) :=
  if (numsT s).length = k ∧ good (numsT s) = true ∧ numsJ c (numsT s) = s then some (numsT s) else none
def parseS (rd : ByteArray → Int) (c : UInt8) (k : Nat) (good : List Int → Bool) (s : ByteArray) : Option (List Int) :=
  if (splitT c s).length = k ∧ good ((splitT c s).map rd) = true then some ((splitT c s).map rd) else none
section
variable {rd : ByteArray → Int} {few : Int} (hr : Reads rd few) {c : UInt8} (hc : dig c = false) (hb : c.toNat < 128) {k : Nat} {good : List Int → Bool} (hg : ∀ ns, good ns = true → ∀ n ∈ ns, 0 ≤ n ∧ n < few)
include hr hc hg
include hb in
theorem parseI_J {ns : List Int} (h : good ns = true) (hk : ns.length = k) : parseI c k good (numsJ c ns) = some ns := by
  unfold parseI
  rw [numsT_J hc hb fun n hn => ⟨(hg ns h n hn).1, Int.lt_of_lt_of_le (hg ns h n hn).2 hr.le⟩, if_pos ⟨hk, h, rfl⟩]
theorem parseS_J (hk0 : 0 < k) {ns : List Int} (h : good ns = true) (hk : ns.length = k) : parseS rd c k good (numsJ c ns) = some ns := by
  have hne : ns ≠ [] := fun e => by rw [e] at hk; simp at hk; omega
  unfold parseS
  rw [readT_J hr hc hne (hg ns h), if_pos]
  refine ⟨?_, h⟩
  have := congrArg List.length (readT_J hr hc hne (hg ns h))
  rw [List.length_map] at this
  exact this.trans hk
include hb in
theorem parse_eq (hk0 : 0 < k) (s : ByteArray) : parseI c k good s = parseS rd c k good s := by
  by_cases h : (numsT s).length = k ∧ good (numsT s) = true ∧ numsJ c (numsT s) = s
  · obtain ⟨h1, h2, h3⟩ := h
    have a := parseI_J hr hc hb hg h2 h1
    have b := parseS_J hr hc hg hk0 h2 h1
    rw [h3] at a b
    rw [a, b]
  · by_cases h' : (splitT c s).length = k ∧ good ((splitT c s).map rd) = true
    · obtain ⟨h1, h2⟩ := h'
      have hl : ((splitT c s).map rd).length = k := by rw [List.length_map]; exact h1
      have a := parseI_J hr hc hb hg h2 hl
      have b := parseS_J hr hc hg hk0 h2 hl
      have h3 := split_read hr (c := c) (s := s) fun n hn => (hg _ h2 n hn).1
      rw [h3] at a b
      rw [a, b]
    · rw [parseI, parseS, if_neg h, if_neg h']
end
theorem parse_some {c : UInt8} {k : Nat} {good : List Int → Bool} {s : ByteArray} {ns : List Int} (h : parseI c k good s = some ns) : ns.length = k ∧ good ns = true ∧ numsJ c ns = s := by
  unfold parseI at h
  split at h
  · rename_i hc
    cases h
    exact hc
  · cases h
end Go.Proofs.YtlphibidnkjpdaaDoor
/-
  Draws: what the cursor gives.
-/
namespace Go.Proofs.YtlphibidnkjpdaaDoor
open Go Go.V
set_option linter.unusedSimpArgs false

structure Cur where
  code : List Int
  at_ : Nat
  seed : Int
abbrev bytesD (l : List Int) : D := .arr 1 (l.map U)
abbrev curD (c : Cur) : D := .agg [bytesD c.code, I c.at_, .v (.int .u64 c.seed)]
structure Cur.ok (c : Cur) (B : Nat) : Prop where
  by_ : ∀ n ∈ c.code, 0 ≤ n ∧ n ≤ 255
  len : c.code.length ≤ 1048576
  at_ : c.at_ ≤ B
  lo : 0 ≤ c.seed
  hi : c.seed < 18446744073709551616

theorem convD_i64 {k : IntKind} {n : Int} : convD (some .i64) false (.v (.int k n)) = some (I (IntKind.i64.wrap n)) := rfl
theorem convD_u64 {k : IntKind} {n : Int} : convD (some .u64) false (.v (.int k n)) = some (.v (.int .u64 (IntKind.u64.wrap n))) := rfl
theorem bin_shr40 {n : Int} {bl : Bool} {eq : List Nat} : bin .shr bl eq (.v (.int .u64 n)) (.v (.int .u64 40)) = some (.v (.int .u64 (n.fdiv 1099511627776))) := by
  simp [bin, IntKind.bits]
theorem bin_and {a b : Int} {bl : Bool} {eq : List Nat} : bin .and bl eq (.v (.int .u64 a)) (.v (.int .u64 b)) = some (.v (.int .u64 (bits .and .u64 a b))) := by simp [bin, intBin]
theorem and255 {n : Int} (h0 : 0 ≤ n) (h1 : n < 18446744073709551616) : 0 ≤ bits .and .u64 n 255 ∧ bits .and .u64 n 255 ≤ 255 := by
  obtain ⟨m, rfl⟩ := Int.eq_ofNat_of_zero_le h0
  have := bits_and_u64_nat m 255 (by omega) (by omega)
  rw [show ((255 : Int)) = ((255 : Nat) : Int) from rfl, this]
  have h2 : m &&& 255 ≤ 255 := Nat.and_le_right
  omega
theorem wrap64 (n : Int) : 0 ≤ IntKind.u64.wrap n ∧ IntKind.u64.wrap n < 18446744073709551616 := by
  rw [IntKind.wrap_u64]
  omega

def seedOf (s n : Int) : Int := IntKind.u64.wrap (IntKind.u64.wrap (IntKind.u64.wrap (s * 6364136223846793005) + IntKind.u64.wrap n) + 1442695040888963407)
def topOf (s : Int) : Int := bits .and .u64 (s.fdiv 1099511627776) 255
theorem seedOf_in (s n : Int) : 0 ≤ seedOf s n ∧ seedOf s n < 18446744073709551616 := wrap64 _
theorem topOf_in {s : Int} (h0 : 0 ≤ s) (h1 : s < 18446744073709551616) : 0 ≤ topOf s ∧ topOf s ≤ 255 := by
  unfold topOf
  rw [Int.fdiv_eq_ediv_of_nonneg _ (by omega)]
  exact and255 (by omega) (by omega)
theorem seed_run {s n : Int} : ((bin BinOp.mul false [] (.v (.int .u64 s)) (.v (.int .u64 6364136223846793005))).bind fun x => (bin BinOp.add false [] x (.v (.int .u64 (IntKind.u64.wrap n)))).bind fun y => bin BinOp.add false [] y (.v (.int .u64 1442695040888963407))) = some (.v (.int .u64 (seedOf s n))) := by
  simp only [bin_mul, bin_add, Option.bind_some, seedOf]
theorem next1 (c : Cur) (B : Nat) (h : c.ok B) (hB : B ≤ 1000000000000) (hc : c.at_ < c.code.length) : F_spec_l1Cur_next [curD c] = some (.ret [I c.code[c.at_]] [curD ⟨c.code, c.at_ + 1, seedOf c.seed c.code[c.at_]⟩]) := by
  have hl := h.len
  have ha := h.at_
  have hw : IntKind.i64.wrap ((c.at_ : Int) + 1) = (c.at_ : Int) + 1 := wrap_id (by omega) (by omega)
  have hn := h.by_ c.code[c.at_] (List.getElem_mem hc)
  have hv : IntKind.i64.wrap c.code[c.at_] = c.code[c.at_] := wrap_id (by omega) (by omega)
  have hle : (c.at_ : Int) + 1 ≤ (c.code.length : Int) := by omega
  rw [t_spec_l1Cur_next]
  simp -implicitDefEqProofs [hc, hw, hv, hle, convD_i64, convD_u64, seedOf]
theorem next2 (c : Cur) (B : Nat) (h : c.ok B) (hB : B ≤ 1000000000000) (hc : ¬ c.at_ < c.code.length) : F_spec_l1Cur_next [curD c] = some (.ret [I (topOf (seedOf c.seed 0))] [curD ⟨c.code, c.at_ + 1, seedOf c.seed 0⟩]) := by
  have hl := h.len
  have ha := h.at_
  have hw : IntKind.i64.wrap ((c.at_ : Int) + 1) = (c.at_ : Int) + 1 := wrap_id (by omega) (by omega)
  have hle : ¬ (c.at_ : Int) + 1 ≤ (c.code.length : Int) := by omega
  have hq := topOf_in (seedOf_in c.seed 0).1 (seedOf_in c.seed 0).2
  have hv : IntKind.i64.wrap (topOf (seedOf c.seed 0)) = topOf (seedOf c.seed 0) := wrap_id (by omega) (by omega)
  unfold topOf seedOf at hv
  rw [t_spec_l1Cur_next]
  simp -implicitDefEqProofs [hc, hw, hle, convD_i64, convD_u64, bin_shr40, bin_and, hv, seedOf, topOf]
theorem d_next (c : Cur) (B : Nat) (h : c.ok B) (hB : B ≤ 1000000000000) : ∃ v c', F_spec_l1Cur_next [curD c] = some (.ret [I v] [curD c']) ∧ 0 ≤ v ∧ v ≤ 255 ∧ c'.ok (B + 1) := by
  have ha := h.at_
  by_cases hc : c.at_ < c.code.length
  · have hn := h.by_ c.code[c.at_] (List.getElem_mem hc)
    exact ⟨_, _, next1 c B h hB hc, hn.1, hn.2, ⟨h.by_, h.len, Nat.succ_le_succ ha, (seedOf_in _ _).1, (seedOf_in _ _).2⟩⟩
  · have hq := topOf_in (seedOf_in c.seed 0).1 (seedOf_in c.seed 0).2
    exact ⟨_, _, next2 c B h hB hc, hq.1, hq.2, ⟨h.by_, h.len, Nat.succ_le_succ ha, (seedOf_in _ _).1, (seedOf_in _ _).2⟩⟩

theorem d_pick (c : Cur) (n : Int) (B : Nat) (h : c.ok B) (hB : B ≤ 100000000000) (hn : n ≤ 1000000000) : ∃ v c', F_spec_l1Cur_pick [curD c, I n] = some (.ret [I v] [curD c']) ∧ 0 ≤ v ∧ (v < n ∨ v = 0) ∧ c'.ok (B + 2) := by
  rw [t_spec_l1Cur_pick]
  by_cases h1 : n ≤ 1
  · exact ⟨0, c, by simp [h1], by omega, .inr rfl, ⟨h.by_, h.len, by have := h.at_; omega, h.lo, h.hi⟩⟩
  obtain ⟨v, c1, e1, l1, u1, k1⟩ := d_next c B h (by omega)
  have hn0 : ¬ n = 0 := by omega
  by_cases h2 : 200 < n
  · obtain ⟨v2, c2, e2, l2, u2, k2⟩ := d_next c1 (B + 1) k1 (by omega)
    have w1 : IntKind.i64.wrap (v * 256) = v * 256 := wrap_id (by omega) (by omega)
    have w2 : IntKind.i64.wrap (v * 256 + v2) = v * 256 + v2 := wrap_id (by omega) (by omega)
    refine ⟨(v * 256 + v2).tmod n, c2, by simp [h1, h2, e1, e2, w1, w2, hn0], Int.tmod_nonneg _ (by omega), .inl (Int.tmod_lt_of_pos _ (by omega)), k2⟩
  · refine ⟨v.tmod n, c1, by simp [h1, h2, e1, hn0], Int.tmod_nonneg _ l1, .inl (Int.tmod_lt_of_pos _ (by omega)), ⟨k1.by_, k1.len, by have := k1.at_; omega, k1.lo, k1.hi⟩⟩
theorem d_one (c : Cur) (n : Int) (B : Nat) (h : c.ok B) (hB : B ≤ 100000000000) (hn : n ≤ 1000000000) : ∃ (b : Bool) (c' : Cur), F_spec_l1Cur_one [curD c, I n] = some (.ret [.v (.bool b)] [curD c']) ∧ c'.ok (B + 2) := by
  rw [t_spec_l1Cur_one]
  obtain ⟨v, c1, e1, l1, u1, k1⟩ := d_pick c n B h hB hn
  exact ⟨_, c1, by simp [e1]; rfl, k1⟩
abbrev intsD (l : List Int) : D := .arr 1 (l.map I)
theorem d_among (c : Cur) (l : List Int) (B : Nat) (h : c.ok B) (hB : B ≤ 100000000000) (hl : l ≠ []) (hn : l.length ≤ 1000000000) : ∃ v c', F_spec_l1Cur_among [curD c, intsD l] = some (.ret [I v] [curD c']) ∧ v ∈ l ∧ c'.ok (B + 2) := by
  rw [t_spec_l1Cur_among]
  have hp : 0 < l.length := List.length_pos_iff.2 hl
  obtain ⟨v, c1, e1, l1, u1, k1⟩ := d_pick c l.length B h hB (by omega)
  obtain ⟨i, rfl⟩ := Int.eq_ofNat_of_zero_le l1
  have hi : i < l.length := by omega
  exact ⟨l[i], c1, by simp [e1, hi], List.getElem_mem hi, k1⟩

theorem Cur.ok.mono {c : Cur} {B C : Nat} (h : c.ok B) (hBC : B ≤ C) : c.ok C := ⟨h.by_, h.len, Nat.le_trans h.at_ hBC, h.lo, h.hi⟩
theorem mkInts {l : List Int} : mkArr 1 (l.map I) = some (intsD l) := by
  have : lenOkD 1 (l.map I).length (l.map I) = true := by
    unfold lenOkD
    simp
  simp only [mkArr, this, if_true]
theorem e_laws_big (a b : List Int) : ∃ p : Bool, F_laws_big [bytesD a, bytesD b] = some (.ret [B p] []) ∧ (p = false → a.length ≤ 1048576 ∧ b.length ≤ 1048576) := by
  rw [t_laws_big]
  by_cases h1 : 1048576 < (a.length : Int)
  · exact ⟨true, by simp [h1], fun h => by cases h⟩
  have hw : IntKind.i64.wrap (1048576 - (a.length : Int)) = 1048576 - (a.length : Int) := wrap_id (by omega) (by omega)
  by_cases h2 : 1048576 - (a.length : Int) < (b.length : Int)
  · exact ⟨true, by simp [h1, h2, hw], fun h => by cases h⟩
  · exact ⟨false, by simp [h1, h2, hw], fun _ => by omega⟩

theorem bldCur (l : List Int) : bldD [(0, 1)] [D.arr 1 [], I 0, D.v (.int .u64 0)] [bytesD l] = some (.agg [bytesD l, I 0, D.v (.int .u64 0)]) := by
  simp [bldD, fillD]
structure Bytes (l : List Int) : Prop where
  by_ : ∀ n ∈ l, 0 ≤ n ∧ n ≤ 255
  len : l.length ≤ 1048576
theorem cur0 {l : List Int} (h : Bytes l) : Cur.ok ⟨l, 0, 0⟩ 0 := ⟨h.by_, h.len, Nat.le_refl _, Int.le_refl 0, show (0 : Int) < 18446744073709551616 by decide⟩

abbrev curZ (l : List Int) : D := .agg [bytesD l, I 0, .v (.int .u64 0)]
theorem d_pick0 (l : List Int) (h : Bytes l) (n : Int) (hn : n ≤ 1000000000) : ∃ (v : Int) (c' : Cur), F_spec_l1Cur_pick [curZ l, I n] = some (.ret [I v] [curD c']) ∧ 0 ≤ v ∧ (v < n ∨ v = 0) ∧ c'.ok 2 := d_pick ⟨l, 0, 0⟩ n 0 (cur0 h) (by omega) hn
abbrev txs (l : List ByteArray) : D := .arr 1 (l.map T)
theorem mkTxs {l : List ByteArray} : mkArr 1 (l.map T) = some (txs l) := by
  have : lenOkD 1 (l.map T).length (l.map T) = true := by
    unfold lenOkD
    simp
  simp only [mkArr, this, if_true]
theorem d_of (c : Cur) (l : List ByteArray) (B : Nat) (h : c.ok B) (hB : B ≤ 100000000000) (hl : l ≠ []) (hn : l.length ≤ 1000000000) : ∃ v c', F_spec_l1Cur_of [curD c, txs l] = some (.ret [T v] [curD c']) ∧ v ∈ l ∧ c'.ok (B + 2) := by
  rw [t_spec_l1Cur_of]
  have hp : 0 < l.length := List.length_pos_iff.2 hl
  obtain ⟨v, c1, e1, l1, u1, k1⟩ := d_pick c l.length B h hB (by omega)
  obtain ⟨i, rfl⟩ := Int.eq_ofNat_of_zero_le l1
  have hi : i < l.length := by omega
  exact ⟨l[i], c1, by simp [e1, hi], List.getElem_mem hi, k1⟩

theorem char_at {w : ByteArray} {i : Nat} (h : i < w.size) : ∃ b : UInt8, charD (T w) (I (i : Int)) = some (U (b.toNat : Int)) := by
  have h' : i < (chars w).length := h
  refine ⟨(chars w)[i]'h', ?_⟩
  rw [charD_nat, List.getElem?_eq_getElem h']
  rfl
theorem str_byte (b : UInt8) : strD (.arr 1 [U (b.toNat : Int)]) = some (T ⟨#[b]⟩) := by
  have : bytesOf [U (b.toNat : Int)] = some [b] := by simp [bytesOf]
  simp only [strD, this, Option.map_some]
theorem mkU (n : Int) : mkArr 1 [U n] = some (.arr 1 [U n]) := by simp [mkArr, lenOkD]
theorem add_small {a b : ByteArray} (h : a.size + b.size ≤ 100000000) : bin .add false [] (T a) (T b) = some (T (a ++ b)) := by
  rw [bin_addS, if_pos (by omega)]
theorem size_ext (s : ByteArray) (i j : Nat) : (s.extract i j).size = min j s.size - i := by rw [ByteArray.size_extract]
theorem d_spoilt (c : Cur) (s w : ByteArray) (B : Nat) (h : c.ok B) (hB : B ≤ 1000000000) (hs : s.size ≤ 100000) (hw : 0 < w.size ∧ w.size ≤ 100) :
    ∃ (t : ByteArray) (c' : Cur), F_spec_l1Cur_spoilt [curD c, T s, T w] = some (.ret [T t] [curD c']) ∧ t.size ≤ s.size + 2 ∧ c'.ok (B + 20) := by
  obtain ⟨v, c1, e1, l1, u1, k1⟩ := d_pick c 2 B h (by omega) (by omega)
  obtain ⟨v, rfl⟩ := Int.eq_ofNat_of_zero_le l1
  have hw1 : IntKind.i64.wrap (1 + (v : Int)) = ((1 + v : Nat) : Int) := by rw [wrap_id (by omega) (by omega)]; omega
  rw [t_spec_l1Cur_spoilt]
  simp -implicitDefEqProofs only [liveD_agg, Option.bind_some, ref0_eq, e1, callK_ret, sl_zero, bin_add, hw1]
  refine loop_wf_bind (fun X => ∃ t c', X = some (.ret [T t] [curD c']) ∧ t.size ≤ s.size + 2 ∧ c'.ok (B + 20)) (fun a : Cur × ByteArray × Nat => [curD a.1, T a.2.1, T w, I (a.2.2 : Int)])
    (fun a => a.1.ok (B + 2 + 6 * (2 - a.2.2)) ∧ a.2.2 ≤ 2 ∧ a.2.1.size + a.2.2 ≤ s.size + 2) (fun a => a.2.2) (fun o => ∃ t c', o = .ext 0 [curD c', T t] ∧ t.size ≤ s.size + 2 ∧ c'.ok (B + 20)) ?_ (c1, s, 1 + v) ⟨k1.mono (by simp only; omega), by simp only; omega, by simp only; omega⟩ rfl ?_
  · rintro ⟨ca, t, n⟩ ⟨h1, h2, h3⟩
    simp only at h1 h2 h3
    by_cases hn : 0 < n
    case neg =>
      have hn' : ¬ (0 : Int) < (n : Int) := by omega
      refine .inr ⟨_, ?_, rfl, t, ca, rfl, by omega, h1.mono (by omega)⟩
      simp -implicitDefEqProofs only [sl_zero, sl_succ, bin_gtr, hn', decide_false, Option.bind_some, gate_t, gate_s, Bool.false_eq_true, if_false, pickD_B, ifD_B]
    have hn' : (0 : Int) < (n : Int) := by omega
    by_cases ht : 0 < t.size
    case neg =>
      have ht' : ¬ (0 : Int) < (t.size : Int) := by omega
      refine .inr ⟨_, ?_, rfl, t, ca, rfl, by omega, h1.mono (by omega)⟩
      simp -implicitDefEqProofs only [sl_zero, sl_succ, bin_gtr, hn', ht', decide_true, decide_false, lenD_str, Option.bind_some, gate_t, gate_s, Bool.false_eq_true, if_false, if_true, pickD_B, ifD_B]
    have ht' : (0 : Int) < (t.size : Int) := by omega
    obtain ⟨i, c2, e2, l2, u2, k2⟩ := d_pick ca (t.size : Int) _ h1 (by omega) (by omega)
    obtain ⟨i, rfl⟩ := Int.eq_ofNat_of_zero_le l2
    obtain ⟨j, c3, e3, l3, u3, k3⟩ := d_pick c2 (w.size : Int) _ k2 (by omega) (by omega)
    obtain ⟨j, rfl⟩ := Int.eq_ofNat_of_zero_le l3
    obtain ⟨b, hb⟩ := char_at (w := w) (i := j) (by omega)
    obtain ⟨k, c4, e4, l4, u4, k4⟩ := d_pick c3 3 _ k3 (by omega) (by omega)
    have hwn : IntKind.i64.wrap ((n : Int) - 1) = ((n - 1 : Nat) : Int) := by rw [wrap_id (by omega) (by omega)]; omega
    have hwi : IntKind.i64.wrap ((i : Int) + 1) = ((i + 1 : Nat) : Int) := by rw [wrap_id (by omega) (by omega)]; omega
    have s1 : sliceD true 0 (T t) (I 0) (I (i : Int)) = some (T (t.extract 0 i)) := sliceS (i := 0) (Nat.zero_le _) (by omega)
    have s2 : sliceHi true 0 (T t) (I (i : Int)) = some (T (t.extract i t.size)) := sliceHiS (by omega)
    have s3 : sliceHi true 0 (T t) (I ((i + 1 : Nat) : Int)) = some (T (t.extract (i + 1) t.size)) := sliceHiS (by omega)
    have z1 := size_ext t 0 i
    have z2 := size_ext t i t.size
    have z3 := size_ext t (i + 1) t.size
    have sb : (⟨#[b]⟩ : ByteArray).size = 1 := rfl
    have a1 := add_small (a := t.extract 0 i) (b := ⟨#[b]⟩) (by omega)
    have a2 := add_small (a := t.extract 0 i ++ ⟨#[b]⟩) (b := t.extract i t.size) (by rw [ByteArray.size_append]; omega)
    have a3 := add_small (a := t.extract 0 i ++ ⟨#[b]⟩) (b := t.extract (i + 1) t.size) (by rw [ByteArray.size_append]; omega)
    have a4 := add_small (a := t.extract 0 i) (b := t.extract (i + 1) t.size) (by omega)
    left
    by_cases q0 : k = 0
    · refine ⟨(c4, t.extract 0 i ++ ⟨#[b]⟩ ++ t.extract i t.size, n - 1), ?_, ⟨k4.mono (by simp only; omega), by simp only; omega, by simp only [ByteArray.size_append]; omega⟩, by simp only; omega⟩
      simp -implicitDefEqProofs only [sl_zero, sl_succ, bin_gtr, hn', ht', decide_true, lenD_str, Option.bind_some, gate_t, if_true, pickD_B, ifD_B, liveD_agg, ref0_eq, e2, e3, e4, callK_ret, hb, mkU, str_byte, bin_eql, q0, s1, s2, a1, a2, bin_sub, hwn]
    by_cases q1 : k = 1
    · refine ⟨(c4, t.extract 0 i ++ ⟨#[b]⟩ ++ t.extract (i + 1) t.size, n - 1), ?_, ⟨k4.mono (by simp only; omega), by simp only; omega, by simp only [ByteArray.size_append]; omega⟩, by simp only; omega⟩
      simp -implicitDefEqProofs only [sl_zero, sl_succ, bin_gtr, hn', ht', decide_true, decide_false, Bool.false_eq_true, if_false, lenD_str, Option.bind_some, gate_t, if_true, pickD_B, ifD_B, liveD_agg, ref0_eq, e2, e3, e4, callK_ret, hb, mkU, str_byte, bin_eql, q0, q1, show ¬ (1 : Int) = 0 by decide, s1, s3, a1, a3, bin_sub, bin_add, hwi, hwn]
    · refine ⟨(c4, t.extract 0 i ++ t.extract (i + 1) t.size, n - 1), ?_, ⟨k4.mono (by simp only; omega), by simp only; omega, by simp only [ByteArray.size_append]; omega⟩, by simp only; omega⟩
      simp -implicitDefEqProofs only [sl_zero, sl_succ, bin_gtr, hn', ht', decide_true, decide_false, Bool.false_eq_true, if_false, lenD_str, Option.bind_some, gate_t, if_true, pickD_B, ifD_B, liveD_agg, ref0_eq, e2, e3, e4, callK_ret, hb, mkU, str_byte, bin_eql, q0, q1, s1, s3, a4, bin_sub, bin_add, hwi, hwn]
  · rintro o ⟨t, c', rfl, g1, g2⟩
    refine ⟨t, c', ?_, g1, g2⟩
    simp -implicitDefEqProofs only [outK_ext, Nat.beq_refl, ifN_B, if_true, sl_zero, sl_succ, liveD_agg, Option.bind_some]
end Go.Proofs.YtlphibidnkjpdaaDoor
/-
  Layouts: what the functions compute.
-/
namespace Go.Proofs.YtlphibidnkjpdaaDoor
open Go Go.V
set_option linter.unusedSimpArgs false

/-! ### numbers in a text -/
theorem lib_join (c : UInt8) : ∀ (ws : List (List UInt8)), Lib.join ws [c] = joinL c ws
  | [] => rfl
  | [a] => by rw [Lib.join_one]; rfl
  | a :: b :: l => by
    have ih := lib_join c (b :: l)
    rw [Lib.join_cons] at ih ⊢
    have hj : joinL c (a :: b :: l) = a ++ c :: joinL c (b :: l) := rfl
    rw [hj, ← ih]
    simp [Lib.joinTail]
theorem joinOf_J (c : UInt8) (ns : List Int) : joinOf (ns.map intT) ⟨#[c]⟩ = numsJ c ns := by
  apply chars_inj
  rw [chars_numsJ, ← lib_join]
  unfold joinOf
  rw [chars_mk, List.map_map]
  rfl
theorem joinL_len {c : UInt8} {m : Nat} : ∀ (ws : List (List UInt8)), (∀ w ∈ ws, w.length ≤ m) → (joinL c ws).length ≤ ws.length * (m + 1)
  | [], _ => by simp [joinL]
  | [a], h => by
    have := h a (by simp)
    show a.length ≤ 1 * (m + 1)
    omega
  | a :: b :: l, h => by
    have ih := joinL_len (c := c) (b :: l) fun w hw => h w (by simp [hw])
    have ha := h a (by simp)
    have hj : joinL c (a :: b :: l) = a ++ c :: joinL c (b :: l) := rfl
    rw [hj, List.length_append, List.length_cons]
    have e : (a :: b :: l).length * (m + 1) = (b :: l).length * (m + 1) + (m + 1) := by rw [List.length_cons, Nat.succ_mul]
    omega
theorem numsJ_size {c : UInt8} {ns : List Int} (h : ∀ n ∈ ns, 0 ≤ n ∧ n < 1000000000000000000) : (numsJ c ns).size ≤ ns.length * 19 := by
  have : (numsJ c ns).size = (joinL c (ns.map fun n => chars (intT n))).length := by rw [size_list, chars_numsJ]
  rw [this]
  have := joinL_len (c := c) (m := 18) (ns.map fun n => chars (intT n)) fun w hw => by
    obtain ⟨n, hn, rfl⟩ := List.mem_map.1 hw
    exact intT_size 17 (h n hn).1 (by have := (h n hn).2; omega)
  rwa [List.length_map] at this
abbrev intsL (l : List Int) : D := .arr 1 (l.map I)
theorem txs_app {l m : List ByteArray} (h : l.length + m.length ≤ 1048577) : appD 1 16 (txs l) (txs m) = some (txs (l ++ m)) := by
  rw [appD_eq, if_pos (by simp only [List.length_map]; omega)]
  simp
theorem e_impl_join (ns : List Int) (c : UInt8) (h : ∀ n ∈ ns, 0 ≤ n ∧ n < 1000000000000000000) (hl : ns.length ≤ 1000000) : F_impl_join [intsL ns, T ⟨#[c]⟩] = some (.ret [T (numsJ c ns)] []) := by
  rw [t_impl_join]
  simp only [mkArr_nil, lenD_arr, List.length_map, Option.bind_some]
  refine loop_bind _ (loop_for ns.length (fun i => [T ⟨#[c]⟩, txs ((ns.take i).map intT), intsL ns, I ns.length, I i]) (.ext 0 [T ⟨#[c]⟩, txs (ns.map intT)]) (fun i hi => ?_) ?_ rfl rfl) ?_
  · have hi' : (i : Int) < (ns.length : Int) := by omega
    have hw : IntKind.i64.wrap ((i : Int) + 1) = ((i + 1 : Nat) : Int) := by rw [wrap_id (by omega) (by omega)]; omega
    have hx := h ns[i] (List.getElem_mem hi)
    have hel : elemD 1 (intsL ns) (I (i : Int)) = some [I ns[i]] := by simp [hi]
    have hit := e_Itoa (n := ns[i]) (by omega) (by omega)
    have hap := txs_app (l := (ns.take i).map intT) (m := [intT ns[i]]) (by simp; omega)
    have htk : (ns.take (i + 1)).map intT = (ns.take i).map intT ++ [intT ns[i]] := by rw [List.take_succ_eq_append_getElem hi, List.map_append]; rfl
    rw [← htk] at hap
    have hck : chkA (.arr 1 [T (intT ns[i])]) = some (txs [intT ns[i]]) := chkA_texts [intT ns[i]]
    show _ = some (Out.nrm [T ⟨#[c]⟩, txs ((ns.take (i + 1)).map intT), intsL ns, I ns.length, I ((i + 1 : Nat) : Int)])
    simp -implicitDefEqProofs only [sl_zero, sl_succ, bin_lss, hi', decide_true, Option.bind_some, ifD_B, if_true, hel, Option.map_some, ldD_ptr, takeD_f, chkV_v, hit, callK_ret, one_text, hck, hap, bin_add, hw]
  · simp
  · have hz := numsJ_size (c := c) h
    have hj : fJoin [txs (ns.map intT), T ⟨#[c]⟩] = some (.ret [T (numsJ c ns)] []) := by
      simp only [fJoin, textsOf_T, Option.bind_some, joinOf_J]
      rw [if_pos ⟨by rw [List.length_map]; omega, by omega⟩]
    simp -implicitDefEqProofs only [outK_ext, Nat.beq_refl, ifN_B, if_true, sl_zero, sl_succ, liveD_arr, liveD_ref, Option.bind_some, hj, callK_ret]
theorem allI_In {a b : Int} : ∀ (l : List Int) (i : Nat), allI (fun _ x => decide (a ≤ x ∧ x ≤ b)) i l = l.all fun x => decide (a ≤ x ∧ x ≤ b)
  | [], _ => rfl
  | x :: l, i => by simp only [allI, allI_In l, List.all_cons]
theorem e_spec_l1All (l : List Int) (a b : Int) (h : l.length ≤ 1048577) : F_spec_l1All [intsL l, I a, I b] = some (.ret [B (l.all fun x => decide (a ≤ x ∧ x ≤ b))] []) := by
  rw [t_spec_l1All]
  simp only [lenD_arr, List.length_map, Option.bind_some]
  refine loop_bind _ (loop_all l (fun i => [I a, I b, intsL l, I l.length, I i]) (fun _ x => decide (a ≤ x ∧ x ≤ b)) (.ret [B false] []) (.ext 0 []) (fun i hi => ?_) ?_ rfl rfl rfl) ?_
  · have hw : IntKind.i64.wrap ((i : Int) + 1) = (i : Int) + 1 := wrap_id (by omega) (by omega)
    by_cases h1 : a ≤ l[i] ∧ l[i] ≤ b <;> simp -implicitDefEqProofs [hi, hw, h1, e_spec_l1In]
  · simp
  · rw [allI_In]
    by_cases hm : (l.all fun x => decide (a ≤ x ∧ x ≤ b)) = true
    · rw [if_pos hm, hm]; rfl
    · rw [if_neg hm]
      rw [Bool.not_eq_true] at hm
      rw [hm]
      rfl

/-! ### layouts -/
def pageB (n : Int) : Bool := decide (60 ≤ n ∧ n ≤ 2000)
theorem tpI (n : Int) (ds : List D) : tupAt (.tup (I n :: ds)) 0 = some (I n) := rfl
theorem tpA (l : List D) (ds : List D) : tupAt (.tup (.agg l :: ds)) 0 = some (.agg l) := rfl
theorem tp1 (a : D) (v : Value) (ds : List D) : tupAt (.tup (a :: .v v :: ds)) 1 = some (.v v) := rfl
theorem tp2 (a b : D) (v : Value) (ds : List D) : tupAt (.tup (a :: b :: .v v :: ds)) 2 = some (.v v) := rfl
def ifN0 (b : Bool) (n : Int) : Int := if b = true then n else 0
end Go.Proofs.YtlphibidnkjpdaaDoor
