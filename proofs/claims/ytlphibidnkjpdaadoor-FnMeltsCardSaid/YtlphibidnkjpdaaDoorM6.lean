/-
  What the functions compute: their evaluated texts, printed.
-/
import Derived.Test.YtlphibidnkjpdaaDoorRows
import Derived.Test.YtlphibidnkjpdaaDoorTie
import Derived.Test.YtlphibidnkjpdaaDoorCards
import Derived.Test.YtlphibidnkjpdaaDoorM5
namespace Go.Proofs.YtlphibidnkjpdaaDoor
open Go Go.V
theorem t_laws_big (x0 x1 : D) : F_laws_big [x0, x1] =
  ((lenD false x0).bind fun z => (bin BinOp.gtr false [] z (D.v (Value.int IntKind.i64 1048576))).bind fun z => (gate (D.tup []) z false (some x1)).bind fun z_1 => (gate (D.tup []) z false (lenD false z_1)).bind fun z_2 =>
 (gate (D.tup []) z false (some x0)).bind fun z_3 => (gate (D.tup []) z false (lenD false z_3)).bind fun z_4 => (gate (D.tup []) z false (bin BinOp.sub false [] (D.v (Value.int IntKind.i64 1048576)) z_4)).bind fun z_5 =>
 (gate (D.tup []) z false (bin BinOp.gtr false [] z_2 z_5)).bind fun z_6 => (pickD z (D.v (Value.bool true)) z_6).bind fun z => some (Out.ret [z] [])) := by kernel_rfl
theorem t_spec_l1Cur_next (x0 : D) : F_spec_l1Cur_next [x0] =
  ((liveD x0 (D.ref 0 0)).bind fun z => (liveD z z).bind fun z => (refAdd 1 z).bind fun z => (((atD x0 z).bind (takeD false 1)).bind chkV).bind fun z => (liveD x0 (D.ref 0 0)).bind fun z_1 => (liveD z_1 z_1).bind fun z_2 =>
 (refAdd 0 z_2).bind fun z_3 => ((atD x0 z_3).bind (takeD false 1)).bind fun z_4 => (lenD false z_4).bind fun z_5 => (bin BinOp.lss false [] z z_5).bind fun z => ifD z ((liveD x0 (D.ref 0 0)).bind fun z =>
 (liveD z z).bind fun z => (refAdd 0 z).bind fun z => ((atD x0 z).bind (takeD false 1)).bind fun z => (liveD x0 (D.ref 0 0)).bind fun z_6 => (liveD z_6 z_6).bind fun z_7 => (refAdd 1 z_7).bind fun z_8 =>
 (((atD x0 z_8).bind (takeD false 1)).bind chkV).bind fun z_9 => (Option.map D.ptr (elemD 1 z z_9)).bind fun z => ((ldD false 1 z).bind chkV).bind fun z => (convD (some IntKind.i64) false z).bind fun z =>
 (liveD x0 (D.ref 0 0)).bind fun z_10 => (liveD z_10 z_10).bind fun z_11 => (refAdd 1 z_11).bind fun z_12 => (((atD x0 z_12).bind (takeD false 1)).bind chkV).bind fun z_13 =>
 (bin BinOp.add false [] z_13 (D.v (Value.int IntKind.i64 1))).bind fun z_14 => (liveD z_10 z_10).bind fun z_15 => (refAdd 1 z_15).bind fun z_16 => (stD 1 x0 z_16 z_14).bind fun b => (liveD b (D.ref 0 0)).bind fun z_17 =>
 (liveD b (D.ref 0 0)).bind fun z_18 => (liveD z_18 z_18).bind fun z_19 => (refAdd 2 z_19).bind fun z_20 => (((atD b z_20).bind (takeD false 1)).bind chkV).bind fun z_21 => (bin BinOp.mul false [] z_21 (D.v
 (Value.int IntKind.u64 6364136223846793005))).bind fun z_22 => (convD (some IntKind.u64) false z).bind fun z_23 => (bin BinOp.add false [] z_22 z_23).bind fun z_24 => (bin BinOp.add false [] z_24 (D.v
 (Value.int IntKind.u64 1442695040888963407))).bind fun z_25 => (liveD z_17 z_17).bind fun z_26 => (refAdd 2 z_26).bind fun z_27 => (stD 1 b z_27 z_25).bind fun b => (liveD b (D.ref 0 0)).bind fun z_28 =>
 (liveD z_28 z_28).bind fun z_29 => (refAdd 1 z_29).bind fun z_30 => (((atD b z_30).bind (takeD false 1)).bind chkV).bind fun z_31 => (liveD b (D.ref 0 0)).bind fun z_32 => (liveD z_32 z_32).bind fun z_33 =>
 (refAdd 0 z_33).bind fun z_34 => ((atD b z_34).bind (takeD false 1)).bind fun z_35 => (lenD false z_35).bind fun z_36 => (bin BinOp.leq false [] z_31 z_36).bind fun z_37 => ifD z_37 ((liveD b b).bind fun _u => some
 (Out.ret [z] [b])) ((liveD b (D.ref 0 0)).bind fun z => (liveD z z).bind fun z => (refAdd 2 z).bind fun z => (((atD b z).bind (takeD false 1)).bind chkV).bind fun z => (bin BinOp.shr false [] z (D.v (Value.int IntKind.u64
 40))).bind fun z => (bin BinOp.and false [] z (D.v (Value.int IntKind.u64 255))).bind fun z => (convD (some IntKind.i64) false z).bind fun z => (liveD b b).bind fun _u => some (Out.ret [z] [b])))
 ((liveD x0 (D.ref 0 0)).bind fun z => (liveD z z).bind fun z_6 => (refAdd 1 z_6).bind fun z_7 => (((atD x0 z_7).bind (takeD false 1)).bind chkV).bind fun z_8 =>
 (bin BinOp.add false [] z_8 (D.v (Value.int IntKind.i64 1))).bind fun z_9 => (liveD z z).bind fun z => (refAdd 1 z).bind fun z => (stD 1 x0 z z_9).bind fun b => (liveD b (D.ref 0 0)).bind fun z =>
 (liveD b (D.ref 0 0)).bind fun z_10 => (liveD z_10 z_10).bind fun z_11 => (refAdd 2 z_11).bind fun z_12 => (((atD b z_12).bind (takeD false 1)).bind chkV).bind fun z_13 => (bin BinOp.mul false [] z_13
 (D.v (Value.int IntKind.u64 6364136223846793005))).bind fun z_14 => (convD (some IntKind.u64) false (D.v (Value.int IntKind.i64 0))).bind fun z_15 => (bin BinOp.add false [] z_14 z_15).bind fun z_16 =>
 (bin BinOp.add false [] z_16 (D.v (Value.int IntKind.u64 1442695040888963407))).bind fun z_17 => (liveD z z).bind fun z => (refAdd 2 z).bind fun z => (stD 1 b z z_17).bind fun b => (liveD b (D.ref 0 0)).bind fun z =>
 (liveD z z).bind fun z => (refAdd 1 z).bind fun z => (((atD b z).bind (takeD false 1)).bind chkV).bind fun z => (liveD b (D.ref 0 0)).bind fun z_18 => (liveD z_18 z_18).bind fun z_19 => (refAdd 0 z_19).bind fun z_20 =>
 ((atD b z_20).bind (takeD false 1)).bind fun z_21 => (lenD false z_21).bind fun z_22 => (bin BinOp.leq false [] z z_22).bind fun z => ifD z ((liveD b b).bind fun _u => some (Out.ret [D.v (Value.int IntKind.i64 0)] [b]))
 ((liveD b (D.ref 0 0)).bind fun z => (liveD z z).bind fun z => (refAdd 2 z).bind fun z => (((atD b z).bind (takeD false 1)).bind chkV).bind fun z => (bin BinOp.shr false [] z (D.v (Value.int IntKind.u64 40))).bind
 fun z => (bin BinOp.and false [] z (D.v (Value.int IntKind.u64 255))).bind fun z => (convD (some IntKind.i64) false z).bind fun z => (liveD b b).bind fun _u => some (Out.ret [z] [b])))) := by kernel_rfl
theorem t_spec_l1Cur_pick (x0 x1 : D) : F_spec_l1Cur_pick [x0, x1] =
  ((bin BinOp.leq false [] x1 (D.v (Value.int IntKind.i64 1))).bind fun z => ifD z ((liveD x0 x0).bind fun _u => some (Out.ret [D.v (Value.int IntKind.i64 0)] [x0])) ((liveD x0 (D.ref 0 0)).bind fun z =>
 (ref0 z x0).bind fun i => (liveD i i).bind fun i => callK (F_spec_l1Cur_next [i]) fun rs us => (bin BinOp.gtr false [] x1 (D.v (Value.int IntKind.i64 200))).bind fun z => ifD z
 ((bin BinOp.mul false [] (sl rs 0) (D.v (Value.int IntKind.i64 256))).bind fun z => (liveD (sl us 0) (D.ref 0 0)).bind fun z_1 => (ref0 z_1 (sl us 0)).bind fun i => (liveD i i).bind fun i =>
 callK (F_spec_l1Cur_next [i]) fun rs us => (bin BinOp.add false [] z (sl rs 0)).bind fun z => (bin BinOp.rem false [] z x1).bind fun z => (liveD (sl us 0) (sl us 0)).bind fun _u => some (Out.ret [z] [sl us 0]))
 ((bin BinOp.rem false [] (sl rs 0) x1).bind fun z => (liveD (sl us 0) (sl us 0)).bind fun _u => some (Out.ret [z] [sl us 0])))) := by kernel_rfl
theorem t_spec_l1Cur_strike (x0 : D) : F_spec_l1Cur_strike [x0] =
  ((liveD x0 (D.ref 0 0)).bind fun z => (ref0 z x0).bind fun i => (liveD i i).bind fun i => callK (F_spec_l1Cur_pick [i, D.v (Value.int IntKind.i64 8)]) fun rs us =>
 (bin BinOp.add false [] (D.v (Value.int IntKind.i64 120)) (sl rs 0)).bind fun z => (liveD (sl us 0) (D.ref 0 0)).bind fun z_1 => (ref0 z_1 (sl us 0)).bind fun i => (liveD i i).bind fun i =>
 callK (F_spec_l1Cur_pick [i, D.v (Value.int IntKind.i64 8)]) fun rs us => (bin BinOp.add false [] (D.v (Value.int IntKind.i64 30)) (sl rs 0)).bind fun z_2 => (liveD (sl us 0) (D.ref 0 0)).bind fun z_3 =>
 (ref0 z_3 (sl us 0)).bind fun i => (liveD i i).bind fun i => callK (F_spec_l1Cur_pick [i, D.v (Value.int IntKind.i64 2)]) fun rs us => (bin BinOp.add false [] (D.v (Value.int IntKind.i64 200)) (sl rs 0)).bind fun z_4 =>
 (liveD (sl us 0) (D.ref 0 0)).bind fun z_5 => (ref0 z_5 (sl us 0)).bind fun i => (liveD i i).bind fun i => callK (F_spec_l1Cur_pick [i, D.v (Value.int IntKind.i64 8)]) fun rs us =>
 (bin BinOp.add false [] (D.v (Value.int IntKind.i64 30)) (sl rs 0)).bind fun z_6 => (liveD (sl us 0) (D.ref 0 0)).bind fun z_7 => (ref0 z_7 (sl us 0)).bind fun i => (liveD i i).bind fun i =>
 callK (F_spec_l1Cur_pick [i, D.v (Value.int IntKind.i64 6)]) fun rs us => (bin BinOp.add false [] (D.v (Value.int IntKind.i64 60)) (sl rs 0)).bind fun z_8 => (bldD [(0, 1), (1, 1), (2, 1), (3, 1), (4, 1)]
 [D.v (Value.int IntKind.i64 0), D.v (Value.int IntKind.i64 0), D.v (Value.int IntKind.i64 0), D.v (Value.int IntKind.i64 0), D.v (Value.int IntKind.i64 0)] [z, z_2, z_4, z_6, z_8]).bind fun z => (stD 5 (D.agg
 [D.v (Value.int IntKind.i64 0), D.v (Value.int IntKind.i64 0), D.v (Value.int IntKind.i64 0), D.v (Value.int IntKind.i64 0), D.v (Value.int IntKind.i64 0)]) (D.ref 0 0) z).bind fun b => (fldD true 5 0 b).bind fun y =>
 (liveD (sl us 0) (sl us 0)).bind fun _u => some (Out.ret [y] [sl us 0])) := by kernel_rfl
theorem t_spec_l1Cur_one (x0 x1 : D) : F_spec_l1Cur_one [x0, x1] =
  ((liveD x0 (D.ref 0 0)).bind fun z => (ref0 z x0).bind fun i => (liveD i i).bind fun i => callK (F_spec_l1Cur_pick [i, x1]) fun rs us => (bin BinOp.eql false [] (sl rs 0) (D.v (Value.int IntKind.i64 0))).bind fun z =>
 (liveD (sl us 0) (sl us 0)).bind fun _u => some (Out.ret [z] [sl us 0])) := by kernel_rfl
theorem t_spec_maParts (x0 : D) : F_spec_maParts [x0] =
  ((boxD 5 x0).bind fun y => (liveD y (D.ref 0 0)).bind fun z => ((atD y z).bind (takeD false 1)).bind fun z => (liveD y (D.ref 0 1)).bind fun z_1 => ((atD y z_1).bind (takeD false 1)).bind fun z_2 =>
 (liveD y (D.ref 0 2)).bind fun z_3 => ((atD y z_3).bind (takeD false 1)).bind fun z_4 => (liveD y (D.ref 0 3)).bind fun z_5 => ((atD y z_5).bind (takeD false 1)).bind fun z_6 => (liveD y (D.ref 0 4)).bind fun z_7 =>
 ((atD y z_7).bind (takeD false 1)).bind fun z_8 => (mkArr 1 [z, z_2, z_4, z_6, z_8]).bind fun a => some (Out.ret [a] [])) := by kernel_rfl
theorem t_spec_l1Cur_among (x0 x1 : D) : F_spec_l1Cur_among [x0, x1] =
  ((liveD x0 (D.ref 0 0)).bind fun z => (lenD false x1).bind fun z_1 => (ref0 z x0).bind fun i => (liveD i i).bind fun i => callK (F_spec_l1Cur_pick [i, z_1]) fun rs us =>
 (Option.map D.ptr (elemD 1 x1 (sl rs 0))).bind fun z => ((ldD false 1 z).bind chkV).bind fun z => (liveD (sl us 0) (sl us 0)).bind fun _u => some (Out.ret [z] [sl us 0])) := by kernel_rfl
theorem t_spec_maOf (x0 : D) : F_spec_maOf [x0] =
  ((Option.map D.ptr (elemD 1 x0 (D.v (Value.int IntKind.i64 0)))).bind fun z => ((ldD false 1 z).bind chkV).bind fun z => (Option.map D.ptr (elemD 1 x0 (D.v (Value.int IntKind.i64 1)))).bind fun z_1 =>
 ((ldD false 1 z_1).bind chkV).bind fun z_2 => (Option.map D.ptr (elemD 1 x0 (D.v (Value.int IntKind.i64 2)))).bind fun z_3 => ((ldD false 1 z_3).bind chkV).bind fun z_4 =>
 (Option.map D.ptr (elemD 1 x0 (D.v (Value.int IntKind.i64 3)))).bind fun z_5 => ((ldD false 1 z_5).bind chkV).bind fun z_6 => (Option.map D.ptr (elemD 1 x0 (D.v (Value.int IntKind.i64 4)))).bind fun z_7 =>
 ((ldD false 1 z_7).bind chkV).bind fun z_8 => (bldD [(0, 1), (1, 1), (2, 1), (3, 1), (4, 1)] [D.v (Value.int IntKind.i64 0), D.v (Value.int IntKind.i64 0), D.v (Value.int IntKind.i64 0), D.v (Value.int IntKind.i64 0),
 D.v (Value.int IntKind.i64 0)] [z, z_2, z_4, z_6, z_8]).bind fun z => (stD 5 (D.agg [D.v (Value.int IntKind.i64 0), D.v (Value.int IntKind.i64 0), D.v (Value.int IntKind.i64 0), D.v (Value.int IntKind.i64 0),
 D.v (Value.int IntKind.i64 0)]) (D.ref 0 0) z).bind fun b => (fldD true 5 0 b).bind fun y => some (Out.ret [y] [])) := by kernel_rfl
theorem t_spec_l1Cur_anyStrike (x0 : D) : F_spec_l1Cur_anyStrike [x0] =
  ((liveD x0 (D.ref 0 0)).bind fun z => (ref0 z x0).bind fun i => (liveD i i).bind fun i => callK (F_spec_l1Cur_strike [i]) fun rs us => (stD 5 (D.agg
 [D.v (Value.int IntKind.i64 0), D.v (Value.int IntKind.i64 0), D.v (Value.int IntKind.i64 0), D.v (Value.int IntKind.i64 0), D.v (Value.int IntKind.i64 0)]) (D.ref 0 0) (sl rs 0)).bind fun b =>
 (liveD (sl us 0) (D.ref 0 0)).bind fun z => (ref0 z (sl us 0)).bind fun i => (liveD i i).bind fun i => callK (F_spec_l1Cur_one [i, D.v (Value.int IntKind.i64 8)]) fun rs us => ifD (sl rs 0)
 ((fldD true 5 0 b).bind fun z => callK (F_spec_maParts [z]) fun rs _u => (liveD (sl rs 0) (D.ref 0 0)).bind fun z => (liveD z (D.ref 0 0)).bind fun z_1 => (liveD (sl us 0) (D.ref 0 0)).bind fun z_2 =>
 (ref0 z_2 (sl us 0)).bind fun i => (liveD i i).bind fun i => callK (F_spec_l1Cur_pick [i, D.v (Value.int IntKind.i64 5)]) fun rs_1 us => (liveD (sl us 0) (D.ref 0 0)).bind fun z_3 => (mkArr 1
 [D.v (Value.int IntKind.i64 1), D.v (Value.int IntKind.i64 999), D.v (Value.int IntKind.i64 0), D.v (Value.int IntKind.i64 1000), D.v (Value.int IntKind.i64 (-9223372036854775808))]).bind fun a =>
 (ref0 z_3 (sl us 0)).bind fun i => (liveD i i).bind fun i => callK (F_spec_l1Cur_among [i, a]) fun rs_2 us => ((liveD z_1 (sl rs 0)).bind fun b => refI 1 b (sl rs_1 0)).bind fun z_4 =>
 (stD 1 (sl rs 0) z_4 (sl rs_2 0)).bind fun b_1 => (liveD z (D.ref 0 0)).bind fun z => (liveD z b_1).bind fun i => callK (F_spec_maOf [i]) fun rs _u => (stD 5 b (D.ref 0 0) (sl rs 0)).bind fun b =>
 (fldD true 5 0 b).bind fun z => (stD 5 (D.agg [D.v (Value.int IntKind.i64 0), D.v (Value.int IntKind.i64 0), D.v (Value.int IntKind.i64 0), D.v (Value.int IntKind.i64 0), D.v (Value.int IntKind.i64 0)])
 (D.ref 0 0) z).bind fun b => (fldD true 5 0 b).bind fun y => (liveD (sl us 0) (sl us 0)).bind fun _u => some (Out.ret [y] [sl us 0])) ((fldD true 5 0 b).bind fun z => (stD 5 (D.agg
 [D.v (Value.int IntKind.i64 0), D.v (Value.int IntKind.i64 0), D.v (Value.int IntKind.i64 0), D.v (Value.int IntKind.i64 0), D.v (Value.int IntKind.i64 0)]) (D.ref 0 0) z).bind fun b => (fldD true 5 0 b).bind fun y =>
 (liveD (sl us 0) (sl us 0)).bind fun _u => some (Out.ret [y] [sl us 0]))) := by kernel_rfl
theorem t_spec_l1Cur_lower (x0 x1 : D) : F_spec_l1Cur_lower [x0, x1] =
  ((boxD 5 x1).bind fun y => (liveD x0 (D.ref 0 0)).bind fun z => (ref0 z x0).bind fun i => (liveD i i).bind fun i => callK (F_spec_l1Cur_one [i, D.v (Value.int IntKind.i64 4)]) fun rs us => ifD (sl rs 0)
 ((liveD (sl us 0) (D.ref 0 0)).bind fun z => (ref0 z (sl us 0)).bind fun i => (liveD i i).bind fun i => callK (F_spec_l1Cur_anyStrike [i]) fun rs us => (stD 5 (D.agg
 [D.v (Value.int IntKind.i64 0), D.v (Value.int IntKind.i64 0), D.v (Value.int IntKind.i64 0), D.v (Value.int IntKind.i64 0), D.v (Value.int IntKind.i64 0)]) (D.ref 0 0) (sl rs 0)).bind fun b =>
 (fldD true 5 0 b).bind fun y => (liveD (sl us 0) (sl us 0)).bind fun _u => some (Out.ret [y] [sl us 0])) ((liveD y (D.ref 0 0)).bind fun z => ((atD y z).bind (takeD false 1)).bind fun z =>
 (liveD (sl us 0) (D.ref 0 0)).bind fun z_1 => (ref0 z_1 (sl us 0)).bind fun i => (liveD i i).bind fun i => callK (F_spec_l1Cur_pick [i, D.v (Value.int IntKind.i64 3)]) fun rs us =>
 (bin BinOp.sub false [] z (sl rs 0)).bind fun z => (liveD y (D.ref 0 0)).bind fun z_2 => (stD 1 y z_2 z).bind fun b => (liveD b (D.ref 0 1)).bind fun z => ((atD b z).bind (takeD false 1)).bind fun z =>
 (liveD (sl us 0) (D.ref 0 0)).bind fun z_3 => (ref0 z_3 (sl us 0)).bind fun i => (liveD i i).bind fun i => callK (F_spec_l1Cur_pick [i, D.v (Value.int IntKind.i64 4)]) fun rs us =>
 (bin BinOp.sub false [] z (sl rs 0)).bind fun z => (liveD b (D.ref 0 1)).bind fun z_4 => (stD 1 b z_4 z).bind fun b => (liveD b (D.ref 0 4)).bind fun z => ((atD b z).bind (takeD false 1)).bind fun z =>
 (liveD (sl us 0) (D.ref 0 0)).bind fun z_5 => (ref0 z_5 (sl us 0)).bind fun i => (liveD i i).bind fun i => callK (F_spec_l1Cur_pick [i, D.v (Value.int IntKind.i64 3)]) fun rs us =>
 (liveD (sl us 0) (D.ref 0 0)).bind fun z_6 => (ref0 z_6 (sl us 0)).bind fun i => (liveD i i).bind fun i => callK (F_spec_l1Cur_pick [i, D.v (Value.int IntKind.i64 8)]) fun rs_1 us => (bin BinOp.quo false [] (sl rs_1 0)
 (D.v (Value.int IntKind.i64 7))).bind fun z_7 => (bin BinOp.sub false [] (sl rs 0) z_7).bind fun z_8 => (bin BinOp.sub false [] z z_8).bind fun z => (liveD b (D.ref 0 4)).bind fun z_9 => (stD 1 b z_9 z).bind fun b =>
 (fldD true 5 0 b).bind fun z => (stD 5 (D.agg [D.v (Value.int IntKind.i64 0), D.v (Value.int IntKind.i64 0), D.v (Value.int IntKind.i64 0), D.v (Value.int IntKind.i64 0), D.v (Value.int IntKind.i64 0)])
 (D.ref 0 0) z).bind fun b => (fldD true 5 0 b).bind fun y => (liveD (sl us 0) (sl us 0)).bind fun _u => some (Out.ret [y] [sl us 0]))) := by kernel_rfl
theorem t_spec_DrawFilingsFor (x0 : D) : F_spec_DrawFilingsFor [x0] =
  ((bldD [(0, 1)] [D.arr 1 [], D.v (Value.int IntKind.i64 0), D.v (Value.int IntKind.u64 0)] [x0]).bind fun z => (boxD 3 z).bind fun y => (liveD y (D.ref 0 0)).bind fun z => (liveD z z).bind fun z_1 =>
 (ref0 z_1 y).bind fun i => (liveD i i).bind fun i => callK (F_spec_l1Cur_anyStrike [i]) fun rs us => (stD 5 (D.agg [D.v (Value.int IntKind.i64 0), D.v (Value.int IntKind.i64 0), D.v (Value.int IntKind.i64 0),
 D.v (Value.int IntKind.i64 0), D.v (Value.int IntKind.i64 0)]) (D.ref 0 0) (sl rs 0)).bind fun b => (fldD true 5 0 b).bind fun z_2 => (liveD z z).bind fun z => (fldD true 5 0 b).bind fun z_3 =>
 (ref0 z (sl us 0)).bind fun i => (liveD i i).bind fun i => callK (F_spec_l1Cur_lower [i, z_3]) fun rs _u => (stD 5 (D.agg [D.v (Value.int IntKind.i64 0), D.v (Value.int IntKind.i64 0),
 D.v (Value.int IntKind.i64 0), D.v (Value.int IntKind.i64 0), D.v (Value.int IntKind.i64 0)]) (D.ref 0 0) z_2).bind fun b => (stD 5 (D.agg [D.v (Value.int IntKind.i64 0), D.v (Value.int IntKind.i64 0),
 D.v (Value.int IntKind.i64 0), D.v (Value.int IntKind.i64 0), D.v (Value.int IntKind.i64 0)]) (D.ref 0 0) (sl rs 0)).bind fun b_1 => (fldD true 5 0 b).bind fun y =>
 (fldD true 5 0 b_1).bind fun y_1 => some (Out.ret [y, y_1] [])) := by kernel_rfl
theorem t_impl_Strike_parts (x0 : D) : F_impl_Strike_parts [x0] =
  ((boxD 5 x0).bind fun y => (liveD y (D.ref 0 0)).bind fun z => ((atD y z).bind (takeD false 1)).bind fun z => (liveD y (D.ref 0 1)).bind fun z_1 => ((atD y z_1).bind (takeD false 1)).bind fun z_2 =>
 (liveD y (D.ref 0 2)).bind fun z_3 => ((atD y z_3).bind (takeD false 1)).bind fun z_4 => (liveD y (D.ref 0 3)).bind fun z_5 => ((atD y z_5).bind (takeD false 1)).bind fun z_6 => (liveD y (D.ref 0 4)).bind fun z_7 =>
 ((atD y z_7).bind (takeD false 1)).bind fun z_8 => (mkArr 1 [z, z_2, z_4, z_6, z_8]).bind fun a => some (Out.ret [a] [])) := by kernel_rfl
theorem t_impl_within (x0 x1 x2 : D) : F_impl_within [x0, x1, x2] =
  ((bin BinOp.geq false [] x0 x1).bind fun z => (gate (D.tup []) z true (some x0)).bind fun z_1 => (gate (D.tup []) z true (some x2)).bind fun z_2 => (gate (D.tup []) z true (bin BinOp.leq false [] z_1 z_2)).bind fun z_3 =>
 (pickD z z_3 (D.v (Value.bool false))).bind fun z => some (Out.ret [z] [])) := by kernel_rfl
theorem t_impl_IsStrike (x0 : D) : F_impl_IsStrike [x0] =
  ((boxD 5 x0).bind fun y => (fldD true 5 0 y).bind fun z => callK (F_impl_Strike_parts [z]) fun rs _u => (lenD false (sl rs 0)).bind fun z => (loopC (fun s => (bin BinOp.lss false [] (sl s 2) (sl s 1)).bind fun z => ifD z
 ((Option.map D.ptr (elemD 1 (sl s 0) (sl s 2))).bind fun z => ((ldD false 1 z).bind chkV).bind fun z => callK (F_impl_within [z, D.v (Value.int IntKind.i64 1), D.v (Value.int IntKind.i64 999)]) fun rs _u =>
 (un UnOp.not (sl rs 0)).bind fun z => ifD z (some (Out.ret [D.v (Value.bool false)] [])) ((bin BinOp.add false [] (sl s 2) (D.v (Value.int IntKind.i64 1))).bind fun z => some (Out.nrm [sl s 0, sl s 1, z])))
 (some (Out.ext 0 []))) [sl rs 0, z, D.v (Value.int IntKind.i64 0)]).bind fun o => outK o (fun i _u => ifN (i.beq 0) (some (Out.ret [D.v (Value.bool true)] [])) none) fun a b => some (Out.ret a b)) := by kernel_rfl
theorem t_impl_Strike_filings (x0 x1 : D) : F_impl_Strike_filings [x0, x1] =
  ((boxD 5 x0).bind fun y => (boxD 5 x1).bind fun y_1 => (mkArr 1 []).bind fun a => (fldD true 5 0 y_1).bind fun z => callK (F_impl_Strike_parts [z]) fun rs _u => (liveD y (D.ref 0 2)).bind fun z =>
 ((atD y z).bind (takeD false 1)).bind fun z => (liveD y_1 (D.ref 0 2)).bind fun z_1 => ((atD y_1 z_1).bind (takeD false 1)).bind fun z_2 => (bin BinOp.eql false [] z z_2).bind fun z => (fldD true 5 0 y).bind fun z_3 =>
 callK (F_impl_Strike_parts [z_3]) fun rs_1 _u => (lenD false (sl rs_1 0)).bind fun z_4 => (loopC (fun s => (bin BinOp.lss false [] (sl s 5) (sl s 4)).bind fun z => ifD z
 ((Option.map D.ptr (elemD 1 (sl s 3) (sl s 5))).bind fun z => ((ldD false 1 z).bind chkV).bind fun z => (Option.map D.ptr (elemD 1 (sl s 1) (sl s 5))).bind fun z_5 => ((ldD false 1 z_5).bind chkV).bind fun z_6 =>
 (bin BinOp.sub false [] z z_6).bind fun z_7 => (mkArr 1 [z_7]).bind fun a => (chkA a).bind fun b => (appD 1 8 (sl s 0) b).bind fun y => (gate (D.tup []) (sl s 2) true (some z)).bind fun z =>
 (gate (D.tup []) (sl s 2) true (some (sl s 1))).bind fun z_8 => (gate (D.tup []) (sl s 2) true (some (sl s 5))).bind fun z_9 => (gate (D.tup []) (sl s 2) true (Option.map D.ptr (elemD 1 z_8 z_9))).bind fun z_10 =>
 (gate (D.tup []) (sl s 2) true ((ldD false 1 z_10).bind chkV)).bind fun z_11 => (gate (D.tup []) (sl s 2) true (bin BinOp.geq false [] z z_11)).bind fun z => (pickD (sl s 2) z (D.v (Value.bool false))).bind fun z =>
 (bin BinOp.add false [] (sl s 5) (D.v (Value.int IntKind.i64 1))).bind fun z_12 => some (Out.nrm [y, sl s 1, z, sl s 3, sl s 4, z_12])) (some (Out.ext 0 [sl s 0, sl s 2])))
 [a, sl rs 0, z, sl rs_1 0, z_4, D.v (Value.int IntKind.i64 0)]).bind fun o => outK o (fun i s => ifN (i.beq 0) (some (Out.ret [sl s 0, sl s 1] [])) none) fun a b => some (Out.ret a b)) := by kernel_rfl
theorem t_impl_FilingsFor (x0 x1 : D) : F_impl_FilingsFor [x0, x1] =
  ((boxD 5 x0).bind fun y => (boxD 5 x1).bind fun y_1 => (fldD true 5 0 y).bind fun z => callK (F_impl_IsStrike [z]) fun rs _u => (un UnOp.not (sl rs 0)).bind fun z =>
 (gate (D.tup []) z false (fldD true 5 0 y_1)).bind fun z_1 => gateC z false (callK (F_impl_IsStrike [z_1]) fun rs _u => some (Out.nrm [sl rs 0])) [D.tup []] fun outs =>
 (gate (D.tup []) z false (un UnOp.not (sl outs 0))).bind fun z_2 => (pickD z (D.v (Value.bool true)) z_2).bind fun z => ifD z ((mkArr 1 []).bind fun a => some (Out.ret [a, D.v (Value.bool false)] []))
 ((fldD true 5 0 y).bind fun z => (fldD true 5 0 y_1).bind fun z_3 => callK (F_impl_Strike_filings [z, z_3]) fun rs _u => (tupAt (D.tup rs) 0).bind fun y => (tupAt (tupCut (D.tup rs) 0) 1).bind fun z =>
 (un UnOp.not z).bind fun z => ifD z ((mkArr 1 []).bind fun a => some (Out.ret [a, D.v (Value.bool false)] [])) (some (Out.ret [y, D.v (Value.bool true)] [])))) := by kernel_rfl
theorem t_spec_l1In (x0 x1 x2 : D) : F_spec_l1In [x0, x1, x2] =
  ((bin BinOp.geq false [] x0 x1).bind fun z => (gate (D.tup []) z true (some x0)).bind fun z_1 => (gate (D.tup []) z true (some x2)).bind fun z_2 => (gate (D.tup []) z true (bin BinOp.leq false [] z_1 z_2)).bind fun z_3 =>
 (pickD z z_3 (D.v (Value.bool false))).bind fun z => some (Out.ret [z] [])) := by kernel_rfl
theorem t_spec_l1All (x0 x1 x2 : D) : F_spec_l1All [x0, x1, x2] =
  ((lenD false x0).bind fun z => (loopC (fun s => (bin BinOp.lss false [] (sl s 4) (sl s 3)).bind fun z => ifD z ((Option.map D.ptr (elemD 1 (sl s 2) (sl s 4))).bind fun z => ((ldD false 1 z).bind chkV).bind fun z =>
 callK (F_spec_l1In [z, sl s 0, sl s 1]) fun rs _u => (un UnOp.not (sl rs 0)).bind fun z => ifD z (some (Out.ret [D.v (Value.bool false)] []))
 ((bin BinOp.add false [] (sl s 4) (D.v (Value.int IntKind.i64 1))).bind fun z => some (Out.nrm [sl s 0, sl s 1, sl s 2, sl s 3, z]))) (some (Out.ext 0 []))) [x1, x2, x0, z, D.v (Value.int IntKind.i64 0)]).bind fun o =>
 outK o (fun i _u => ifN (i.beq 0) (some (Out.ret [D.v (Value.bool true)] [])) none) fun a b => some (Out.ret a b)) := by kernel_rfl
theorem t_spec_maGood (x0 : D) : F_spec_maGood [x0] =
  ((boxD 5 x0).bind fun y => (fldD true 5 0 y).bind fun z => callK (F_spec_maParts [z]) fun rs _u => callK (F_spec_l1All [sl rs 0, D.v (Value.int IntKind.i64 1), D.v (Value.int IntKind.i64 999)]) fun rs _u =>
 some (Out.ret [sl rs 0] [])) := by kernel_rfl
theorem t_spec_maCan (x0 x1 : D) : F_spec_maCan [x0, x1] =
  ((boxD 5 x0).bind fun y => (boxD 5 x1).bind fun y_1 => (fldD true 5 0 y_1).bind fun z => callK (F_spec_maParts [z]) fun rs _u => (fldD true 5 0 y).bind fun z => callK (F_spec_maParts [z]) fun rs_1 _u =>
 (lenD false (sl rs_1 0)).bind fun z => (loopC (fun s => (bin BinOp.lss false [] (sl s 5) (sl s 4)).bind fun z => ifD z ((Option.map D.ptr (elemD 1 (sl s 3) (sl s 5))).bind fun z =>
 ((ldD false 1 z).bind chkV).bind fun z => (Option.map D.ptr (elemD 1 (sl s 2) (sl s 5))).bind fun z_1 => ((ldD false 1 z_1).bind chkV).bind fun z_2 => (bin BinOp.lss false [] z z_2).bind fun z =>
 ifD z (some (Out.ret [D.v (Value.bool false)] [])) ((bin BinOp.add false [] (sl s 5) (D.v (Value.int IntKind.i64 1))).bind fun z => some (Out.nrm [sl s 0, sl s 1, sl s 2, sl s 3, sl s 4, z])))
 (some (Out.ext 0 [sl s 0, sl s 1]))) [y, y_1, sl rs 0, sl rs_1 0, z, D.v (Value.int IntKind.i64 0)]).bind fun o => outK o (fun i s => ifN (i.beq 0) ((liveD (sl s 0) (D.ref 0 2)).bind fun z =>
 ((atD (sl s 0) z).bind (takeD false 1)).bind fun z => (liveD (sl s 1) (D.ref 0 2)).bind fun z_1 => ((atD (sl s 1) z_1).bind (takeD false 1)).bind fun z_2 =>
 (bin BinOp.eql false [] z z_2).bind fun z => some (Out.ret [z] [])) none) fun a b => some (Out.ret a b)) := by kernel_rfl
theorem t_spec_maFilings (x0 x1 : D) : F_spec_maFilings [x0, x1] =
  ((boxD 5 x0).bind fun y => (boxD 5 x1).bind fun y_1 => (fldD true 5 0 y_1).bind fun z => callK (F_spec_maParts [z]) fun rs _u => (fldD true 5 0 y).bind fun z => callK (F_spec_maParts [z]) fun rs_1 _u =>
 (lenD false (sl rs_1 0)).bind fun z => (loopC (fun s => (bin BinOp.lss false [] (sl s 4) (sl s 3)).bind fun z => ifD z ((Option.map D.ptr (elemD 1 (sl s 2) (sl s 4))).bind fun z =>
 ((ldD false 1 z).bind chkV).bind fun z => (Option.map D.ptr (elemD 1 (sl s 1) (sl s 4))).bind fun z_1 => ((ldD false 1 z_1).bind chkV).bind fun z_2 => (bin BinOp.sub false [] z z_2).bind fun z =>
 (mkArr 1 [z]).bind fun a => (chkA a).bind fun b => (appD 1 8 (sl s 0) b).bind fun y => (bin BinOp.add false [] (sl s 4) (D.v (Value.int IntKind.i64 1))).bind fun z => some (Out.nrm [y, sl s 1, sl s 2, sl s 3, z]))
 (some (Out.ext 0 [sl s 0]))) [D.arr 1 [], sl rs 0, sl rs_1 0, z, D.v (Value.int IntKind.i64 0)]).bind fun o => outK o (fun i s => ifN (i.beq 0) (some (Out.ret [sl s 0] [])) none) fun a b => some (Out.ret a b)) := by kernel_rfl
theorem t_spec_FilingsFor (x0 x1 : D) : F_spec_FilingsFor [x0, x1] =
  ((boxD 5 x0).bind fun y => (boxD 5 x1).bind fun y_1 => (fldD true 5 0 y).bind fun z => callK (F_spec_maGood [z]) fun rs _u => (un UnOp.not (sl rs 0)).bind fun z =>
 (gate (D.tup []) z false (fldD true 5 0 y_1)).bind fun z_1 => gateC z false (callK (F_spec_maGood [z_1]) fun rs _u => some (Out.nrm [sl rs 0])) [D.tup []] fun outs =>
 (gate (D.tup []) z false (un UnOp.not (sl outs 0))).bind fun z_2 => (pickD z (D.v (Value.bool true)) z_2).bind fun z => (gate (D.tup []) z false (fldD true 5 0 y)).bind fun z_3 =>
 (gate (D.tup []) z false (fldD true 5 0 y_1)).bind fun z_4 => gateC z false (callK (F_spec_maCan [z_3, z_4]) fun rs _u => some (Out.nrm [sl rs 0])) [D.tup []] fun outs =>
 (gate (D.tup []) z false (un UnOp.not (sl outs 0))).bind fun z_5 => (pickD z (D.v (Value.bool true)) z_5).bind fun z => ifD z (some (Out.ret [D.arr 1 [], D.v (Value.bool false)] [])) ((fldD true 5 0 y).bind fun z =>
 (fldD true 5 0 y_1).bind fun z_6 => callK (F_spec_maFilings [z, z_6]) fun rs _u => some (Out.ret [sl rs 0, D.v (Value.bool true)] []))) := by kernel_rfl
theorem t_impl_CanBeJustified (x0 x1 : D) : F_impl_CanBeJustified [x0, x1] =
  ((boxD 5 x0).bind fun y => (boxD 5 x1).bind fun y_1 => (fldD true 5 0 y).bind fun z => callK (F_impl_IsStrike [z]) fun rs _u => (un UnOp.not (sl rs 0)).bind fun z =>
 (gate (D.tup []) z false (fldD true 5 0 y_1)).bind fun z_1 => gateC z false (callK (F_impl_IsStrike [z_1]) fun rs _u => some (Out.nrm [sl rs 0])) [D.tup []] fun outs =>
 (gate (D.tup []) z false (un UnOp.not (sl outs 0))).bind fun z_2 => (pickD z (D.v (Value.bool true)) z_2).bind fun z => ifD z (some (Out.ret [D.v (Value.bool false), D.v (Value.bool false)] []))
 ((fldD true 5 0 y).bind fun z => (fldD true 5 0 y_1).bind fun z_3 => callK (F_impl_Strike_filings [z, z_3]) fun rs _u => (tupAt (D.tup rs) 0).bind fun _u => (tupAt (tupCut (D.tup rs) 0) 1).bind fun z =>
 some (Out.ret [z, D.v (Value.bool true)] []))) := by kernel_rfl
theorem t_spec_CanBeJustified (x0 x1 : D) : F_spec_CanBeJustified [x0, x1] =
  ((boxD 5 x0).bind fun y => (boxD 5 x1).bind fun y_1 => (fldD true 5 0 y).bind fun z => callK (F_spec_maGood [z]) fun rs _u => (un UnOp.not (sl rs 0)).bind fun z =>
 (gate (D.tup []) z false (fldD true 5 0 y_1)).bind fun z_1 => gateC z false (callK (F_spec_maGood [z_1]) fun rs _u => some (Out.nrm [sl rs 0])) [D.tup []] fun outs =>
 (gate (D.tup []) z false (un UnOp.not (sl outs 0))).bind fun z_2 => (pickD z (D.v (Value.bool true)) z_2).bind fun z => ifD z (some (Out.ret [D.v (Value.bool false), D.v (Value.bool false)] []))
 ((fldD true 5 0 y).bind fun z => (fldD true 5 0 y_1).bind fun z_3 => callK (F_spec_maCan [z, z_3]) fun rs _u => some (Out.ret [sl rs 0, D.v (Value.bool true)] []))) := by kernel_rfl
theorem t_laws_sameInts (x0 x1 : D) : F_laws_sameInts [x0, x1] =
  ((lenD false x0).bind fun z => (lenD false x1).bind fun z_1 => (bin BinOp.neq false [] z z_1).bind fun z => ifD z (some (Out.ret [D.v (Value.bool false)] [])) ((lenD false x0).bind fun z => (loopC (fun s =>
 (bin BinOp.lss false [] (sl s 3) (sl s 2)).bind fun z => ifD z ((Option.map D.ptr (elemD 1 (sl s 0) (sl s 3))).bind fun z => ((ldD false 1 z).bind chkV).bind fun z =>
 (Option.map D.ptr (elemD 1 (sl s 1) (sl s 3))).bind fun z_2 => ((ldD false 1 z_2).bind chkV).bind fun z_3 => (bin BinOp.neq false [] z z_3).bind fun z => ifD z (some (Out.ret [D.v (Value.bool false)] []))
 ((bin BinOp.add false [] (sl s 3) (D.v (Value.int IntKind.i64 1))).bind fun z => some (Out.nrm [sl s 0, sl s 1, sl s 2, z]))) (some (Out.ext 0 []))) [x0, x1, z, D.v (Value.int IntKind.i64 0)]).bind fun o =>
 outK o (fun i _u => ifN (i.beq 0) (some (Out.ret [D.v (Value.bool true)] [])) none) fun a b => some (Out.ret a b))) := by kernel_rfl
theorem t_spec_DrawCastsLeft (x0 : D) : F_spec_DrawCastsLeft [x0] =
  ((bldD [(0, 1)] [D.arr 1 [], D.v (Value.int IntKind.i64 0), D.v (Value.int IntKind.u64 0)] [x0]).bind fun z => (boxD 3 z).bind fun y => (liveD y (D.ref 0 0)).bind fun z => (liveD z z).bind fun z_1 =>
 (ref0 z_1 y).bind fun i => (liveD i i).bind fun i => callK (F_spec_l1Cur_anyStrike [i]) fun rs us => (stD 5 (D.agg [D.v (Value.int IntKind.i64 0), D.v (Value.int IntKind.i64 0), D.v (Value.int IntKind.i64 0),
 D.v (Value.int IntKind.i64 0), D.v (Value.int IntKind.i64 0)]) (D.ref 0 0) (sl rs 0)).bind fun b => (fldD true 5 0 b).bind fun z_2 => (liveD z z).bind fun z_3 => (fldD true 5 0 b).bind fun z_4 =>
 (ref0 z_3 (sl us 0)).bind fun i => (liveD i i).bind fun i => callK (F_spec_l1Cur_lower [i, z_4]) fun rs us => (liveD z z).bind fun z_5 => (liveD z z).bind fun z => (mkArr 1
 [D.v (Value.int IntKind.i64 999), D.v (Value.int IntKind.i64 (-1)), D.v (Value.int IntKind.i64 1000)]).bind fun a => (ref0 z (sl us 0)).bind fun i => (liveD i i).bind fun i =>
 callK (F_spec_l1Cur_among [i, a]) fun rs_1 us => (mkArr 1 [D.v (Value.int IntKind.i64 0), D.v (Value.int IntKind.i64 1), D.v (Value.int IntKind.i64 3), D.v (Value.int IntKind.i64 10), sl rs_1 0]).bind fun a =>
 (ref0 z_5 (sl us 0)).bind fun i => (liveD i i).bind fun i => callK (F_spec_l1Cur_among [i, a]) fun rs_2 _u => (stD 5 (D.agg [D.v (Value.int IntKind.i64 0), D.v (Value.int IntKind.i64 0), D.v (Value.int IntKind.i64 0),
 D.v (Value.int IntKind.i64 0), D.v (Value.int IntKind.i64 0)]) (D.ref 0 0) z_2).bind fun b => (stD 5 (D.agg [D.v (Value.int IntKind.i64 0), D.v (Value.int IntKind.i64 0), D.v (Value.int IntKind.i64 0),
 D.v (Value.int IntKind.i64 0), D.v (Value.int IntKind.i64 0)]) (D.ref 0 0) (sl rs 0)).bind fun b_1 => (fldD true 5 0 b).bind fun y => (fldD true 5 0 b_1).bind fun y_1 => some (Out.ret [y, y_1, sl rs_2 0] [])) := by kernel_rfl
theorem t_impl_CastsLeft (x0 x1 x2 : D) : F_impl_CastsLeft [x0, x1, x2] =
  ((boxD 5 x0).bind fun y => (boxD 5 x1).bind fun y_1 => (liveD y_1 (D.ref 0 0)).bind fun z => ((atD y_1 z).bind (takeD false 1)).bind fun z => (bin BinOp.add false [] x2 z).bind fun z =>
 (liveD y (D.ref 0 0)).bind fun z_1 => ((atD y z_1).bind (takeD false 1)).bind fun z_2 => (bin BinOp.sub false [] z z_2).bind fun z => (fldD true 5 0 y).bind fun z_3 => callK (F_impl_IsStrike [z_3]) fun rs _u =>
 (un UnOp.not (sl rs 0)).bind fun z_4 => (gate (D.tup []) z_4 false (fldD true 5 0 y_1)).bind fun z_5 => gateC z_4 false (callK (F_impl_IsStrike [z_5]) fun rs _u => some (Out.nrm [sl rs 0])) [D.tup []] fun outs =>
 (gate (D.tup []) z_4 false (un UnOp.not (sl outs 0))).bind fun z_6 => (pickD z_4 (D.v (Value.bool true)) z_6).bind fun z_7 => (gate (D.tup []) z_7 false (some x2)).bind fun z_8 => gateC z_7 false (callK (F_impl_within
 [z_8, D.v (Value.int IntKind.i64 0), D.v (Value.int IntKind.i64 999)]) fun rs _u => some (Out.nrm [sl rs 0])) [D.tup []] fun outs => (gate (D.tup []) z_7 false (un UnOp.not (sl outs 0))).bind fun z_9 =>
 (pickD z_7 (D.v (Value.bool true)) z_9).bind fun z_10 => (gate (D.tup []) z_10 false (some z)).bind fun z_11 => (gate (D.tup []) z_10 false (bin BinOp.lss false [] z_11 (D.v (Value.int IntKind.i64 0)))).bind fun z_12 =>
 (pickD z_10 (D.v (Value.bool true)) z_12).bind fun z_13 => ifD z_13 (some (Out.ret [D.v (Value.int IntKind.i64 0), D.v (Value.bool false)] [])) ((bin BinOp.mul false [] (D.v (Value.int IntKind.i64 1000)) z).bind fun z =>
 (bin BinOp.add false [] z (D.v (Value.int IntKind.i64 999))).bind fun z => ((minD (D.v (Value.int IntKind.i64 1000000)) z).bind fun z => some z).bind fun z => some (Out.ret [z, D.v (Value.bool true)] []))) := by kernel_rfl
theorem t_spec_l1Least (x0 x1 : D) : F_spec_l1Least [x0, x1] =
  ((bin BinOp.lss false [] x0 x1).bind fun z => ifD z (some (Out.ret [x0] [])) (some (Out.ret [x1] []))) := by kernel_rfl
theorem t_spec_CastsLeft (x0 x1 x2 : D) : F_spec_CastsLeft [x0, x1, x2] =
  ((boxD 5 x0).bind fun y => (boxD 5 x1).bind fun y_1 => (fldD true 5 0 y).bind fun z => callK (F_spec_maGood [z]) fun rs _u => (un UnOp.not (sl rs 0)).bind fun z =>
 (gate (D.tup []) z false (fldD true 5 0 y_1)).bind fun z_1 => gateC z false (callK (F_spec_maGood [z_1]) fun rs _u => some (Out.nrm [sl rs 0])) [D.tup []] fun outs =>
 (gate (D.tup []) z false (un UnOp.not (sl outs 0))).bind fun z_2 => (pickD z (D.v (Value.bool true)) z_2).bind fun z => (gate (D.tup []) z false (some x2)).bind fun z_3 => gateC z false
 (callK (F_spec_l1In [z_3, D.v (Value.int IntKind.i64 0), D.v (Value.int IntKind.i64 999)]) fun rs _u => some (Out.nrm [sl rs 0])) [D.tup []] fun outs => (gate (D.tup []) z false (un UnOp.not (sl outs 0))).bind fun z_4 =>
 (pickD z (D.v (Value.bool true)) z_4).bind fun z => (gate D.bad z false (liveD y (D.ref 0 0))).bind fun z_5 => (gate (D.tup []) z false ((atD y z_5).bind (takeD false 1))).bind fun z_6 =>
 (gate D.bad z false (liveD y_1 (D.ref 0 0))).bind fun z_7 => (gate (D.tup []) z false ((atD y_1 z_7).bind (takeD false 1))).bind fun z_8 => (gate (D.tup []) z false (bin BinOp.sub false [] z_6 z_8)).bind fun z_9 =>
 (gate (D.tup []) z false (some x2)).bind fun z_10 => (gate (D.tup []) z false (bin BinOp.gtr false [] z_9 z_10)).bind fun z_11 => (pickD z (D.v (Value.bool true)) z_11).bind fun z => ifD z (some
 (Out.ret [D.v (Value.int IntKind.i64 0), D.v (Value.bool false)] [])) ((liveD y_1 (D.ref 0 0)).bind fun z => ((atD y_1 z).bind (takeD false 1)).bind fun z => (bin BinOp.add false [] z x2).bind fun z =>
 (liveD y (D.ref 0 0)).bind fun z_12 => ((atD y z_12).bind (takeD false 1)).bind fun z_13 => (bin BinOp.sub false [] z z_13).bind fun z => (bin BinOp.mul false [] (D.v (Value.int IntKind.i64 1000)) z).bind fun z =>
 (bin BinOp.add false [] z (D.v (Value.int IntKind.i64 999))).bind fun z => callK (F_spec_l1Least [D.v (Value.int IntKind.i64 1000000), z]) fun rs _u => some (Out.ret [sl rs 0, D.v (Value.bool true)] []))) := by kernel_rfl
theorem t_impl_DepthAfter (x0 x1 : D) : F_impl_DepthAfter [x0, x1] =
  ((boxD 5 x0).bind fun y => (fldD true 5 0 y).bind fun z => callK (F_impl_IsStrike [z]) fun rs _u => (un UnOp.not (sl rs 0)).bind fun z => (gate (D.tup []) z false (some x1)).bind fun z_1 => gateC z false
 (callK (F_impl_within [z_1, D.v (Value.int IntKind.i64 0), D.v (Value.int IntKind.i64 1000000)]) fun rs _u => some (Out.nrm [sl rs 0])) [D.tup []] fun outs =>
 (gate (D.tup []) z false (un UnOp.not (sl outs 0))).bind fun z_2 => (pickD z (D.v (Value.bool true)) z_2).bind fun z => ifD z (some (Out.ret [D.v (Value.int IntKind.i64 0), D.v (Value.bool false)] []))
 ((liveD y (D.ref 0 0)).bind fun z => ((atD y z).bind (takeD false 1)).bind fun z => (bin BinOp.quo false [] x1 (D.v (Value.int IntKind.i64 1000))).bind fun z_3 =>
 (bin BinOp.add false [] z z_3).bind fun z => some (Out.ret [z, D.v (Value.bool true)] []))) := by kernel_rfl
theorem t_spec_DrawFileStrike (x0 : D) : F_spec_DrawFileStrike [x0] =
  ((bldD [(0, 1)] [D.arr 1 [], D.v (Value.int IntKind.i64 0), D.v (Value.int IntKind.u64 0)] [x0]).bind fun z => (boxD 3 z).bind fun y => (liveD y (D.ref 0 0)).bind fun z => (liveD z z).bind fun z_1 =>
 (ref0 z_1 y).bind fun i => (liveD i i).bind fun i => callK (F_spec_l1Cur_anyStrike [i]) fun rs us => (liveD z z).bind fun z_2 => (ref0 z_2 (sl us 0)).bind fun i => (liveD i i).bind fun i =>
 callK (F_spec_l1Cur_pick [i, D.v (Value.int IntKind.i64 6)]) fun rs_1 us => (liveD z z).bind fun z_3 => (ref0 z_3 (sl us 0)).bind fun i => (liveD i i).bind fun i =>
 callK (F_spec_l1Cur_pick [i, D.v (Value.int IntKind.i64 12)]) fun rs_2 us => (bin BinOp.quo false [] (sl rs_2 0) (D.v (Value.int IntKind.i64 11))).bind fun z_4 => (bin BinOp.sub false [] (sl rs_1 0) z_4).bind fun z_5 =>
 (liveD z z).bind fun z_6 => (liveD z z).bind fun z => (mkArr 1 [D.v (Value.int IntKind.i64 999), D.v (Value.int IntKind.i64 0), D.v (Value.int IntKind.i64 1000)]).bind fun a => (ref0 z (sl us 0)).bind fun i =>
 (liveD i i).bind fun i => callK (F_spec_l1Cur_among [i, a]) fun rs_3 us => (mkArr 1 [D.v (Value.int IntKind.i64 1), D.v (Value.int IntKind.i64 5), D.v (Value.int IntKind.i64 30), D.v (Value.int IntKind.i64 40),
 sl rs_3 0]).bind fun a => (ref0 z_6 (sl us 0)).bind fun i => (liveD i i).bind fun i => callK (F_spec_l1Cur_among [i, a]) fun rs_4 _u => (stD 5 (D.agg [D.v (Value.int IntKind.i64 0), D.v (Value.int IntKind.i64 0),
 D.v (Value.int IntKind.i64 0), D.v (Value.int IntKind.i64 0), D.v (Value.int IntKind.i64 0)]) (D.ref 0 0) (sl rs 0)).bind fun b => (fldD true 5 0 b).bind fun y => some (Out.ret [y, z_5, sl rs_4 0] [])) := by kernel_rfl
theorem t_impl_strikeOf (x0 : D) : F_impl_strikeOf [x0] =
  ((Option.map D.ptr (elemD 1 x0 (D.v (Value.int IntKind.i64 0)))).bind fun z => ((ldD false 1 z).bind chkV).bind fun z => (Option.map D.ptr (elemD 1 x0 (D.v (Value.int IntKind.i64 1)))).bind fun z_1 =>
 ((ldD false 1 z_1).bind chkV).bind fun z_2 => (Option.map D.ptr (elemD 1 x0 (D.v (Value.int IntKind.i64 2)))).bind fun z_3 => ((ldD false 1 z_3).bind chkV).bind fun z_4 =>
 (Option.map D.ptr (elemD 1 x0 (D.v (Value.int IntKind.i64 3)))).bind fun z_5 => ((ldD false 1 z_5).bind chkV).bind fun z_6 => (Option.map D.ptr (elemD 1 x0 (D.v (Value.int IntKind.i64 4)))).bind fun z_7 =>
 ((ldD false 1 z_7).bind chkV).bind fun z_8 => (bldD [(0, 1), (1, 1), (2, 1), (3, 1), (4, 1)] [D.v (Value.int IntKind.i64 0), D.v (Value.int IntKind.i64 0), D.v (Value.int IntKind.i64 0), D.v (Value.int IntKind.i64 0),
 D.v (Value.int IntKind.i64 0)] [z, z_2, z_4, z_6, z_8]).bind fun z => (stD 5 (D.agg [D.v (Value.int IntKind.i64 0), D.v (Value.int IntKind.i64 0), D.v (Value.int IntKind.i64 0), D.v (Value.int IntKind.i64 0),
 D.v (Value.int IntKind.i64 0)]) (D.ref 0 0) z).bind fun b => (fldD true 5 0 b).bind fun y => some (Out.ret [y] [])) := by kernel_rfl
theorem t_impl_FileStrike (x0 x1 x2 : D) : F_impl_FileStrike [x0, x1, x2] =
  ((boxD 5 x0).bind fun y => (fldD true 5 0 y).bind fun z => callK (F_impl_IsStrike [z]) fun rs _u => (un UnOp.not (sl rs 0)).bind fun z => (gate (D.tup []) z false (some x1)).bind fun z_1 => gateC z false
 (callK (F_impl_within [z_1, D.v (Value.int IntKind.i64 0), D.v (Value.int IntKind.i64 4)]) fun rs _u => some (Out.nrm [sl rs 0])) [D.tup []] fun outs => (gate (D.tup []) z false (un UnOp.not (sl outs 0))).bind fun z_2 =>
 (pickD z (D.v (Value.bool true)) z_2).bind fun z => (gate (D.tup []) z false (some x1)).bind fun z_3 => (gate (D.tup []) z false (bin BinOp.eql false [] z_3 (D.v (Value.int IntKind.i64 2)))).bind fun z_4 =>
 (pickD z (D.v (Value.bool true)) z_4).bind fun z => (gate (D.tup []) z false (some x2)).bind fun z_5 => gateC z false (callK (F_impl_within [z_5, D.v (Value.int IntKind.i64 1), D.v (Value.int IntKind.i64 999)])
 fun rs _u => some (Out.nrm [sl rs 0])) [D.tup []] fun outs => (gate (D.tup []) z false (un UnOp.not (sl outs 0))).bind fun z_6 => (pickD z (D.v (Value.bool true)) z_6).bind fun z => ifD z ((bldD []
 [D.v (Value.int IntKind.i64 0), D.v (Value.int IntKind.i64 0), D.v (Value.int IntKind.i64 0), D.v (Value.int IntKind.i64 0), D.v (Value.int IntKind.i64 0)] []).bind fun z => (stD 5 (D.agg
 [D.v (Value.int IntKind.i64 0), D.v (Value.int IntKind.i64 0), D.v (Value.int IntKind.i64 0), D.v (Value.int IntKind.i64 0), D.v (Value.int IntKind.i64 0)]) (D.ref 0 0) z).bind fun b =>
 (fldD true 5 0 b).bind fun y => some (Out.ret [y, D.v (Value.bool false)] [])) ((fldD true 5 0 y).bind fun z => callK (F_impl_Strike_parts [z]) fun rs _u => (liveD (sl rs 0) (D.ref 0 0)).bind fun z =>
 (liveD z (D.ref 0 0)).bind fun z_7 => ((liveD z_7 (sl rs 0)).bind fun b => refI 1 b x1).bind fun z_8 => ((atD (sl rs 0) z_8).bind (takeD false 1)).bind fun z_9 => (bin BinOp.sub false [] z_9 x2).bind fun z_10 =>
 ((liveD z_7 (sl rs 0)).bind fun b => refI 1 b x1).bind fun z_11 => (stD 1 (sl rs 0) z_11 z_10).bind fun b => (liveD z (D.ref 0 0)).bind fun z => (liveD z b).bind fun i => callK (F_impl_strikeOf [i]) fun rs _u => (stD 5
 (D.agg [D.v (Value.int IntKind.i64 0), D.v (Value.int IntKind.i64 0), D.v (Value.int IntKind.i64 0), D.v (Value.int IntKind.i64 0), D.v (Value.int IntKind.i64 0)]) (D.ref 0 0) (sl rs 0)).bind fun b =>
 (fldD true 5 0 b).bind fun z => callK (F_impl_IsStrike [z]) fun rs _u => (un UnOp.not (sl rs 0)).bind fun z => ifD z ((bldD [] [D.v (Value.int IntKind.i64 0), D.v (Value.int IntKind.i64 0), D.v (Value.int IntKind.i64 0),
 D.v (Value.int IntKind.i64 0), D.v (Value.int IntKind.i64 0)] []).bind fun z => (stD 5 (D.agg [D.v (Value.int IntKind.i64 0), D.v (Value.int IntKind.i64 0), D.v (Value.int IntKind.i64 0), D.v (Value.int IntKind.i64 0),
 D.v (Value.int IntKind.i64 0)]) (D.ref 0 0) z).bind fun b => (fldD true 5 0 b).bind fun y => some (Out.ret [y, D.v (Value.bool false)] [])) ((fldD true 5 0 b).bind fun z => (stD 5 (D.agg [D.v (Value.int IntKind.i64 0),
 D.v (Value.int IntKind.i64 0), D.v (Value.int IntKind.i64 0), D.v (Value.int IntKind.i64 0), D.v (Value.int IntKind.i64 0)]) (D.ref 0 0) z).bind fun b => (fldD true 5 0 b).bind fun y =>
 some (Out.ret [y, D.v (Value.bool true)] [])))) := by kernel_rfl
theorem t_spec_FileStrike (x0 x1 x2 : D) : F_spec_FileStrike [x0, x1, x2] =
  ((boxD 5 x0).bind fun y => (fldD true 5 0 y).bind fun z => callK (F_spec_maGood [z]) fun rs _u => (un UnOp.not (sl rs 0)).bind fun z => (gate (D.tup []) z false (some x1)).bind fun z_1 => gateC z false
 (callK (F_spec_l1In [z_1, D.v (Value.int IntKind.i64 0), D.v (Value.int IntKind.i64 4)]) fun rs _u => some (Out.nrm [sl rs 0])) [D.tup []] fun outs => (gate (D.tup []) z false (un UnOp.not (sl outs 0))).bind fun z_2 =>
 (pickD z (D.v (Value.bool true)) z_2).bind fun z => (gate (D.tup []) z false (some x1)).bind fun z_3 => (gate (D.tup []) z false (bin BinOp.eql false [] z_3 (D.v (Value.int IntKind.i64 2)))).bind fun z_4 =>
 (pickD z (D.v (Value.bool true)) z_4).bind fun z => (gate (D.tup []) z false (some x2)).bind fun z_5 => gateC z false (callK (F_spec_l1In [z_5, D.v (Value.int IntKind.i64 1), D.v (Value.int IntKind.i64 999)])
 fun rs _u => some (Out.nrm [sl rs 0])) [D.tup []] fun outs => (gate (D.tup []) z false (un UnOp.not (sl outs 0))).bind fun z_6 => (pickD z (D.v (Value.bool true)) z_6).bind fun z => ifD z ((bldD []
 [D.v (Value.int IntKind.i64 0), D.v (Value.int IntKind.i64 0), D.v (Value.int IntKind.i64 0), D.v (Value.int IntKind.i64 0), D.v (Value.int IntKind.i64 0)] []).bind fun z => (stD 5 (D.agg
 [D.v (Value.int IntKind.i64 0), D.v (Value.int IntKind.i64 0), D.v (Value.int IntKind.i64 0), D.v (Value.int IntKind.i64 0), D.v (Value.int IntKind.i64 0)]) (D.ref 0 0) z).bind fun b =>
 (fldD true 5 0 b).bind fun y => some (Out.ret [y, D.v (Value.bool false)] [])) ((fldD true 5 0 y).bind fun z => callK (F_spec_maParts [z]) fun rs _u => (liveD (sl rs 0) (D.ref 0 0)).bind fun z =>
 (liveD z (D.ref 0 0)).bind fun z_7 => ((liveD z_7 (sl rs 0)).bind fun b => refI 1 b x1).bind fun z_8 => ((atD (sl rs 0) z_8).bind (takeD false 1)).bind fun z_9 => (bin BinOp.sub false [] z_9 x2).bind fun z_10 =>
 ((liveD z_7 (sl rs 0)).bind fun b => refI 1 b x1).bind fun z_11 => (stD 1 (sl rs 0) z_11 z_10).bind fun b => (liveD z (D.ref 0 0)).bind fun z_12 => (liveD z_12 b).bind fun i => callK (F_spec_maOf [i]) fun rs _u =>
 callK (F_spec_maGood [sl rs 0]) fun rs _u => (un UnOp.not (sl rs 0)).bind fun z_13 => ifD z_13 ((bldD [] [D.v (Value.int IntKind.i64 0), D.v (Value.int IntKind.i64 0), D.v (Value.int IntKind.i64 0),
 D.v (Value.int IntKind.i64 0), D.v (Value.int IntKind.i64 0)] []).bind fun z => (stD 5 (D.agg [D.v (Value.int IntKind.i64 0), D.v (Value.int IntKind.i64 0), D.v (Value.int IntKind.i64 0), D.v (Value.int IntKind.i64 0),
 D.v (Value.int IntKind.i64 0)]) (D.ref 0 0) z).bind fun b => (fldD true 5 0 b).bind fun y => some (Out.ret [y, D.v (Value.bool false)] [])) ((liveD z (D.ref 0 0)).bind fun z => (liveD z b).bind fun i =>
 callK (F_spec_maOf [i]) fun rs _u => (stD 5 (D.agg [D.v (Value.int IntKind.i64 0), D.v (Value.int IntKind.i64 0), D.v (Value.int IntKind.i64 0), D.v (Value.int IntKind.i64 0), D.v (Value.int IntKind.i64 0)])
 (D.ref 0 0) (sl rs 0)).bind fun b => (fldD true 5 0 b).bind fun y => some (Out.ret [y, D.v (Value.bool true)] [])))) := by kernel_rfl
theorem t_impl_CentreStrike (x0 : D) : F_impl_CentreStrike [x0] =
  ((boxD 5 x0).bind fun y => (fldD true 5 0 y).bind fun z => callK (F_impl_IsStrike [z]) fun rs _u => (un UnOp.not (sl rs 0)).bind fun z => ifD z ((bldD []
 [D.v (Value.int IntKind.i64 0), D.v (Value.int IntKind.i64 0), D.v (Value.int IntKind.i64 0), D.v (Value.int IntKind.i64 0), D.v (Value.int IntKind.i64 0)] []).bind fun z => (stD 5 (D.agg
 [D.v (Value.int IntKind.i64 0), D.v (Value.int IntKind.i64 0), D.v (Value.int IntKind.i64 0), D.v (Value.int IntKind.i64 0), D.v (Value.int IntKind.i64 0)]) (D.ref 0 0) z).bind
 fun b => (fldD true 5 0 b).bind fun y => some (Out.ret [y, D.v (Value.bool false)] [])) ((liveD y (D.ref 0 1)).bind fun z => ((atD y z).bind (takeD false 1)).bind fun z => (liveD y (D.ref 0 3)).bind fun z_1 =>
 ((atD y z_1).bind (takeD false 1)).bind fun z_2 => ((minD z z_2).bind fun z => some z).bind fun z => (liveD y (D.ref 0 1)).bind fun z_3 => (stD 1 y z_3 z).bind fun b => (liveD b (D.ref 0 3)).bind fun z_4 =>
 (stD 1 b z_4 z).bind fun b => (fldD true 5 0 b).bind fun z => (stD 5 (D.agg [D.v (Value.int IntKind.i64 0), D.v (Value.int IntKind.i64 0), D.v (Value.int IntKind.i64 0), D.v (Value.int IntKind.i64 0),
 D.v (Value.int IntKind.i64 0)]) (D.ref 0 0) z).bind fun b => (fldD true 5 0 b).bind fun y => some (Out.ret [y, D.v (Value.bool true)] []))) := by kernel_rfl
theorem t_spec_CentreStrike (x0 : D) : F_spec_CentreStrike [x0] =
  ((boxD 5 x0).bind fun y => (fldD true 5 0 y).bind fun z => callK (F_spec_maGood [z]) fun rs _u => (un UnOp.not (sl rs 0)).bind fun z => ifD z ((bldD []
 [D.v (Value.int IntKind.i64 0), D.v (Value.int IntKind.i64 0), D.v (Value.int IntKind.i64 0), D.v (Value.int IntKind.i64 0), D.v (Value.int IntKind.i64 0)] []).bind fun z => (stD 5 (D.agg
 [D.v (Value.int IntKind.i64 0), D.v (Value.int IntKind.i64 0), D.v (Value.int IntKind.i64 0), D.v (Value.int IntKind.i64 0), D.v (Value.int IntKind.i64 0)]) (D.ref 0 0) z).bind
 fun b => (fldD true 5 0 b).bind fun y => some (Out.ret [y, D.v (Value.bool false)] [])) ((liveD y (D.ref 0 1)).bind fun z => ((atD y z).bind (takeD false 1)).bind fun z => (liveD y (D.ref 0 3)).bind fun z_1 =>
 ((atD y z_1).bind (takeD false 1)).bind fun z_2 => callK (F_spec_l1Least [z, z_2]) fun rs _u => (liveD y (D.ref 0 1)).bind fun z => (stD 1 y z (sl rs 0)).bind fun b => (liveD b (D.ref 0 3)).bind fun z =>
 (stD 1 b z (sl rs 0)).bind fun b => (fldD true 5 0 b).bind fun z => (stD 5 (D.agg [D.v (Value.int IntKind.i64 0), D.v (Value.int IntKind.i64 0), D.v (Value.int IntKind.i64 0), D.v (Value.int IntKind.i64 0),
 D.v (Value.int IntKind.i64 0)]) (D.ref 0 0) z).bind fun b => (fldD true 5 0 b).bind fun y => some (Out.ret [y, D.v (Value.bool true)] []))) := by kernel_rfl
theorem t_impl_join (x0 x1 : D) : F_impl_join [x0, x1] =
  ((mkArr 1 []).bind fun a => (lenD false x0).bind fun z => (loopC (fun s => (bin BinOp.lss false [] (sl s 4) (sl s 3)).bind fun z => ifD z ((Option.map D.ptr (elemD 1 (sl s 2) (sl s 4))).bind fun z =>
 ((ldD false 1 z).bind chkV).bind fun z => callK (fItoa [z]) fun rs _u => (mkArr 1 [sl rs 0]).bind fun a => (chkA a).bind fun b => (appD 1 16 (sl s 1) b).bind fun y =>
 (bin BinOp.add false [] (sl s 4) (D.v (Value.int IntKind.i64 1))).bind fun z => some (Out.nrm [sl s 0, y, sl s 2, sl s 3, z])) (some (Out.ext 0 [sl s 0, sl s 1]))) [x1, a, x0, z, D.v (Value.int IntKind.i64 0)]).bind
 fun o => outK o (fun i s => ifN (i.beq 0) ((liveD (sl s 1) (D.ref 0 0)).bind fun z => (liveD z (sl s 1)).bind fun i => callK (fJoin [i, sl s 0]) fun rs _u => some (Out.ret [sl rs 0] [])) none)
 fun a b => some (Out.ret a b)) := by kernel_rfl
theorem t_impl_StrikeText (x0 : D) : F_impl_StrikeText [x0] =
  ((boxD 5 x0).bind fun y => (fldD true 5 0 y).bind fun z => callK (F_impl_IsStrike [z]) fun rs _u => (un UnOp.not (sl rs 0)).bind fun z =>
 ifD z (some (Out.ret [D.v (Value.string { data := { toList := [] } }), D.v (Value.bool false)] [])) ((fldD true 5 0 y).bind fun z => callK (F_impl_Strike_parts [z]) fun rs _u =>
 callK (F_impl_join [sl rs 0, D.v (Value.string { data := { toList := [47] } })]) fun rs _u => some (Out.ret [sl rs 0, D.v (Value.bool true)] []))) := by kernel_rfl
theorem t_spec_l1Num (n : Nat) (x0 : D) : R_spec_l1Num (n + 1) [x0] =
  ((bin BinOp.lss false [] x0 (D.v (Value.int IntKind.i64 10))).bind fun z => ifD z ((bin BinOp.add false [] (D.v (Value.int IntKind.i64 48)) x0).bind fun z => (convD (some IntKind.u8) false z).bind fun z =>
 (mkArr 1 [z]).bind fun a => (strD a).bind fun z => some (Out.ret [z] [])) ((bin BinOp.quo false [] x0 (D.v (Value.int IntKind.i64 10))).bind fun z => callK (R_spec_l1Num n [z]) fun rs _u =>
 (bin BinOp.rem false [] x0 (D.v (Value.int IntKind.i64 10))).bind fun z => (bin BinOp.add false [] (D.v (Value.int IntKind.i64 48)) z).bind fun z => (convD (some IntKind.u8) false z).bind fun z =>
 (mkArr 1 [z]).bind fun a => (strD a).bind fun z => (bin BinOp.add false [] (sl rs 0) z).bind fun z => some (Out.ret [z] []))) := by kernel_rfl
theorem t_spec_maText (x0 : D) : F_spec_maText [x0] =
  ((boxD 5 x0).bind fun y => (fldD true 5 0 y).bind fun z => callK (F_spec_maParts [z]) fun rs _u => (lenD false (sl rs 0)).bind fun z => (loopC (fun s => (bin BinOp.lss false [] (sl s 3) (sl s 2)).bind fun z => ifD z
 ((Option.map D.ptr (elemD 1 (sl s 1) (sl s 3))).bind fun z => ((ldD false 1 z).bind chkV).bind fun z => (bin BinOp.gtr false [] (sl s 3) (D.v (Value.int IntKind.i64 0))).bind fun z_1 => ifD z_1
 ((bin BinOp.add false [] (sl s 0) (D.v (Value.string { data := { toList := [47] } }))).bind fun z_2 => callK (F_spec_l1Num [z]) fun rs _u => (bin BinOp.add false [] z_2 (sl rs 0)).bind fun z =>
 (bin BinOp.add false [] (sl s 3) (D.v (Value.int IntKind.i64 1))).bind fun z_3 => some (Out.nrm [z, sl s 1, sl s 2, z_3])) (callK (F_spec_l1Num [z]) fun rs _u => (bin BinOp.add false [] (sl s 0) (sl rs 0)).bind fun z =>
 (bin BinOp.add false [] (sl s 3) (D.v (Value.int IntKind.i64 1))).bind fun z_2 => some (Out.nrm [z, sl s 1, sl s 2, z_2]))) (some (Out.ext 0 [sl s 0])))
 [D.v (Value.string { data := { toList := [] } }), sl rs 0, z, D.v (Value.int IntKind.i64 0)]).bind fun o => outK o (fun i s => ifN (i.beq 0) (some (Out.ret [sl s 0] [])) none) fun a b => some (Out.ret a b)) := by kernel_rfl
theorem t_spec_StrikeText (x0 : D) : F_spec_StrikeText [x0] =
  ((boxD 5 x0).bind fun y => (fldD true 5 0 y).bind fun z => callK (F_spec_maGood [z]) fun rs _u => (un UnOp.not (sl rs 0)).bind fun z =>
 ifD z (some (Out.ret [D.v (Value.string { data := { toList := [] } }), D.v (Value.bool false)] [])) ((fldD true 5 0 y).bind fun z =>
 callK (F_spec_maText [z]) fun rs _u => some (Out.ret [sl rs 0, D.v (Value.bool true)] []))) := by kernel_rfl
theorem t_spec_l1Cur_spoilt (x0 x1 x2 : D) : F_spec_l1Cur_spoilt [x0, x1, x2] =
  ((liveD x0 (D.ref 0 0)).bind fun z => (ref0 z x0).bind fun i => (liveD i i).bind fun i => callK (F_spec_l1Cur_pick [i, D.v (Value.int IntKind.i64 2)]) fun rs us =>
 (bin BinOp.add false [] (D.v (Value.int IntKind.i64 1)) (sl rs 0)).bind fun z => (loopC (fun s => (bin BinOp.gtr false [] (sl s 3) (D.v (Value.int IntKind.i64 0))).bind fun z =>
 (gate (D.tup []) z true (some (sl s 1))).bind fun z_1 => (gate (D.tup []) z true (lenD true z_1)).bind fun z_2 => (gate (D.tup []) z true (bin BinOp.gtr false [] z_2 (D.v (Value.int IntKind.i64 0)))).bind fun z_3 =>
 (pickD z z_3 (D.v (Value.bool false))).bind fun z => ifD z ((liveD (sl s 0) (D.ref 0 0)).bind fun z => (lenD true (sl s 1)).bind fun z_4 => (ref0 z (sl s 0)).bind fun i => (liveD i i).bind fun i =>
 callK (F_spec_l1Cur_pick [i, z_4]) fun rs us => (liveD (sl us 0) (D.ref 0 0)).bind fun z => (lenD true (sl s 2)).bind fun z_5 => (ref0 z (sl us 0)).bind fun i => (liveD i i).bind fun i =>
 callK (F_spec_l1Cur_pick [i, z_5]) fun rs_1 us => (charD (sl s 2) (sl rs_1 0)).bind fun z => (mkArr 1 [z]).bind fun a => (strD a).bind fun z => (liveD (sl us 0) (D.ref 0 0)).bind fun z_6 =>
 (ref0 z_6 (sl us 0)).bind fun i => (liveD i i).bind fun i => callK (F_spec_l1Cur_pick [i, D.v (Value.int IntKind.i64 3)]) fun rs_2 us => (bin BinOp.eql false [] (sl rs_2 0) (D.v (Value.int IntKind.i64 0))).bind fun z_7 =>
 ifD z_7 ((sliceD true 0 (sl s 1) (D.v (Value.int IntKind.i64 0)) (sl rs 0)).bind fun z_8 => (bin BinOp.add false [] z_8 z).bind fun z => (sliceHi true 0 (sl s 1) (sl rs 0)).bind fun z_9 =>
 (bin BinOp.add false [] z z_9).bind fun z => (bin BinOp.sub false [] (sl s 3) (D.v (Value.int IntKind.i64 1))).bind fun z_10 => some (Out.nrm [sl us 0, z, sl s 2, z_10])) ((bin BinOp.eql false [] (sl rs_2 0)
 (D.v (Value.int IntKind.i64 1))).bind fun z_8 => ifD z_8 ((sliceD true 0 (sl s 1) (D.v (Value.int IntKind.i64 0)) (sl rs 0)).bind fun z_9 => (bin BinOp.add false [] z_9 z).bind fun z => (bin BinOp.add false [] (sl rs 0)
 (D.v (Value.int IntKind.i64 1))).bind fun z_10 => (sliceHi true 0 (sl s 1) z_10).bind fun z_11 => (bin BinOp.add false [] z z_11).bind fun z => (bin BinOp.sub false [] (sl s 3) (D.v (Value.int IntKind.i64 1))).bind
 fun z_12 => some (Out.nrm [sl us 0, z, sl s 2, z_12])) ((sliceD true 0 (sl s 1) (D.v (Value.int IntKind.i64 0)) (sl rs 0)).bind fun z => (bin BinOp.add false [] (sl rs 0) (D.v (Value.int IntKind.i64 1))).bind fun z_9 =>
 (sliceHi true 0 (sl s 1) z_9).bind fun z_10 => (bin BinOp.add false [] z z_10).bind fun z => (bin BinOp.sub false [] (sl s 3) (D.v (Value.int IntKind.i64 1))).bind fun z_11 => some (Out.nrm [sl us 0, z, sl s 2, z_11]))))
 (some (Out.ext 0 [sl s 0, sl s 1]))) [sl us 0, x1, x2, z]).bind fun o => outK o (fun i s => ifN (i.beq 0) ((liveD (sl s 0) (sl s 0)).bind fun _u => some (Out.ret [sl s 1] [sl s 0])) none) fun a b => some (Out.ret a b)) := by kernel_rfl
theorem t_spec_l1Cur_of (x0 x1 : D) : F_spec_l1Cur_of [x0, x1] =
  ((liveD x0 (D.ref 0 0)).bind fun z => (lenD false x1).bind fun z_1 => (ref0 z x0).bind fun i => (liveD i i).bind fun i => callK (F_spec_l1Cur_pick [i, z_1]) fun rs us =>
 (Option.map D.ptr (elemD 1 x1 (sl rs 0))).bind fun z => ((ldD false 1 z).bind chkV).bind fun z => (liveD (sl us 0) (sl us 0)).bind fun _u => some (Out.ret [z] [sl us 0])) := by kernel_rfl
theorem t_spec_DrawParseStrike (x0 : D) : F_spec_DrawParseStrike [x0] =
  ((bldD [(0, 1)] [D.arr 1 [], D.v (Value.int IntKind.i64 0), D.v (Value.int IntKind.u64 0)] [x0]).bind fun z => (boxD 3 z).bind fun y => (liveD y (D.ref 0 0)).bind fun z => (liveD z z).bind fun z_1 =>
 (ref0 z_1 y).bind fun i => (liveD i i).bind fun i => callK (F_spec_l1Cur_strike [i]) fun rs us => callK (F_spec_maText [sl rs 0]) fun rs _u => (liveD z z).bind fun z_2 => (ref0 z_2 (sl us 0)).bind fun i =>
 (liveD i i).bind fun i => callK (F_spec_l1Cur_pick [i, D.v (Value.int IntKind.i64 5)]) fun rs_1 us => (bin BinOp.eql false [] (sl rs_1 0) (D.v (Value.int IntKind.i64 0))).bind fun z_3 => ifD z_3 ((liveD z z).bind fun z =>
 (ref0 z (sl us 0)).bind fun i => (liveD i i).bind fun i => callK (F_spec_l1Cur_spoilt [i, sl rs 0, D.v (Value.string { data := { toList := [47, 45, 48, 49, 57] } })]) fun rs _u => some (Out.ret [sl rs 0] []))
 ((bin BinOp.eql false [] (sl rs_1 0) (D.v (Value.int IntKind.i64 1))).bind fun z_4 => ifD z_4 ((liveD z z).bind fun z => (mkArr 1 [D.v (Value.string { data := { toList := [] } }), D.v (Value.string
 { data := { toList := [49, 47, 49, 47, 49, 47, 49, 47, 49] } }), D.v (Value.string { data := { toList := [48, 47, 49, 47, 49, 47, 49, 47, 49] } }),
 D.v (Value.string { data := { toList := [49, 47, 49, 47, 49, 47, 49] } }), D.v (Value.string { data := { toList := [57, 57, 57, 47, 57, 57, 57, 47, 57, 57, 57, 47, 57, 57, 57, 47, 57, 57, 57] } }), D.v (Value.string {
 data := { toList := [49, 48, 48, 48, 47, 49, 47, 49, 47, 49, 47, 49] } }), D.v (Value.string { data := { toList := [48, 49, 47, 49, 47, 49, 47, 49, 47, 49] } })]).bind fun a => (ref0 z (sl us 0)).bind fun i =>
 (liveD i i).bind fun i => callK (F_spec_l1Cur_of [i, a]) fun rs _u => some (Out.ret [sl rs 0] [])) (some (Out.ret [sl rs 0] [])))) := by kernel_rfl
theorem t_impl_numbersIn (x0 : D) : F_impl_numbersIn [x0] =
  ((mkArr 1 []).bind fun a => callK (fFieldsFunc 157 isSep [x0, D.clo 157 []]) fun rs _u => (lenD false (sl rs 0)).bind fun z => (loopC (fun s => (bin BinOp.lss false [] (sl s 3) (sl s 2)).bind fun z => ifD z
 ((Option.map D.ptr (elemD 1 (sl s 1) (sl s 3))).bind fun z => ((ldD false 1 z).bind chkV).bind fun z => callK (fAtoi [z]) fun rs _u => (tupAt (D.tup rs) 0).bind fun z => (tupAt (D.tup rs) 1).bind fun z_1 =>
 (binI true BinOp.neq z_1 (D.v Value.nilIface)).bind fun z_2 => ifD z_2 ((mkArr 1 []).bind fun a => some (Out.ret [a] [])) ((mkArr 1 [z]).bind fun a => (chkA a).bind fun b => (appD 1 8 (sl s 0) b).bind fun y =>
 (bin BinOp.add false [] (sl s 3) (D.v (Value.int IntKind.i64 1))).bind fun z => some (Out.nrm [y, sl s 1, sl s 2, z]))) (some (Out.ext 0 [sl s 0]))) [a, sl rs 0, z, D.v (Value.int IntKind.i64 0)]).bind
 fun o => outK o (fun i s => ifN (i.beq 0) (some (Out.ret [sl s 0] [])) none) fun a b => some (Out.ret a b)) := by kernel_rfl
theorem t_impl_ParseStrike (x0 : D) : F_impl_ParseStrike [x0] =
  (callK (F_impl_numbersIn [x0]) fun rs _u => (lenD false (sl rs 0)).bind fun z => (bin BinOp.neq false [] z (D.v (Value.int IntKind.i64 5))).bind fun z => (gate (D.tup []) z false (some (sl rs 0))).bind fun z_1 =>
 gateC z false (callK (F_impl_join [z_1, D.v (Value.string { data := { toList := [47] } })]) fun rs _u => some (Out.nrm [sl rs 0])) [D.tup []] fun outs => (gate (D.tup []) z false (some x0)).bind fun z_2 =>
 (gate (D.tup []) z false (bin BinOp.neq false [] (sl outs 0) z_2)).bind fun z_3 => (pickD z (D.v (Value.bool true)) z_3).bind fun z => (gate (D.tup []) z false (some (sl rs 0))).bind fun z_4 =>
 gateC z false (callK (F_impl_strikeOf [z_4]) fun rs _u => some (Out.nrm [sl rs 0])) [D.tup []] fun outs => gateC z false (callK (F_impl_IsStrike [sl outs 0]) fun rs _u => some (Out.nrm [sl rs 0])) [D.tup []] fun outs =>
 (gate (D.tup []) z false (un UnOp.not (sl outs 0))).bind fun z_5 => (pickD z (D.v (Value.bool true)) z_5).bind fun z => ifD z ((bldD [] [D.v (Value.int IntKind.i64 0), D.v (Value.int IntKind.i64 0),
 D.v (Value.int IntKind.i64 0), D.v (Value.int IntKind.i64 0), D.v (Value.int IntKind.i64 0)] []).bind fun z => (stD 5 (D.agg [D.v (Value.int IntKind.i64 0), D.v (Value.int IntKind.i64 0),
 D.v (Value.int IntKind.i64 0), D.v (Value.int IntKind.i64 0), D.v (Value.int IntKind.i64 0)]) (D.ref 0 0) z).bind fun b => (fldD true 5 0 b).bind fun y => some (Out.ret [y, D.v (Value.bool false)] []))
 (callK (F_impl_strikeOf [sl rs 0]) fun rs _u => (stD 5 (D.agg [D.v (Value.int IntKind.i64 0), D.v (Value.int IntKind.i64 0), D.v (Value.int IntKind.i64 0), D.v (Value.int IntKind.i64 0), D.v (Value.int IntKind.i64 0)])
 (D.ref 0 0) (sl rs 0)).bind fun b => (fldD true 5 0 b).bind fun y => some (Out.ret [y, D.v (Value.bool true)] []))) := by kernel_rfl
theorem t_spec_l1Split (x0 x1 : D) : F_spec_l1Split [x0, x1] =
  ((loopC (fun s => (lenD true (sl s 0)).bind fun z => (bin BinOp.lss false [] (sl s 4) z).bind fun z => ifD z ((charD (sl s 0) (sl s 4)).bind fun z => (bin BinOp.eql false [] z (sl s 1)).bind fun z => ifD z
 ((sliceD true 0 (sl s 0) (sl s 3) (sl s 4)).bind fun z => (mkArr 1 [z]).bind fun a => (chkA a).bind fun b => (appD 1 16 (sl s 2) b).bind fun y =>
 (bin BinOp.add false [] (sl s 4) (D.v (Value.int IntKind.i64 1))).bind fun z => (bin BinOp.add false [] (sl s 4) (D.v (Value.int IntKind.i64 1))).bind fun z_1 => some (Out.nrm [sl s 0, sl s 1, y, z, z_1]))
 ((bin BinOp.add false [] (sl s 4) (D.v (Value.int IntKind.i64 1))).bind fun z => some (Out.nrm [sl s 0, sl s 1, sl s 2, sl s 3, z]))) (some (Out.ext 0 [sl s 0, sl s 2, sl s 3])))
 [x0, x1, D.arr 1 [], D.v (Value.int IntKind.i64 0), D.v (Value.int IntKind.i64 0)]).bind fun o => outK o (fun i s => ifN (i.beq 0) ((sliceHi true 0 (sl s 0) (sl s 2)).bind fun z => (mkArr 1 [z]).bind fun a =>
 (chkA a).bind fun b => (appD 1 16 (sl s 1) b).bind fun y => some (Out.ret [y] [])) none) fun a b => some (Out.ret a b)) := by kernel_rfl
theorem t_spec_l1Read (x0 : D) : F_spec_l1Read [x0] =
  ((lenD true x0).bind fun z => callK (F_spec_l1In [z, D.v (Value.int IntKind.i64 1), D.v (Value.int IntKind.i64 6)]) fun rs _u => (un UnOp.not (sl rs 0)).bind fun z => (gate (D.tup []) z false (some x0)).bind fun z_1 =>
 (gate (D.tup []) z false (charD z_1 (D.v (Value.int IntKind.i64 0)))).bind fun z_2 => (gate (D.tup []) z false (bin BinOp.eql false [] z_2 (D.v (Value.int IntKind.u8 48)))).bind fun z_3 =>
 (gate (D.tup []) z false (some z_3)).bind fun z_4 => (gate (D.tup []) z_4 true (some x0)).bind fun z_5 => (gate (D.tup []) z_4 true (lenD true z_5)).bind fun z_6 =>
 (gate (D.tup []) z_4 true (bin BinOp.gtr false [] z_6 (D.v (Value.int IntKind.i64 1)))).bind fun z_7 => (gate (D.tup []) z false (pickD z_4 z_7 (D.v (Value.bool false)))).bind fun z_8 =>
 (pickD z (D.v (Value.bool true)) z_8).bind fun z => ifD z (some (Out.ret [D.v (Value.int IntKind.i64 (-1))] [])) ((loopC (fun s => (lenD true (sl s 0)).bind fun z => (bin BinOp.lss false [] (sl s 2) z).bind fun z => ifD z
 ((charD (sl s 0) (sl s 2)).bind fun z => (bin BinOp.lss false [] z (D.v (Value.int IntKind.u8 48))).bind fun z => (gate (D.tup []) z false (some (sl s 0))).bind fun z_9 =>
 (gate (D.tup []) z false (some (sl s 2))).bind fun z_10 => (gate (D.tup []) z false (charD z_9 z_10)).bind fun z_11 => (gate (D.tup []) z false (bin BinOp.gtr false [] z_11 (D.v (Value.int IntKind.u8 57)))).bind
 fun z_12 => (pickD z (D.v (Value.bool true)) z_12).bind fun z => ifD z (some (Out.ret [D.v (Value.int IntKind.i64 (-1))] [])) ((bin BinOp.mul false [] (D.v (Value.int IntKind.i64 10)) (sl s 1)).bind fun z =>
 (charD (sl s 0) (sl s 2)).bind fun z_13 => (bin BinOp.sub false [] z_13 (D.v (Value.int IntKind.u8 48))).bind fun z_14 => (convD (some IntKind.i64) false z_14).bind fun z_15 =>
 (bin BinOp.add false [] z z_15).bind fun z => (bin BinOp.add false [] (sl s 2) (D.v (Value.int IntKind.i64 1))).bind fun z_16 => some (Out.nrm [sl s 0, z, z_16]))) (some (Out.ext 0 [sl s 1])))
 [x0, D.v (Value.int IntKind.i64 0), D.v (Value.int IntKind.i64 0)]).bind fun o => outK o (fun i s => ifN (i.beq 0) (some (Out.ret [sl s 0] [])) none) fun a b => some (Out.ret a b))) := by kernel_rfl
theorem t_spec_ParseStrike (x0 : D) : F_spec_ParseStrike [x0] =
  (callK (F_spec_l1Split [x0, D.v (Value.int IntKind.u8 47)]) fun rs _u => (lenD false (sl rs 0)).bind fun z => (bin BinOp.neq false [] z (D.v (Value.int IntKind.i64 5))).bind fun z => ifD z ((bldD []
 [D.v (Value.int IntKind.i64 0), D.v (Value.int IntKind.i64 0), D.v (Value.int IntKind.i64 0), D.v (Value.int IntKind.i64 0), D.v (Value.int IntKind.i64 0)] []).bind fun z => (stD 5 (D.agg
 [D.v (Value.int IntKind.i64 0), D.v (Value.int IntKind.i64 0), D.v (Value.int IntKind.i64 0), D.v (Value.int IntKind.i64 0), D.v (Value.int IntKind.i64 0)]) (D.ref 0 0) z).bind
 fun b => (fldD true 5 0 b).bind fun y => some (Out.ret [y, D.v (Value.bool false)] [])) ((lenD false (sl rs 0)).bind fun z => (loopC (fun s => (bin BinOp.lss false [] (sl s 4) (sl s 3)).bind fun z => ifD z
 ((Option.map D.ptr (elemD 1 (sl s 2) (sl s 4))).bind fun z => ((ldD false 1 z).bind chkV).bind fun z => callK (F_spec_l1Read [z]) fun rs _u => (mkArr 1 [sl rs 0]).bind fun a => (chkA a).bind fun b =>
 (appD 1 8 (sl s 1) b).bind fun y => (bin BinOp.add false [] (sl s 4) (D.v (Value.int IntKind.i64 1))).bind fun z => some (Out.nrm [sl s 0, y, sl s 2, sl s 3, z])) (some (Out.ext 0 [sl s 0, sl s 1]))) [D.agg
 [D.v (Value.int IntKind.i64 0), D.v (Value.int IntKind.i64 0), D.v (Value.int IntKind.i64 0), D.v (Value.int IntKind.i64 0), D.v (Value.int IntKind.i64 0)], D.arr 1 [], sl rs 0, z, D.v (Value.int IntKind.i64 0)]).bind
 fun o => outK o (fun i s => ifN (i.beq 0) ((liveD (sl s 1) (D.ref 0 0)).bind fun z => (liveD z (sl s 1)).bind fun i => callK (F_spec_maOf [i]) fun rs _u => callK (F_spec_maGood [sl rs 0]) fun rs _u =>
 (un UnOp.not (sl rs 0)).bind fun z => ifD z ((bldD [] [D.v (Value.int IntKind.i64 0), D.v (Value.int IntKind.i64 0), D.v (Value.int IntKind.i64 0), D.v (Value.int IntKind.i64 0), D.v (Value.int IntKind.i64 0)] []).bind
 fun z => (stD 5 (sl s 0) (D.ref 0 0) z).bind fun b => (fldD true 5 0 b).bind fun y => some (Out.ret [y, D.v (Value.bool false)] [])) ((liveD (sl s 1) (D.ref 0 0)).bind fun z => (liveD z (sl s 1)).bind fun i =>
 callK (F_spec_maOf [i]) fun rs _u => (stD 5 (sl s 0) (D.ref 0 0) (sl rs 0)).bind fun b => (fldD true 5 0 b).bind fun y => some (Out.ret [y, D.v (Value.bool true)] []))) none) fun a b => some (Out.ret a b))) := by kernel_rfl
theorem t_impl_WidthOfStrike (x0 : D) : F_impl_WidthOfStrike [x0] =
  ((boxD 5 x0).bind fun y => (fldD true 5 0 y).bind fun z => callK (F_impl_IsStrike [z]) fun rs _u => (un UnOp.not (sl rs 0)).bind fun z => ifD z (some (Out.ret [D.v (Value.int IntKind.i64 0), D.v (Value.bool false)] []))
 ((liveD y (D.ref 0 1)).bind fun z => ((atD y z).bind (takeD false 1)).bind fun z => (liveD y (D.ref 0 2)).bind fun z_1 => ((atD y z_1).bind (takeD false 1)).bind fun z_2 => (bin BinOp.add false [] z z_2).bind fun z =>
 (liveD y (D.ref 0 3)).bind fun z_3 => ((atD y z_3).bind (takeD false 1)).bind fun z_4 => (bin BinOp.add false [] z z_4).bind fun z => some (Out.ret [z, D.v (Value.bool true)] []))) := by kernel_rfl
theorem t_laws_FnStrikes (x0 x1 : D) : F_laws_FnStrikes [x0, x1] =
  (callK (F_laws_big [x0, x1]) fun rs _u => ifD (sl rs 0) (some (Out.ret [D.v (Value.bool true)] [])) (callK (F_spec_DrawFilingsFor [x0]) fun rs _u => (tupAt (D.tup rs) 0).bind fun z => (tupAt (D.tup rs) 1).bind fun z_1 =>
 (stD 5 (D.agg [D.v (Value.int IntKind.i64 0), D.v (Value.int IntKind.i64 0), D.v (Value.int IntKind.i64 0), D.v (Value.int IntKind.i64 0), D.v (Value.int IntKind.i64 0)]) (D.ref 0 0) z).bind fun b => (stD 5 (D.agg
 [D.v (Value.int IntKind.i64 0), D.v (Value.int IntKind.i64 0), D.v (Value.int IntKind.i64 0), D.v (Value.int IntKind.i64 0), D.v (Value.int IntKind.i64 0)]) (D.ref 0 0) z_1).bind fun b_1 => (fldD true 5 0 b).bind fun z =>
 (fldD true 5 0 b_1).bind fun z_2 => callK (F_impl_FilingsFor [z, z_2]) fun rs _u => (tupAt (D.tup rs) 0).bind fun y => (tupAt (tupCut (D.tup rs) 0) 1).bind fun z => (fldD true 5 0 b).bind fun z_3 =>
 (fldD true 5 0 b_1).bind fun z_4 => callK (F_spec_FilingsFor [z_3, z_4]) fun rs _u => (tupAt (D.tup rs) 0).bind fun y_1 => (tupAt (tupCut (D.tup rs) 0) 1).bind fun z_5 => (fldD true 5 0 b).bind fun z_6 =>
 (fldD true 5 0 b_1).bind fun z_7 => callK (F_impl_CanBeJustified [z_6, z_7]) fun rs _u => (tupAt (D.tup rs) 0).bind fun z_8 => (tupAt (D.tup rs) 1).bind fun z_9 => (fldD true 5 0 b).bind fun z_10 =>
 (fldD true 5 0 b_1).bind fun z_11 => callK (F_spec_CanBeJustified [z_10, z_11]) fun rs _u => (tupAt (D.tup rs) 0).bind fun z_12 => (tupAt (D.tup rs) 1).bind fun z_13 => (bin BinOp.neq true [] z z_5).bind fun z_14 =>
 (gate (D.tup []) z_14 false (some y)).bind fun z_15 => (gate (D.tup []) z_14 false (some y_1)).bind fun z_16 => gateC z_14 false (callK (F_laws_sameInts [z_15, z_16]) fun rs _u => some (Out.nrm [sl rs 0]))
 [D.tup []] fun outs => (gate (D.tup []) z_14 false (un UnOp.not (sl outs 0))).bind fun z_17 => (pickD z_14 (D.v (Value.bool true)) z_17).bind fun z_18 => (gate (D.tup []) z_18 false (some z_9)).bind fun z_19 =>
 (gate (D.tup []) z_18 false (some z_13)).bind fun z_20 => (gate (D.tup []) z_18 false (bin BinOp.neq true [] z_19 z_20)).bind fun z_21 => (pickD z_18 (D.v (Value.bool true)) z_21).bind fun z_22 =>
 (gate (D.tup []) z_22 false (some z_8)).bind fun z_23 => (gate (D.tup []) z_22 false (some z_12)).bind fun z_24 => (gate (D.tup []) z_22 false (bin BinOp.neq true [] z_23 z_24)).bind fun z_25 =>
 (pickD z_22 (D.v (Value.bool true)) z_25).bind fun z_26 => (gate (D.tup []) z_26 false (some z)).bind fun z_27 => (gate (D.tup []) z_26 false (some z_9)).bind fun z_28 => (gate (D.tup []) z_26 false (some z_28)).bind
 fun z_29 => (gate (D.tup []) z_29 true (some z_12)).bind fun z_30 => (gate (D.tup []) z_26 false (pickD z_29 z_30 (D.v (Value.bool false)))).bind fun z_31 => (gate (D.tup []) z_26 false (bin BinOp.neq true [] z_27
 z_31)).bind fun z_32 => (pickD z_26 (D.v (Value.bool true)) z_32).bind fun z_33 => (gate (D.tup []) z_33 false (some z_9)).bind fun z_34 => (gate (D.tup []) z_33 false (fldD true 5 0 b)).bind fun z_35 => gateC z_33 false
 (callK (F_impl_IsStrike [z_35]) fun rs _u => some (Out.nrm [sl rs 0])) [D.tup []] fun outs => (gate (D.tup []) z_33 false (some (sl outs 0))).bind fun z_36 => (gate (D.tup []) z_36 true (fldD true 5 0 b_1)).bind
 fun z_37 => gateC z_36 true (callK (F_impl_IsStrike [z_37]) fun rs _u => some (Out.nrm [sl rs 0])) [D.tup []] fun outs => (gate (D.tup []) z_33 false (pickD z_36 (sl outs 0) (D.v (Value.bool false)))).bind fun z_38 =>
 (gate (D.tup []) z_33 false (bin BinOp.neq true [] z_34 z_38)).bind fun z_39 => (pickD z_33 (D.v (Value.bool true)) z_39).bind fun z_40 => ifD z_40 (some (Out.ret [D.v (Value.bool false)] [])) ((gate (D.tup []) z true
 (some y)).bind fun z_41 => (gate (D.tup []) z true (lenD false z_41)).bind fun z_42 => (gate (D.tup []) z true (bin BinOp.neq false [] z_42 (D.v (Value.int IntKind.i64 5)))).bind fun z_43 => (gate (D.tup []) z true (some
 z_43)).bind fun z_44 => (gate D.bad z_44 false (liveD b (D.ref 0 0))).bind fun z_45 => (gate (D.tup []) z_44 false ((atD b z_45).bind (takeD false 1))).bind fun z_46 => (gate (D.tup []) z_44 false (some y_1)).bind fun
 z_47 => (gate (D.tup []) z_44 false (Option.map D.ptr (elemD 1 z_47 (D.v (Value.int IntKind.i64 0))))).bind fun z_48 => (gate (D.tup []) z_44 false ((ldD false 1 z_48).bind chkV)).bind fun z_49 => (gate (D.tup []) z_44
 false (bin BinOp.sub false [] z_46 z_49)).bind fun z_50 => (gate D.bad z_44 false (liveD b_1 (D.ref 0 0))).bind fun z_51 => (gate (D.tup []) z_44 false ((atD b_1 z_51).bind (takeD false 1))).bind fun z_52 => (gate (D.tup
 []) z_44 false (bin BinOp.neq false [] z_50 z_52)).bind fun z_53 => (gate (D.tup []) z true (pickD z_44 (D.v (Value.bool true)) z_53)).bind fun z_54 => (gate (D.tup []) z true (some z_54)).bind fun z_55 => (gate D.bad
 z_55 false (liveD b (D.ref 0 1))).bind fun z_56 => (gate (D.tup []) z_55 false ((atD b z_56).bind (takeD false 1))).bind fun z_57 => (gate (D.tup []) z_55 false (some y_1)).bind fun z_58 => (gate (D.tup []) z_55 false
 (Option.map D.ptr (elemD 1 z_58 (D.v (Value.int IntKind.i64 1))))).bind fun z_59 => (gate (D.tup []) z_55 false ((ldD false 1 z_59).bind chkV)).bind fun z_60 => (gate (D.tup []) z_55 false (bin BinOp.sub false [] z_57
 z_60)).bind fun z_61 => (gate D.bad z_55 false (liveD b_1 (D.ref 0 1))).bind fun z_62 => (gate (D.tup []) z_55 false ((atD b_1 z_62).bind (takeD false 1))).bind fun z_63 => (gate (D.tup []) z_55 false (bin BinOp.neq false
 [] z_61 z_63)).bind fun z_64 => (gate (D.tup []) z true (pickD z_55 (D.v (Value.bool true)) z_64)).bind fun z_65 => (gate (D.tup []) z true (some z_65)).bind fun z_66 => (gate (D.tup []) z_66 false (some y_1)).bind fun
 z_67 => (gate (D.tup []) z_66 false (Option.map D.ptr (elemD 1 z_67 (D.v (Value.int IntKind.i64 2))))).bind fun z_68 => (gate (D.tup []) z_66 false ((ldD false 1 z_68).bind chkV)).bind fun z_69 => (gate (D.tup []) z_66
 false (bin BinOp.neq false [] z_69 (D.v (Value.int IntKind.i64 0)))).bind fun z_70 => (gate (D.tup []) z true (pickD z_66 (D.v (Value.bool true)) z_70)).bind fun z_71 => (gate (D.tup []) z true (some z_71)).bind fun
 z_72 => (gate D.bad z_72 false (liveD b (D.ref 0 3))).bind fun z_73 => (gate (D.tup []) z_72 false ((atD b z_73).bind (takeD false 1))).bind fun z_74 => (gate (D.tup []) z_72 false (some y_1)).bind fun z_75 => (gate
 (D.tup []) z_72 false (Option.map D.ptr (elemD 1 z_75 (D.v (Value.int IntKind.i64 3))))).bind fun z_76 => (gate (D.tup []) z_72 false ((ldD false 1 z_76).bind chkV)).bind fun z_77 => (gate (D.tup []) z_72 false (bin
 BinOp.sub false [] z_74 z_77)).bind fun z_78 => (gate D.bad z_72 false (liveD b_1 (D.ref 0 3))).bind fun z_79 => (gate (D.tup []) z_72 false ((atD b_1 z_79).bind (takeD false 1))).bind fun z_80 => (gate (D.tup []) z_72
 false (bin BinOp.neq false [] z_78 z_80)).bind fun z_81 => (gate (D.tup []) z true (pickD z_72 (D.v (Value.bool true)) z_81)).bind fun z_82 => (gate (D.tup []) z true (some z_82)).bind fun z_83 => (gate D.bad z_83 false
 (liveD b (D.ref 0 4))).bind fun z_84 => (gate (D.tup []) z_83 false ((atD b z_84).bind (takeD false 1))).bind fun z_85 => (gate (D.tup []) z_83 false (some y_1)).bind fun z_86 => (gate (D.tup []) z_83 false (Option.map
 D.ptr (elemD 1 z_86 (D.v (Value.int IntKind.i64 4))))).bind fun z_87 => (gate (D.tup []) z_83 false ((ldD false 1 z_87).bind chkV)).bind fun z_88 => (gate (D.tup []) z_83 false (bin BinOp.sub false [] z_85 z_88)).bind fun
 z_89 => (gate D.bad z_83 false (liveD b_1 (D.ref 0 4))).bind fun z_90 => (gate (D.tup []) z_83 false ((atD b_1 z_90).bind (takeD false 1))).bind fun z_91 => (gate (D.tup []) z_83 false (bin BinOp.neq false [] z_89
 z_91)).bind fun z_92 => (gate (D.tup []) z true (pickD z_83 (D.v (Value.bool true)) z_92)).bind fun z_93 => (pickD z z_93 (D.v (Value.bool false))).bind fun z => ifD z (some (Out.ret [D.v (Value.bool false)] [])) (callK
 (F_spec_DrawCastsLeft [x1]) fun rs _u => (tupAt (D.tup rs) 0).bind fun z => (tupAt (D.tup rs) 1).bind fun z_94 => (tupAt (D.tup rs) 2).bind fun z_95 => (stD 5 (D.agg [D.v (Value.int IntKind.i64 0), D.v (Value.int
 IntKind.i64 0), D.v (Value.int IntKind.i64 0), D.v (Value.int IntKind.i64 0), D.v (Value.int IntKind.i64 0)]) (D.ref 0 0) z).bind fun b => (stD 5 (D.agg [D.v (Value.int IntKind.i64 0), D.v (Value.int IntKind.i64 0), D.v
 (Value.int IntKind.i64 0), D.v (Value.int IntKind.i64 0), D.v (Value.int IntKind.i64 0)]) (D.ref 0 0) z_94).bind fun b_2 => (fldD true 5 0 b).bind fun z => (fldD true 5 0 b_2).bind fun z_96 => callK (F_impl_CastsLeft [z,
 z_96, z_95]) fun rs _u => (tupAt (D.tup rs) 0).bind fun z => (tupAt (D.tup rs) 1).bind fun z_97 => (fldD true 5 0 b).bind fun z_98 => (fldD true 5 0 b_2).bind fun z_99 => callK (F_spec_CastsLeft [z_98, z_99, z_95]) fun rs
 _u => (tupAt (D.tup rs) 0).bind fun z_100 => (tupAt (D.tup rs) 1).bind fun z_101 => (bin BinOp.neq true [] z_97 z_101).bind fun z_102 => (gate (D.tup []) z_102 false (some z)).bind fun z_103 => (gate (D.tup []) z_102
 false (some z_100)).bind fun z_104 => (gate (D.tup []) z_102 false (bin BinOp.neq false [] z_103 z_104)).bind fun z_105 => (pickD z_102 (D.v (Value.bool true)) z_105).bind fun z_106 => ifD z_106 (some (Out.ret [D.v
 (Value.bool false)] [])) (joinC (fun j => ifD z_97 ((fldD true 5 0 b).bind fun z_107 => callK (F_impl_DepthAfter [z_107, z]) fun rs _u => (tupAt (D.tup rs) 0).bind fun z_108 => (tupAt (D.tup rs) 1).bind fun z_109 => (un
 UnOp.not z_109).bind fun z_110 => (gate (D.tup []) z_110 false (some z_108)).bind fun z_111 => (gate D.bad z_110 false (liveD b_2 (D.ref 0 0))).bind fun z_112 => (gate (D.tup []) z_110 false ((atD b_2 z_112).bind (takeD
 false 1))).bind fun z_113 => (gate (D.tup []) z_110 false (bin BinOp.sub false [] z_111 z_113)).bind fun z_114 => (gate (D.tup []) z_110 false (some z_95)).bind fun z_115 => (gate (D.tup []) z_110 false (bin BinOp.gtr
 false [] z_114 z_115)).bind fun z_116 => (pickD z_110 (D.v (Value.bool true)) z_116).bind fun z_117 => ifD z_117 (some (Out.ret [D.v (Value.bool false)] [])) ((bin BinOp.lss false [] z_100 (D.v (Value.int IntKind.i64
 1000000))).bind fun z_118 => ifD z_118 ((fldD true 5 0 b).bind fun z_119 => (bin BinOp.add false [] z (D.v (Value.int IntKind.i64 1))).bind fun z => callK (F_impl_DepthAfter [z_119, z]) fun rs _u => (tupAt (D.tup rs)
 0).bind fun z => (tupAt (D.tup rs) 1).bind fun z_120 => (un UnOp.not z_120).bind fun z_121 => (gate (D.tup []) z_121 false (some z)).bind fun z => (gate D.bad z_121 false (liveD b_2 (D.ref 0 0))).bind fun z_122 => (gate
 (D.tup []) z_121 false ((atD b_2 z_122).bind (takeD false 1))).bind fun z_123 => (gate (D.tup []) z_121 false (bin BinOp.sub false [] z z_123)).bind fun z => (gate (D.tup []) z_121 false (some z_95)).bind fun z_124 =>
 (gate (D.tup []) z_121 false (bin BinOp.leq false [] z z_124)).bind fun z => (pickD z_121 (D.v (Value.bool true)) z).bind fun z => ifD z (some (Out.ret [D.v (Value.bool false)] [])) (j [x1])) (j [x1]))) (j [x1])) fun s =>
 callK (F_spec_DrawFileStrike [sl s 0]) fun rs _u => (tupAt (D.tup rs) 0).bind fun z => (tupAt (D.tup rs) 1).bind fun z_107 => (tupAt (D.tup rs) 2).bind fun z_108 => (stD 5 (D.agg [D.v (Value.int IntKind.i64 0), D.v
 (Value.int IntKind.i64 0), D.v (Value.int IntKind.i64 0), D.v (Value.int IntKind.i64 0), D.v (Value.int IntKind.i64 0)]) (D.ref 0 0) z).bind fun b => (fldD true 5 0 b).bind fun z => callK (F_impl_FileStrike [z, z_107,
 z_108]) fun rs _u => (tupAt (D.tup rs) 0).bind fun z => (tupAt (D.tup rs) 1).bind fun z_109 => (stD 5 (D.agg [D.v (Value.int IntKind.i64 0), D.v (Value.int IntKind.i64 0), D.v (Value.int IntKind.i64 0), D.v (Value.int
 IntKind.i64 0), D.v (Value.int IntKind.i64 0)]) (D.ref 0 0) z).bind fun b_3 => (fldD true 5 0 b).bind fun z => callK (F_spec_FileStrike [z, z_107, z_108]) fun rs _u => (tupAt (D.tup rs) 0).bind fun z => (tupAt (D.tup rs)
 1).bind fun z_110 => (stD 5 (D.agg [D.v (Value.int IntKind.i64 0), D.v (Value.int IntKind.i64 0), D.v (Value.int IntKind.i64 0), D.v (Value.int IntKind.i64 0), D.v (Value.int IntKind.i64 0)]) (D.ref 0 0) z).bind fun
 b_4 => (fldD true 5 0 b).bind fun z => callK (F_impl_CentreStrike [z]) fun rs _u => (tupAt (D.tup rs) 0).bind fun z => (tupAt (D.tup rs) 1).bind fun z_111 => (stD 5 (D.agg [D.v (Value.int IntKind.i64 0), D.v (Value.int
 IntKind.i64 0), D.v (Value.int IntKind.i64 0), D.v (Value.int IntKind.i64 0), D.v (Value.int IntKind.i64 0)]) (D.ref 0 0) z).bind fun b_5 => (fldD true 5 0 b).bind fun z => callK (F_spec_CentreStrike [z]) fun rs _u =>
 (tupAt (D.tup rs) 0).bind fun z => (tupAt (D.tup rs) 1).bind fun z_112 => (stD 5 (D.agg [D.v (Value.int IntKind.i64 0), D.v (Value.int IntKind.i64 0), D.v (Value.int IntKind.i64 0), D.v (Value.int IntKind.i64 0), D.v
 (Value.int IntKind.i64 0)]) (D.ref 0 0) z).bind fun b_6 => (fldD true 5 0 b).bind fun z => callK (F_impl_StrikeText [z]) fun rs _u => (tupAt (D.tup rs) 0).bind fun z => (tupAt (D.tup rs) 1).bind fun z_113 => (fldD true 5
 0 b).bind fun z_114 => callK (F_spec_StrikeText [z_114]) fun rs _u => (tupAt (D.tup rs) 0).bind fun z_115 => (tupAt (D.tup rs) 1).bind fun z_116 => callK (F_spec_DrawParseStrike [sl s 0]) fun rs _u => callK
 (F_impl_ParseStrike [sl rs 0]) fun rs_1 _u => (tupAt (D.tup rs_1) 0).bind fun z_117 => (tupAt (D.tup rs_1) 1).bind fun z_118 => (stD 5 (D.agg [D.v (Value.int IntKind.i64 0), D.v (Value.int IntKind.i64 0), D.v (Value.int
 IntKind.i64 0), D.v (Value.int IntKind.i64 0), D.v (Value.int IntKind.i64 0)]) (D.ref 0 0) z_117).bind fun b_7 => callK (F_spec_ParseStrike [sl rs 0]) fun rs _u => (tupAt (D.tup rs) 0).bind fun z_119 => (tupAt (D.tup rs)
 1).bind fun z_120 => (stD 5 (D.agg [D.v (Value.int IntKind.i64 0), D.v (Value.int IntKind.i64 0), D.v (Value.int IntKind.i64 0), D.v (Value.int IntKind.i64 0), D.v (Value.int IntKind.i64 0)]) (D.ref 0 0) z_119).bind fun
 b_8 => (bin BinOp.neq true [] z_109 z_110).bind fun z_121 => (gate (D.tup []) z_121 false (fldD true 5 0 b_3)).bind fun z_122 => (gate (D.tup []) z_121 false (fldD true 5 0 b_4)).bind fun z_123 => (gate (D.tup []) z_121
 false (bin BinOp.neq false [1, 1, 1, 1, 1] z_122 z_123)).bind fun z_124 => (pickD z_121 (D.v (Value.bool true)) z_124).bind fun z_125 => (gate (D.tup []) z_125 false (some z_111)).bind fun z_126 => (gate (D.tup []) z_125
 false (some z_112)).bind fun z_127 => (gate (D.tup []) z_125 false (bin BinOp.neq true [] z_126 z_127)).bind fun z_128 => (pickD z_125 (D.v (Value.bool true)) z_128).bind fun z_129 => (gate (D.tup []) z_129 false (fldD
 true 5 0 b_5)).bind fun z_130 => (gate (D.tup []) z_129 false (fldD true 5 0 b_6)).bind fun z_131 => (gate (D.tup []) z_129 false (bin BinOp.neq false [1, 1, 1, 1, 1] z_130 z_131)).bind fun z_132 => (pickD z_129 (D.v
 (Value.bool true)) z_132).bind fun z_133 => (gate (D.tup []) z_133 false (some z_113)).bind fun z_134 => (gate (D.tup []) z_133 false (some z_116)).bind fun z_135 => (gate (D.tup []) z_133 false (bin BinOp.neq true []
 z_134 z_135)).bind fun z_136 => (pickD z_133 (D.v (Value.bool true)) z_136).bind fun z_137 => (gate (D.tup []) z_137 false (some z)).bind fun z_138 => (gate (D.tup []) z_137 false (some z_115)).bind fun z_139 => (gate
 (D.tup []) z_137 false (bin BinOp.neq false [] z_138 z_139)).bind fun z_140 => (pickD z_137 (D.v (Value.bool true)) z_140).bind fun z_141 => (gate (D.tup []) z_141 false (some z_118)).bind fun z_142 => (gate (D.tup [])
 z_141 false (some z_120)).bind fun z_143 => (gate (D.tup []) z_141 false (bin BinOp.neq true [] z_142 z_143)).bind fun z_144 => (pickD z_141 (D.v (Value.bool true)) z_144).bind fun z_145 => (gate (D.tup []) z_145 false
 (fldD true 5 0 b_7)).bind fun z_146 => (gate (D.tup []) z_145 false (fldD true 5 0 b_8)).bind fun z_147 => (gate (D.tup []) z_145 false (bin BinOp.neq false [1, 1, 1, 1, 1] z_146 z_147)).bind fun z_148 => (pickD z_145
 (D.v (Value.bool true)) z_148).bind fun z_149 => (gate (D.tup []) z_149 false (some z_111)).bind fun z_150 => (gate (D.tup []) z_149 false (fldD true 5 0 b)).bind fun z_151 => gateC z_149 false (callK (F_impl_IsStrike
 [z_151]) fun rs _u => some (Out.nrm [sl rs 0])) [D.tup []] fun outs => (gate (D.tup []) z_149 false (bin BinOp.neq true [] z_150 (sl outs 0))).bind fun z_152 => (pickD z_149 (D.v (Value.bool true)) z_152).bind fun
 z_153 => (gate (D.tup []) z_153 false (some z_113)).bind fun z_154 => (gate (D.tup []) z_153 false (some z_111)).bind fun z_155 => (gate (D.tup []) z_153 false (bin BinOp.neq true [] z_154 z_155)).bind fun z_156 => (pickD
 z_153 (D.v (Value.bool true)) z_156).bind fun z_157 => ifD z_157 (some (Out.ret [D.v (Value.bool false)] [])) (ifD z_111 (callK (F_impl_ParseStrike [z]) fun rs _u => (tupAt (D.tup rs) 0).bind fun z => (tupAt (D.tup rs)
 1).bind fun z_158 => (stD 5 (D.agg [D.v (Value.int IntKind.i64 0), D.v (Value.int IntKind.i64 0), D.v (Value.int IntKind.i64 0), D.v (Value.int IntKind.i64 0), D.v (Value.int IntKind.i64 0)]) (D.ref 0 0) z).bind fun
 b_9 => (fldD true 5 0 b).bind fun z => callK (F_impl_WidthOfStrike [z]) fun rs _u => (tupAt (D.tup rs) 0).bind fun z => (tupAt (D.tup rs) 1).bind fun z_159 => (fldD true 5 0 b_5).bind fun z_160 => callK
 (F_impl_WidthOfStrike [z_160]) fun rs _u => (tupAt (D.tup rs) 0).bind fun z_161 => (tupAt (D.tup rs) 1).bind fun z_162 => (gate (D.tup []) z_158 true (fldD true 5 0 b_9)).bind fun z_163 => (gate (D.tup []) z_158 true
 (fldD true 5 0 b)).bind fun z_164 => (gate (D.tup []) z_158 true (bin BinOp.eql false [1, 1, 1, 1, 1] z_163 z_164)).bind fun z_165 => (pickD z_158 z_165 (D.v (Value.bool false))).bind fun z_166 => (gate (D.tup []) z_166
 true (some z_159)).bind fun z_167 => (pickD z_166 z_167 (D.v (Value.bool false))).bind fun z_168 => (gate (D.tup []) z_168 true (some z_162)).bind fun z_169 => (pickD z_168 z_169 (D.v (Value.bool false))).bind fun
 z_170 => (gate (D.tup []) z_170 true (some z_161)).bind fun z_171 => (gate (D.tup []) z_170 true (some z)).bind fun z => (gate (D.tup []) z_170 true (bin BinOp.leq false [] z_171 z)).bind fun z => (pickD z_170 z (D.v
 (Value.bool false))).bind fun z => (gate D.bad z true (liveD b_6 (D.ref 0 1))).bind fun z_172 => (gate (D.tup []) z true ((atD b_6 z_172).bind (takeD false 1))).bind fun z_173 => (gate D.bad z true (liveD b_6 (D.ref 0
 3))).bind fun z_174 => (gate (D.tup []) z true ((atD b_6 z_174).bind (takeD false 1))).bind fun z_175 => (gate (D.tup []) z true (bin BinOp.eql false [] z_173 z_175)).bind fun z_176 => (pickD z z_176 (D.v (Value.bool
 false))).bind fun z => some (Out.ret [z] [])) (some (Out.ret [D.v (Value.bool true)] [])))))))) := by kernel_rfl
theorem t_impl_isGrams (x0 : D) : F_impl_isGrams [x0] =
  (callK (F_impl_within [x0, D.v (Value.int IntKind.i64 0), D.v (Value.int IntKind.i64 1000000)]) fun rs _u => some (Out.ret [sl rs 0] [])) := by kernel_rfl
theorem t_impl_IsMelt (x0 : D) : F_impl_IsMelt [x0] =
  ((boxD 3 x0).bind fun y => (liveD y (D.ref 0 0)).bind fun z => ((atD y z).bind (takeD false 1)).bind fun z => callK (F_impl_isGrams [z]) fun rs _u => (gate D.bad (sl rs 0) true (liveD y (D.ref 0 1))).bind fun z =>
 (gate (D.tup []) (sl rs 0) true ((atD y z).bind (takeD false 1))).bind fun z => gateC (sl rs 0) true (callK (F_impl_isGrams [z]) fun rs _u => some (Out.nrm [sl rs 0])) [D.tup []] fun outs =>
 (pickD (sl rs 0) (sl outs 0) (D.v (Value.bool false))).bind fun z => (gate D.bad z true (liveD y (D.ref 0 2))).bind fun z_1 => (gate (D.tup []) z true ((atD y z_1).bind (takeD false 1))).bind fun z_2 =>
 gateC z true (callK (F_impl_isGrams [z_2]) fun rs _u => some (Out.nrm [sl rs 0])) [D.tup []] fun outs => (pickD z (sl outs 0) (D.v (Value.bool false))).bind fun z => some (Out.ret [z] [])) := by kernel_rfl
theorem t_impl_Melt_grams (x0 : D) : F_impl_Melt_grams [x0] =
  ((boxD 3 x0).bind fun y => (liveD y (D.ref 0 0)).bind fun z => ((atD y z).bind (takeD false 1)).bind fun z => (liveD y (D.ref 0 1)).bind fun z_1 => ((atD y z_1).bind (takeD false 1)).bind fun z_2 =>
 (bin BinOp.add false [] z z_2).bind fun z => (liveD y (D.ref 0 2)).bind fun z_3 => ((atD y z_3).bind (takeD false 1)).bind fun z_4 => (bin BinOp.add false [] z z_4).bind fun z => some (Out.ret [z] [])) := by kernel_rfl
end Go.Proofs.YtlphibidnkjpdaaDoor
/-
  Contexts and contracts of functions, printed by gen.py.
-/
namespace Go.Proofs.YtlphibidnkjpdaaDoor
open Go.V
set_option maxRecDepth 100000
@[reducible] def ty59 : TI := { n := 1, zero := [.arr 3 []], elem := 51, ez := 3, eb := 24 }
/-- (*loop.example/g01054/spec.l1Cur).melt -/
@[reducible] noncomputable def c_spec_l1Cur_melt : Cx := { K := [.box 3 2 true, .no, .box 3 0 false, .box 3 0 false, .ref 0, .dat 0, .ref 0, .dat 0, .ref 0, .dat 0, .dat 0, .ref 0, .dat 0, .ref 0, .dat 1, .dat 0, .ref 3, .dat 0], T := [(3, ty3), (28, ty28), (51, ty51)], S := [(96, S_spec_l1Cur_among), (99, S_spec_l1Cur_pick), (113, S_spec_l1Cur_one)], H := [], res := [.cell 2 51], ios := [0], G := gl0 }
noncomputable def F_spec_l1Cur_melt : List D → Option Out := denF c_spec_l1Cur_melt Tryd.f123
@[reducible] noncomputable def S_spec_l1Cur_melt : FS := { pm := [.box 3 2 true], rm := [.dat 0], f := F_spec_l1Cur_melt }
theorem M_spec_l1Cur_melt : Meets gl0 Tryd.prog 123 S_spec_l1Cur_melt := meets_of (P := Tryd.prog) (c := c_spec_l1Cur_melt) (fn := Tryd.f123) (pm := S_spec_l1Cur_melt.pm) (rm := S_spec_l1Cur_melt.rm) (by kernel_rfl) (lookCons M_spec_l1Cur_among (lookCons M_spec_l1Cur_pick (lookCons M_spec_l1Cur_one lookNil))) follows_mixed Tryd.func123 (by kernel_rfl) (by kernel_rfl) rfl
/-- (*loop.example/g01054/spec.l1Cur).anyMelt -/
@[reducible] noncomputable def c_spec_l1Cur_anyMelt : Cx := { K := [.box 3 2 true, .no, .box 3 0 false, .box 3 0 false, .ref 0, .dat 0, .ref 0, .dat 0, .dat 0, .dat 0, .ref 0, .dat 1, .dat 0, .ref 3, .dat 0, .dat 0, .ref 0, .dat 1, .dat 0, .ref 3, .dat 0, .dat 0, .ref 0, .dat 1, .dat 0, .ref 3, .dat 0, .dat 0, .dat 0, .dat 0], T := [(3, ty3), (28, ty28), (51, ty51)], S := [(96, S_spec_l1Cur_among), (99, S_spec_l1Cur_pick), (123, S_spec_l1Cur_melt)], H := [], res := [.cell 2 51], ios := [0], G := gl0 }
noncomputable def F_spec_l1Cur_anyMelt : List D → Option Out := denF c_spec_l1Cur_anyMelt Tryd.f111
@[reducible] noncomputable def S_spec_l1Cur_anyMelt : FS := { pm := [.box 3 2 true], rm := [.dat 0], f := F_spec_l1Cur_anyMelt }
theorem M_spec_l1Cur_anyMelt : Meets gl0 Tryd.prog 111 S_spec_l1Cur_anyMelt := meets_of (P := Tryd.prog) (c := c_spec_l1Cur_anyMelt) (fn := Tryd.f111) (pm := S_spec_l1Cur_anyMelt.pm) (rm := S_spec_l1Cur_anyMelt.rm) (by kernel_rfl) (lookCons M_spec_l1Cur_among (lookCons M_spec_l1Cur_pick (lookCons M_spec_l1Cur_melt lookNil))) follows_mixed Tryd.func111 (by kernel_rfl) (by kernel_rfl) rfl
/-- loop.example/g01054/spec.meParts -/
@[reducible] noncomputable def c_spec_meParts : Cx := { K := [.dat 0, .box 3 0 false, .own 1 0 false, .ref 1, .dat 0, .ref 1, .dat 0, .ref 1, .dat 0, .own 1 0 false], T := [(3, ty3), (28, ty28), (51, ty51)], S := [], H := [], res := [.tmp 2], ios := [], G := gl0 }
noncomputable def F_spec_meParts : List D → Option Out := denF c_spec_meParts Tryd.f119
@[reducible] noncomputable def S_spec_meParts : FS := { pm := [.dat 0], rm := [.own 1 0 false], f := F_spec_meParts }
theorem M_spec_meParts : Meets gl0 Tryd.prog 119 S_spec_meParts := meets_of (P := Tryd.prog) (c := c_spec_meParts) (fn := Tryd.f119) (pm := S_spec_meParts.pm) (rm := S_spec_meParts.rm) (by kernel_rfl) lookNil follows_mixed Tryd.func119 (by kernel_rfl) (by kernel_rfl) rfl
/-- loop.example/g01054/spec.meGood -/
@[reducible] noncomputable def c_spec_meGood : Cx := { K := [.dat 0, .box 3 0 false, .dat 0, .dat 0, .dat 1, .dat 0], T := [(3, ty3), (51, ty51)], S := [(119, S_spec_meParts), (139, S_spec_l1All)], H := [], res := [.tmp 2], ios := [], G := gl0 }
noncomputable def F_spec_meGood : List D → Option Out := denF c_spec_meGood Tryd.f112
@[reducible] noncomputable def S_spec_meGood : FS := { pm := [.dat 0], rm := [.dat 0], f := F_spec_meGood }
theorem M_spec_meGood : Meets gl0 Tryd.prog 112 S_spec_meGood := meets_of (P := Tryd.prog) (c := c_spec_meGood) (fn := Tryd.f112) (pm := S_spec_meGood.pm) (rm := S_spec_meGood.rm) (by kernel_rfl) (lookCons M_spec_meParts (lookCons M_spec_l1All lookNil)) follows_mixed Tryd.func112 (by kernel_rfl) (by kernel_rfl) rfl
/-- loop.example/g01054/spec.meGrams -/
@[reducible] noncomputable def c_spec_meGrams : Cx := { K := [.dat 0, .box 3 0 false, .dat 0, .ref 1, .dat 0, .ref 1, .dat 0, .dat 0, .ref 1, .dat 0, .dat 0], T := [(3, ty3), (51, ty51)], S := [], H := [], res := [.tmp 2], ios := [], G := gl0 }
noncomputable def F_spec_meGrams : List D → Option Out := denF c_spec_meGrams Tryd.f114
@[reducible] noncomputable def S_spec_meGrams : FS := { pm := [.dat 0], rm := [.dat 0], f := F_spec_meGrams }
theorem M_spec_meGrams : Meets gl0 Tryd.prog 114 S_spec_meGrams := meets_of (P := Tryd.prog) (c := c_spec_meGrams) (fn := Tryd.f114) (pm := S_spec_meGrams.pm) (rm := S_spec_meGrams.rm) (by kernel_rfl) lookNil follows_mixed Tryd.func114 (by kernel_rfl) (by kernel_rfl) rfl
/-- loop.example/g01054/spec.DrawTakeMelt -/
@[reducible] noncomputable def c_spec_DrawTakeMelt : Cx := { K := [.dat 2, .no, .box 3 0 false, .dat 0, .ref 8, .box 3 0 false, .dat 2, .dat 2, .box 3 2 false, .ref 8, .dat 0, .dat 0, .dat 0, .dat 0, .ref 8, .dat 0, .dat 0, .dat 0, .dat 0, .ref 8, .dat 0, .dat 0, .dat 0, .dat 0, .dat 0, .dat 0, .dat 0, .dat 0, .dat 0, .dat 0, .dat 0, .dat 0, .dat 0, .dat 0, .dat 1, .dat 0, .dat 0, .ref 8, .dat 1, .dat 0], T := [(3, ty3), (22, ty22), (28, ty28), (51, ty51), (108, ty108), (110, ty110)], S := [(96, S_spec_l1Cur_among), (111, S_spec_l1Cur_anyMelt), (112, S_spec_meGood), (113, S_spec_l1Cur_one), (114, S_spec_meGrams)], H := [], res := [.cell 2 51, .tmp 3], ios := [], G := gl0 }
noncomputable def F_spec_DrawTakeMelt : List D → Option Out := denF c_spec_DrawTakeMelt Tryd.f30
@[reducible] noncomputable def S_spec_DrawTakeMelt : FS := { pm := [.dat 2], rm := [.dat 0, .dat 0], f := F_spec_DrawTakeMelt }
theorem M_spec_DrawTakeMelt : Meets gl0 Tryd.prog 30 S_spec_DrawTakeMelt := meets_of (P := Tryd.prog) (c := c_spec_DrawTakeMelt) (fn := Tryd.f30) (pm := S_spec_DrawTakeMelt.pm) (rm := S_spec_DrawTakeMelt.rm) (by kernel_rfl) (lookCons M_spec_l1Cur_among (lookCons M_spec_l1Cur_anyMelt (lookCons M_spec_meGood (lookCons M_spec_l1Cur_one (lookCons M_spec_meGrams lookNil))))) follows_mixed Tryd.func30 (by kernel_rfl) (by kernel_rfl) rfl
/-- loop.example/g01054/impl.TakeMelt -/
@[reducible] noncomputable def c_impl_TakeMelt : Cx := { K := [.dat 0, .dat 0, .box 3 0 false, .no, .box 3 0 false, .box 3 0 false, .dat 0, .box 3 0 false, .box 3 0 false, .dat 0, .dat 0, .dat 0, .dat 0, .dat 0, .dat 0, .dat 0, .dat 0, .dat 0, .dat 0, .dat 0, .dat 0, .dat 0, .dat 0, .dat 0, .ref 2, .dat 0, .dat 0, .dat 0, .dat 0, .dat 0, .dat 0, .ref 2, .dat 0, .dat 0, .dat 0, .dat 0, .dat 0, .dat 0, .ref 7, .ref 7, .dat 0, .ref 7, .dat 0, .dat 0, .ref 7, .dat 0, .dat 0, .ref 7, .ref 2, .dat 0, .ref 7, .dat 0, .dat 0, .ref 2, .dat 0, .ref 7, .dat 0, .dat 0, .ref 2, .dat 0, .ref 7, .dat 0, .dat 0, .dat 0, .dat 0, .dat 0, .dat 0, .dat 0, .dat 0, .dat 0, .dat 0], T := [(3, ty3), (51, ty51)], S := [(42, S_impl_IsMelt), (95, S_impl_within), (115, S_impl_Melt_grams)], H := [], res := [.cell 4 51, .cell 5 51, .tmp 6], ios := [], G := gl0 }
noncomputable def F_impl_TakeMelt : List D → Option Out := denF c_impl_TakeMelt Tryd.f31
@[reducible] noncomputable def S_impl_TakeMelt : FS := { pm := [.dat 0, .dat 0], rm := [.dat 0, .dat 0, .dat 0], f := F_impl_TakeMelt }
theorem M_impl_TakeMelt : Meets gl0 Tryd.prog 31 S_impl_TakeMelt := meets_of (P := Tryd.prog) (c := c_impl_TakeMelt) (fn := Tryd.f31) (pm := S_impl_TakeMelt.pm) (rm := S_impl_TakeMelt.rm) (by kernel_rfl) (lookCons M_impl_IsMelt (lookCons M_impl_within (lookCons M_impl_Melt_grams lookNil))) follows_mixed Tryd.func31 (by kernel_rfl) (by kernel_rfl) rfl
/-- loop.example/g01054/spec.TakeMelt -/
@[reducible] noncomputable def c_spec_TakeMelt : Cx := { K := [.dat 0, .dat 0, .box 3 0 false, .no, .box 3 0 false, .box 3 0 false, .dat 0, .box 3 0 false, .dat 0, .dat 0, .dat 0, .dat 0, .dat 0, .dat 0, .dat 0, .dat 0, .dat 0, .dat 0, .dat 0, .dat 0, .dat 0, .dat 0, .dat 0, .dat 0, .dat 0, .ref 2, .dat 0, .dat 0, .dat 0, .dat 0, .dat 0, .ref 7, .ref 2, .dat 0, .dat 0, .dat 0, .dat 0, .dat 0, .ref 7, .dat 0, .ref 7, .dat 0, .dat 0, .ref 7, .dat 0, .dat 0, .ref 7, .ref 7, .dat 0, .ref 2, .dat 0, .dat 0, .dat 0, .dat 0, .dat 0, .ref 2, .dat 0, .ref 7, .dat 0, .dat 0, .ref 2, .dat 0, .ref 7, .dat 0, .dat 0, .ref 2, .dat 0, .ref 7, .dat 0, .dat 0, .dat 0], T := [(3, ty3), (51, ty51)], S := [(97, S_spec_l1In), (112, S_spec_meGood), (114, S_spec_meGrams)], H := [], res := [.cell 4 51, .cell 5 51, .tmp 6], ios := [], G := gl0 }
noncomputable def F_spec_TakeMelt : List D → Option Out := denF c_spec_TakeMelt Tryd.f32
@[reducible] noncomputable def S_spec_TakeMelt : FS := { pm := [.dat 0, .dat 0], rm := [.dat 0, .dat 0, .dat 0], f := F_spec_TakeMelt }
theorem M_spec_TakeMelt : Meets gl0 Tryd.prog 32 S_spec_TakeMelt := meets_of (P := Tryd.prog) (c := c_spec_TakeMelt) (fn := Tryd.f32) (pm := S_spec_TakeMelt.pm) (rm := S_spec_TakeMelt.rm) (by kernel_rfl) (lookCons M_spec_l1In (lookCons M_spec_meGood (lookCons M_spec_meGrams lookNil))) follows_mixed Tryd.func32 (by kernel_rfl) (by kernel_rfl) rfl
/-- loop.example/g01054/impl.GramsOf -/
@[reducible] noncomputable def c_impl_GramsOf : Cx := { K := [.dat 0, .box 3 0 false, .dat 0, .dat 0, .dat 0, .dat 0, .dat 0, .dat 0, .dat 0], T := [(3, ty3), (51, ty51)], S := [(42, S_impl_IsMelt), (115, S_impl_Melt_grams)], H := [], res := [.tmp 2, .tmp 3], ios := [], G := gl0 }
noncomputable def F_impl_GramsOf : List D → Option Out := denF c_impl_GramsOf Tryd.f33
@[reducible] noncomputable def S_impl_GramsOf : FS := { pm := [.dat 0], rm := [.dat 0, .dat 0], f := F_impl_GramsOf }
theorem M_impl_GramsOf : Meets gl0 Tryd.prog 33 S_impl_GramsOf := meets_of (P := Tryd.prog) (c := c_impl_GramsOf) (fn := Tryd.f33) (pm := S_impl_GramsOf.pm) (rm := S_impl_GramsOf.rm) (by kernel_rfl) (lookCons M_impl_IsMelt (lookCons M_impl_Melt_grams lookNil)) follows_mixed Tryd.func33 (by kernel_rfl) (by kernel_rfl) rfl
/-- (loop.example/g01054/impl.Melt).plus -/
@[reducible] noncomputable def c_impl_Melt_plus : Cx := { K := [.dat 0, .dat 0, .box 3 0 false, .box 3 0 false, .box 3 0 false, .ref 2, .dat 0, .ref 3, .dat 0, .dat 0, .ref 2, .dat 0, .ref 3, .dat 0, .dat 0, .ref 2, .dat 0, .ref 3, .dat 0, .dat 0, .dat 0], T := [(3, ty3), (51, ty51)], S := [], H := [], res := [.cell 4 51], ios := [], G := gl0 }
noncomputable def F_impl_Melt_plus : List D → Option Out := denF c_impl_Melt_plus Tryd.f116
@[reducible] noncomputable def S_impl_Melt_plus : FS := { pm := [.dat 0, .dat 0], rm := [.dat 0], f := F_impl_Melt_plus }
theorem M_impl_Melt_plus : Meets gl0 Tryd.prog 116 S_impl_Melt_plus := meets_of (P := Tryd.prog) (c := c_impl_Melt_plus) (fn := Tryd.f116) (pm := S_impl_Melt_plus.pm) (rm := S_impl_Melt_plus.rm) (by kernel_rfl) lookNil follows_mixed Tryd.func116 (by kernel_rfl) (by kernel_rfl) rfl
/-- loop.example/g01054/impl.JoinMelts -/
@[reducible] noncomputable def c_impl_JoinMelts : Cx := { K := [.dat 2, .no, .box 3 0 false, .dat 0, .box 3 0 false, .no, .box 3 0 false, .dat 0, .dat 2, .dat 0, .dat 0, .dat 0, .dat 2, .dat 0, .dat 0, .dat 0, .dat 0, .dat 0, .dat 0, .dat 0, .dat 0, .dat 0, .dat 2, .dat 0, .dat 0, .dat 0, .dat 0, .dat 0, .dat 0, .dat 0, .dat 0, .dat 0], T := [(3, ty3), (51, ty51), (59, ty59)], S := [(42, S_impl_IsMelt), (116, S_impl_Melt_plus)], H := [(0, ([0, 2, 4, 8, 9, 10], [0, 2, 4]))], res := [.cell 2 51, .tmp 3], ios := [], G := gl0 }
noncomputable def F_impl_JoinMelts : List D → Option Out := denF c_impl_JoinMelts Tryd.f34
@[reducible] noncomputable def S_impl_JoinMelts : FS := { pm := [.dat 2], rm := [.dat 0, .dat 0], f := F_impl_JoinMelts }
theorem M_impl_JoinMelts : Meets gl0 Tryd.prog 34 S_impl_JoinMelts := meets_of (P := Tryd.prog) (c := c_impl_JoinMelts) (fn := Tryd.f34) (pm := S_impl_JoinMelts.pm) (rm := S_impl_JoinMelts.rm) (by kernel_rfl) (lookCons M_impl_IsMelt (lookCons M_impl_Melt_plus lookNil)) follows_mixed Tryd.func34 (by kernel_rfl) (by kernel_rfl) rfl
/-- loop.example/g01054/spec.DrawIsMelt -/
@[reducible] noncomputable def c_spec_DrawIsMelt : Cx := { K := [.dat 2, .no, .box 3 0 false, .ref 6, .dat 2, .dat 2, .box 3 2 false, .ref 6, .dat 0], T := [(3, ty3), (22, ty22), (51, ty51), (108, ty108), (110, ty110)], S := [(111, S_spec_l1Cur_anyMelt)], H := [], res := [.cell 2 51], ios := [], G := gl0 }
noncomputable def F_spec_DrawIsMelt : List D → Option Out := denF c_spec_DrawIsMelt Tryd.f117
@[reducible] noncomputable def S_spec_DrawIsMelt : FS := { pm := [.dat 2], rm := [.dat 0], f := F_spec_DrawIsMelt }
theorem M_spec_DrawIsMelt : Meets gl0 Tryd.prog 117 S_spec_DrawIsMelt := meets_of (P := Tryd.prog) (c := c_spec_DrawIsMelt) (fn := Tryd.f117) (pm := S_spec_DrawIsMelt.pm) (rm := S_spec_DrawIsMelt.rm) (by kernel_rfl) (lookCons M_spec_l1Cur_anyMelt lookNil) follows_mixed Tryd.func117 (by kernel_rfl) (by kernel_rfl) rfl
/-- loop.example/g01054/spec.DrawSharesOf -/
@[reducible] noncomputable def c_spec_DrawSharesOf : Cx := { K := [.dat 2, .no, .box 3 0 false, .dat 2, .dat 0], T := [(3, ty3), (51, ty51)], S := [(117, S_spec_DrawIsMelt)], H := [], res := [.cell 2 51], ios := [], G := gl0 }
noncomputable def F_spec_DrawSharesOf : List D → Option Out := denF c_spec_DrawSharesOf Tryd.f35
@[reducible] noncomputable def S_spec_DrawSharesOf : FS := { pm := [.dat 2], rm := [.dat 0], f := F_spec_DrawSharesOf }
theorem M_spec_DrawSharesOf : Meets gl0 Tryd.prog 35 S_spec_DrawSharesOf := meets_of (P := Tryd.prog) (c := c_spec_DrawSharesOf) (fn := Tryd.f35) (pm := S_spec_DrawSharesOf.pm) (rm := S_spec_DrawSharesOf.rm) (by kernel_rfl) (lookCons M_spec_DrawIsMelt lookNil) follows_mixed Tryd.func35 (by kernel_rfl) (by kernel_rfl) rfl
/-- loop.example/g01054/impl.isMetal -/
@[reducible] noncomputable def c_impl_isMetal : Cx := { K := [.dat 0, .box 3 0 false, .dat 0, .dat 0, .dat 0, .dat 0, .dat 0, .dat 0, .dat 0, .dat 0], T := [(3, ty3), (51, ty51)], S := [(42, S_impl_IsMelt), (115, S_impl_Melt_grams)], H := [], res := [.tmp 2], ios := [], G := gl0 }
noncomputable def F_impl_isMetal : List D → Option Out := denF c_impl_isMetal Tryd.f118
@[reducible] noncomputable def S_impl_isMetal : FS := { pm := [.dat 0], rm := [.dat 0], f := F_impl_isMetal }
theorem M_impl_isMetal : Meets gl0 Tryd.prog 118 S_impl_isMetal := meets_of (P := Tryd.prog) (c := c_impl_isMetal) (fn := Tryd.f118) (pm := S_impl_isMetal.pm) (rm := S_impl_isMetal.rm) (by kernel_rfl) (lookCons M_impl_IsMelt (lookCons M_impl_Melt_grams lookNil)) follows_mixed Tryd.func118 (by kernel_rfl) (by kernel_rfl) rfl
/-- loop.example/g01054/impl.SharesOf -/
@[reducible] noncomputable def c_impl_SharesOf : Cx := { K := [.dat 0, .box 3 0 false, .own 1 0 false, .dat 0, .dat 0, .dat 0, .dat 0, .dat 0, .own 1 0 false, .dat 0, .dat 0, .ref 1, .dat 0, .dat 0, .dat 0, .dat 0, .ref 1, .dat 0, .dat 0, .dat 0, .dat 0, .ref 1, .dat 0, .dat 0, .dat 0, .dat 0, .own 1 0 false], T := [(3, ty3), (28, ty28), (51, ty51)], S := [(115, S_impl_Melt_grams), (118, S_impl_isMetal)], H := [], res := [.tmp 2, .tmp 3], ios := [], G := gl0 }
noncomputable def F_impl_SharesOf : List D → Option Out := denF c_impl_SharesOf Tryd.f36
@[reducible] noncomputable def S_impl_SharesOf : FS := { pm := [.dat 0], rm := [.own 1 0 false, .dat 0], f := F_impl_SharesOf }
theorem M_impl_SharesOf : Meets gl0 Tryd.prog 36 S_impl_SharesOf := meets_of (P := Tryd.prog) (c := c_impl_SharesOf) (fn := Tryd.f36) (pm := S_impl_SharesOf.pm) (rm := S_impl_SharesOf.rm) (by kernel_rfl) (lookCons M_impl_Melt_grams (lookCons M_impl_isMetal lookNil)) follows_mixed Tryd.func36 (by kernel_rfl) (by kernel_rfl) rfl
/-- loop.example/g01054/spec.SharesOf -/
@[reducible] noncomputable def c_spec_SharesOf : Cx := { K := [.dat 0, .box 3 0 false, .own 1 0 false, .dat 0, .own 1 0 false, .no, .dat 0, .dat 0, .dat 0, .dat 0, .dat 0, .dat 0, .dat 0, .dat 0, .dat 0, .dat 0, .dat 1, .dat 0, .dat 0, .dat 0, .dat 1, .dat 0, .own 1 0 false, .dat 0, .dat 0, .dat 0, .dat 0, .dat 0, .dat 1, .own 1 0 false, .dat 0, .own 1 0 false], T := [(3, ty3), (28, ty28), (51, ty51)], S := [(112, S_spec_meGood), (114, S_spec_meGrams), (119, S_spec_meParts)], H := [(0, ([1, 4, 16, 17, 18], [4]))], res := [.tmp 2, .tmp 3], ios := [], G := gl0 }
noncomputable def F_spec_SharesOf : List D → Option Out := denF c_spec_SharesOf Tryd.f37
@[reducible] noncomputable def S_spec_SharesOf : FS := { pm := [.dat 0], rm := [.own 1 0 false, .dat 0], f := F_spec_SharesOf }
theorem M_spec_SharesOf : Meets gl0 Tryd.prog 37 S_spec_SharesOf := meets_of (P := Tryd.prog) (c := c_spec_SharesOf) (fn := Tryd.f37) (pm := S_spec_SharesOf.pm) (rm := S_spec_SharesOf.rm) (by kernel_rfl) (lookCons M_spec_meGood (lookCons M_spec_meGrams (lookCons M_spec_meParts lookNil))) follows_mixed Tryd.func37 (by kernel_rfl) (by kernel_rfl) rfl
/-- loop.example/g01054/laws.pSum -/
@[reducible] noncomputable def c_laws_pSum : Cx := { K := [.dat 2, .no, .dat 0, .dat 0, .no, .dat 0, .dat 2, .dat 0, .dat 0, .dat 0, .dat 2, .dat 0, .dat 0, .dat 0, .dat 0, .dat 0, .dat 0], T := [(3, ty3), (28, ty28)], S := [], H := [(0, ([3, 6, 7, 8], [3]))], res := [.tmp 2], ios := [], G := gl0 }
noncomputable def F_laws_pSum : List D → Option Out := denF c_laws_pSum Tryd.f38
@[reducible] noncomputable def S_laws_pSum : FS := { pm := [.dat 2], rm := [.dat 0], f := F_laws_pSum }
theorem M_laws_pSum : Meets gl0 Tryd.prog 38 S_laws_pSum := meets_of (P := Tryd.prog) (c := c_laws_pSum) (fn := Tryd.f38) (pm := S_laws_pSum.pm) (rm := S_laws_pSum.rm) (by kernel_rfl) lookNil follows_mixed Tryd.func38 (by kernel_rfl) (by kernel_rfl) rfl
/-- loop.example/g01054/spec.DrawAfterDross -/
@[reducible] noncomputable def c_spec_DrawAfterDross : Cx := { K := [.dat 2, .no, .box 3 0 false, .dat 0, .ref 7, .dat 2, .dat 2, .box 3 2 false, .ref 7, .dat 0, .ref 7, .ref 7, .dat 1, .dat 0, .dat 1, .dat 0], T := [(3, ty3), (22, ty22), (28, ty28), (51, ty51), (108, ty108), (110, ty110)], S := [(96, S_spec_l1Cur_among), (111, S_spec_l1Cur_anyMelt)], H := [], res := [.cell 2 51, .tmp 3], ios := [], G := gl0 }
noncomputable def F_spec_DrawAfterDross : List D → Option Out := denF c_spec_DrawAfterDross Tryd.f39
@[reducible] noncomputable def S_spec_DrawAfterDross : FS := { pm := [.dat 2], rm := [.dat 0, .dat 0], f := F_spec_DrawAfterDross }
theorem M_spec_DrawAfterDross : Meets gl0 Tryd.prog 39 S_spec_DrawAfterDross := meets_of (P := Tryd.prog) (c := c_spec_DrawAfterDross) (fn := Tryd.f39) (pm := S_spec_DrawAfterDross.pm) (rm := S_spec_DrawAfterDross.rm) (by kernel_rfl) (lookCons M_spec_l1Cur_among (lookCons M_spec_l1Cur_anyMelt lookNil)) follows_mixed Tryd.func39 (by kernel_rfl) (by kernel_rfl) rfl
/-- loop.example/g01054/impl.AfterDross$1 -/
@[reducible] noncomputable def c_impl_AfterDross_1 : Cx := { K := [.dat 0, .dat 2, .no, .dat 0, .dat 0, .dat 0, .dat 0, .dat 0, .dat 0, .dat 0, .dat 0], T := [(3, ty3)], S := [], H := [], res := [.tmp 3], ios := [], G := gl0 }
noncomputable def F_impl_AfterDross_1 : List D → Option Out := denF c_impl_AfterDross_1 Tryd.f120
@[reducible] noncomputable def S_impl_AfterDross_1 : FS := { pm := [.dat 0, .dat 2], rm := [.dat 0], f := F_impl_AfterDross_1 }
theorem M_impl_AfterDross_1 : Meets gl0 Tryd.prog 120 S_impl_AfterDross_1 := meets_of (P := Tryd.prog) (c := c_impl_AfterDross_1) (fn := Tryd.f120) (pm := S_impl_AfterDross_1.pm) (rm := S_impl_AfterDross_1.rm) (by kernel_rfl) lookNil follows_mixed Tryd.func120 (by kernel_rfl) (by kernel_rfl) rfl
/-- loop.example/g01054/impl.AfterDross -/
@[reducible] noncomputable def c_impl_AfterDross : Cx := { K := [.dat 0, .dat 0, .box 3 0 false, .dat 1, .box 3 0 false, .dat 0, .dat 0, .dat 1, .box 3 0 false, .dat 0, .dat 0, .dat 0, .dat 0, .dat 0, .dat 0, .dat 0, .dat 0, .dat 0, .dat 1, .dat 1, .ref 2, .dat 0, .dat 0, .dat 1, .ref 2, .dat 0, .dat 0, .dat 1, .ref 2, .dat 0, .dat 0, .dat 0, .dat 0, .dat 0, .dat 0, .dat 0, .dat 0, .dat 0], T := [(3, ty3), (51, ty51)], S := [(42, S_impl_IsMelt), (95, S_impl_within), (115, S_impl_Melt_grams), (120, S_impl_AfterDross_1)], H := [], res := [.cell 4 51, .tmp 5, .tmp 6], ios := [], G := gl0, C := [(19, 120), (23, 120), (27, 120)] }
noncomputable def F_impl_AfterDross : List D → Option Out := denF c_impl_AfterDross Tryd.f40
@[reducible] noncomputable def S_impl_AfterDross : FS := { pm := [.dat 0, .dat 0], rm := [.dat 0, .dat 0, .dat 0], f := F_impl_AfterDross }
theorem M_impl_AfterDross : Meets gl0 Tryd.prog 40 S_impl_AfterDross := meets_of (P := Tryd.prog) (c := c_impl_AfterDross) (fn := Tryd.f40) (pm := S_impl_AfterDross.pm) (rm := S_impl_AfterDross.rm) (by kernel_rfl) (lookCons M_impl_IsMelt (lookCons M_impl_within (lookCons M_impl_Melt_grams (lookCons M_impl_AfterDross_1 lookNil)))) follows_mixed Tryd.func40 (by kernel_rfl) (by kernel_rfl) rfl
/-- loop.example/g01054/spec.l1Most -/
@[reducible] noncomputable def c_spec_l1Most : Cx := { K := [.dat 0, .dat 0, .no, .no, .dat 0, .dat 0, .dat 0, .dat 0, .dat 0, .dat 0], T := [(3, ty3)], S := [], H := [], res := [.tmp 4], ios := [], G := gl0 }
noncomputable def F_spec_l1Most : List D → Option Out := denF c_spec_l1Most Tryd.f159
@[reducible] noncomputable def S_spec_l1Most : FS := { pm := [.dat 0, .dat 0], rm := [.dat 0], f := F_spec_l1Most }
theorem M_spec_l1Most : Meets gl0 Tryd.prog 159 S_spec_l1Most := meets_of (P := Tryd.prog) (c := c_spec_l1Most) (fn := Tryd.f159) (pm := S_spec_l1Most.pm) (rm := S_spec_l1Most.rm) (by kernel_rfl) lookNil follows_mixed Tryd.func159 (by kernel_rfl) (by kernel_rfl) rfl
/-- loop.example/g01054/spec.meUp -/
@[reducible] noncomputable def c_spec_meUp : Cx := { K := [.dat 0, .dat 0, .no, .no, .dat 0, .dat 0, .dat 0, .dat 0, .dat 0, .dat 0, .dat 0, .dat 0], T := [(3, ty3)], S := [(159, S_spec_l1Most)], H := [], res := [.tmp 4], ios := [], G := gl0 }
noncomputable def F_spec_meUp : List D → Option Out := denF c_spec_meUp Tryd.f121
@[reducible] noncomputable def S_spec_meUp : FS := { pm := [.dat 0, .dat 0], rm := [.dat 0], f := F_spec_meUp }
theorem M_spec_meUp : Meets gl0 Tryd.prog 121 S_spec_meUp := meets_of (P := Tryd.prog) (c := c_spec_meUp) (fn := Tryd.f121) (pm := S_spec_meUp.pm) (rm := S_spec_meUp.rm) (by kernel_rfl) (lookCons M_spec_l1Most lookNil) follows_mixed Tryd.func121 (by kernel_rfl) (by kernel_rfl) rfl
/-- loop.example/g01054/spec.AfterDross -/
@[reducible] noncomputable def c_spec_AfterDross : Cx := { K := [.dat 0, .dat 0, .box 3 0 false, .no, .box 3 0 false, .dat 0, .dat 0, .box 3 0 false, .dat 0, .dat 0, .dat 0, .dat 0, .dat 0, .dat 0, .dat 0, .dat 0, .dat 0, .ref 2, .dat 0, .ref 2, .dat 0, .dat 0, .dat 0, .dat 0, .dat 0, .ref 2, .dat 0, .ref 2, .dat 0, .dat 0, .dat 0, .dat 0, .dat 0, .ref 2, .dat 0, .ref 2, .dat 0, .dat 0, .dat 0, .dat 0, .dat 0, .dat 0, .dat 0, .dat 0, .dat 0, .dat 0, .dat 0, .dat 0], T := [(3, ty3), (51, ty51)], S := [(97, S_spec_l1In), (112, S_spec_meGood), (114, S_spec_meGrams), (121, S_spec_meUp)], H := [], res := [.cell 4 51, .tmp 5, .tmp 6], ios := [], G := gl0 }
noncomputable def F_spec_AfterDross : List D → Option Out := denF c_spec_AfterDross Tryd.f41
@[reducible] noncomputable def S_spec_AfterDross : FS := { pm := [.dat 0, .dat 0], rm := [.dat 0, .dat 0, .dat 0], f := F_spec_AfterDross }
theorem M_spec_AfterDross : Meets gl0 Tryd.prog 41 S_spec_AfterDross := meets_of (P := Tryd.prog) (c := c_spec_AfterDross) (fn := Tryd.f41) (pm := S_spec_AfterDross.pm) (rm := S_spec_AfterDross.rm) (by kernel_rfl) (lookCons M_spec_l1In (lookCons M_spec_meGood (lookCons M_spec_meGrams (lookCons M_spec_meUp lookNil)))) follows_mixed Tryd.func41 (by kernel_rfl) (by kernel_rfl) rfl
/-- loop.example/g01054/spec.DrawJoinMelts -/
@[reducible] noncomputable def c_spec_DrawJoinMelts : Cx := { K := [.dat 2, .no, .own 3 0 false, .ref 8, .own 3 0 false, .dat 0, .dat 2, .dat 2, .box 3 2 false, .ref 8, .dat 0, .ref 8, .dat 0, .ref 8, .dat 0, .dat 0, .via 4, .dat 0, .dat 0, .dat 0, .own 3 0 false, .ref 8, .dat 0, .dat 1, .own 3 0 false, .dat 0, .dat 0, .dat 0, .ref 8, .dat 0, .dat 0, .via 4, .ref 8, .dat 0, .dat 0, .ref 8, .dat 0, .ref 4, .own 3 0 false], T := [(3, ty3), (22, ty22), (51, ty51), (59, ty59), (108, ty108), (110, ty110)], S := [(99, S_spec_l1Cur_pick), (111, S_spec_l1Cur_anyMelt), (113, S_spec_l1Cur_one), (123, S_spec_l1Cur_melt)], H := [(0, ([3, 4, 5, 8], [3, 4, 5, 8]))], res := [.tmp 2], ios := [], G := gl0 }
noncomputable def F_spec_DrawJoinMelts : List D → Option Out := denF c_spec_DrawJoinMelts Tryd.f43
@[reducible] noncomputable def S_spec_DrawJoinMelts : FS := { pm := [.dat 2], rm := [.own 3 0 false], f := F_spec_DrawJoinMelts }
theorem M_spec_DrawJoinMelts : Meets gl0 Tryd.prog 43 S_spec_DrawJoinMelts := meets_of (P := Tryd.prog) (c := c_spec_DrawJoinMelts) (fn := Tryd.f43) (pm := S_spec_DrawJoinMelts.pm) (rm := S_spec_DrawJoinMelts.rm) (by kernel_rfl) (lookCons M_spec_l1Cur_pick (lookCons M_spec_l1Cur_anyMelt (lookCons M_spec_l1Cur_one (lookCons M_spec_l1Cur_melt lookNil)))) follows_mixed Tryd.func43 (by kernel_rfl) (by kernel_rfl) rfl
/-- loop.example/g01054/spec.meJoin -/
@[reducible] noncomputable def c_spec_meJoin : Cx := { K := [.dat 0, .dat 0, .box 3 0 false, .box 3 0 false, .box 3 0 false, .ref 2, .dat 0, .ref 3, .dat 0, .dat 0, .ref 2, .dat 0, .ref 3, .dat 0, .dat 0, .ref 2, .dat 0, .ref 3, .dat 0, .dat 0, .dat 0], T := [(3, ty3), (51, ty51)], S := [], H := [], res := [.cell 4 51], ios := [], G := gl0 }
noncomputable def F_spec_meJoin : List D → Option Out := denF c_spec_meJoin Tryd.f124
@[reducible] noncomputable def S_spec_meJoin : FS := { pm := [.dat 0, .dat 0], rm := [.dat 0], f := F_spec_meJoin }
theorem M_spec_meJoin : Meets gl0 Tryd.prog 124 S_spec_meJoin := meets_of (P := Tryd.prog) (c := c_spec_meJoin) (fn := Tryd.f124) (pm := S_spec_meJoin.pm) (rm := S_spec_meJoin.rm) (by kernel_rfl) lookNil follows_mixed Tryd.func124 (by kernel_rfl) (by kernel_rfl) rfl
/-- loop.example/g01054/spec.meIf -/
@[reducible] noncomputable def c_spec_meIf : Cx := { K := [.dat 0, .box 3 0 false, .box 3 0 false, .dat 0, .dat 0, .dat 0, .dat 0, .dat 0, .dat 0], T := [(3, ty3), (51, ty51)], S := [(112, S_spec_meGood)], H := [], res := [.cell 2 51, .tmp 3], ios := [], G := gl0 }
noncomputable def F_spec_meIf : List D → Option Out := denF c_spec_meIf Tryd.f125
@[reducible] noncomputable def S_spec_meIf : FS := { pm := [.dat 0], rm := [.dat 0, .dat 0], f := F_spec_meIf }
theorem M_spec_meIf : Meets gl0 Tryd.prog 125 S_spec_meIf := meets_of (P := Tryd.prog) (c := c_spec_meIf) (fn := Tryd.f125) (pm := S_spec_meIf.pm) (rm := S_spec_meIf.rm) (by kernel_rfl) (lookCons M_spec_meGood lookNil) follows_mixed Tryd.func125 (by kernel_rfl) (by kernel_rfl) rfl
/-- loop.example/g01054/spec.JoinMelts -/
@[reducible] noncomputable def c_spec_JoinMelts : Cx := { K := [.dat 2, .no, .box 3 0 false, .dat 0, .box 3 0 false, .no, .box 3 0 false, .dat 2, .dat 0, .dat 0, .dat 0, .dat 2, .dat 0, .dat 0, .dat 0, .dat 2, .dat 0, .dat 0, .dat 0, .dat 0, .dat 0, .dat 0, .dat 0, .dat 0, .dat 0, .dat 0, .tup [.dat 0, .dat 0], .dat 0, .dat 0], T := [(3, ty3), (51, ty51), (59, ty59)], S := [(112, S_spec_meGood), (124, S_spec_meJoin), (125, S_spec_meIf)], H := [(0, ([2, 4, 11, 12, 13], [2, 4]))], res := [.cell 2 51, .tmp 3], ios := [], G := gl0 }
noncomputable def F_spec_JoinMelts : List D → Option Out := denF c_spec_JoinMelts Tryd.f44
@[reducible] noncomputable def S_spec_JoinMelts : FS := { pm := [.dat 2], rm := [.dat 0, .dat 0], f := F_spec_JoinMelts }
theorem M_spec_JoinMelts : Meets gl0 Tryd.prog 44 S_spec_JoinMelts := meets_of (P := Tryd.prog) (c := c_spec_JoinMelts) (fn := Tryd.f44) (pm := S_spec_JoinMelts.pm) (rm := S_spec_JoinMelts.rm) (by kernel_rfl) (lookCons M_spec_meGood (lookCons M_spec_meJoin (lookCons M_spec_meIf lookNil))) follows_mixed Tryd.func44 (by kernel_rfl) (by kernel_rfl) rfl
/-- loop.example/g01054/impl.meltText -/
@[reducible] noncomputable def c_impl_meltText : Cx := { K := [.dat 0, .box 3 0 false, .dat 0, .ref 1, .dat 0, .ref 1, .dat 0, .ref 1, .dat 0, .dat 1, .dat 0], T := [(3, ty3), (28, ty28), (51, ty51)], S := [(103, S_impl_join)], H := [], res := [.tmp 2], ios := [], G := gl1 }
noncomputable def F_impl_meltText : List D → Option Out := denF c_impl_meltText Tryd.f126
@[reducible] noncomputable def S_impl_meltText : FS := { pm := [.dat 0], rm := [.dat 0], f := F_impl_meltText }
theorem M_impl_meltText : Meets gl1 Tryd.prog 126 S_impl_meltText := meets_of (P := Tryd.prog) (c := c_impl_meltText) (fn := Tryd.f126) (pm := S_impl_meltText.pm) (rm := S_impl_meltText.rm) (by kernel_rfl) (lookCons M_impl_join lookNil) follows_mixed Tryd.func126 (by kernel_rfl) (by kernel_rfl) rfl
/-- loop.example/g01054/impl.MeltText -/
@[reducible] noncomputable def c_impl_MeltText : Cx := { K := [.dat 0, .box 3 0 false, .dat 0, .dat 0, .dat 0, .dat 0, .dat 0, .dat 0, .dat 0], T := [(3, ty3), (51, ty51)], S := [(42, S_impl_IsMelt), (126, S_impl_meltText)], H := [], res := [.tmp 2, .tmp 3], ios := [], G := gl1 }
noncomputable def F_impl_MeltText : List D → Option Out := denF c_impl_MeltText Tryd.f45
@[reducible] noncomputable def S_impl_MeltText : FS := { pm := [.dat 0], rm := [.dat 0, .dat 0], f := F_impl_MeltText }
theorem M_impl_MeltText : Meets gl1 Tryd.prog 45 S_impl_MeltText := meets_of (P := Tryd.prog) (c := c_impl_MeltText) (fn := Tryd.f45) (pm := S_impl_MeltText.pm) (rm := S_impl_MeltText.rm) (by kernel_rfl) (lookCons (meets_mono gl01 M_impl_IsMelt) (lookCons M_impl_meltText lookNil)) follows_mixed Tryd.func45 (by kernel_rfl) (by kernel_rfl) rfl
/-- loop.example/g01054/spec.meText -/
@[reducible] noncomputable def c_spec_meText : Cx := { K := [.dat 0, .box 3 0 false, .dat 0, .ref 1, .dat 0, .dat 0, .dat 0, .ref 1, .dat 0, .dat 0, .dat 0, .dat 0, .ref 1, .dat 0, .dat 0, .dat 0], T := [(3, ty3), (9, ty9), (51, ty51)], S := [(155, S_spec_l1Num)], H := [], res := [.tmp 2], ios := [], G := gl0 }
noncomputable def F_spec_meText : List D → Option Out := denF c_spec_meText Tryd.f127
@[reducible] noncomputable def S_spec_meText : FS := { pm := [.dat 0], rm := [.dat 0], f := F_spec_meText }
theorem M_spec_meText : Meets gl0 Tryd.prog 127 S_spec_meText := meets_of (P := Tryd.prog) (c := c_spec_meText) (fn := Tryd.f127) (pm := S_spec_meText.pm) (rm := S_spec_meText.rm) (by kernel_rfl) (lookCons M_spec_l1Num lookNil) follows_mixed Tryd.func127 (by kernel_rfl) (by kernel_rfl) rfl
/-- loop.example/g01054/spec.MeltText -/
@[reducible] noncomputable def c_spec_MeltText : Cx := { K := [.dat 0, .box 3 0 false, .dat 0, .dat 0, .dat 0, .dat 0, .dat 0, .dat 0, .dat 0], T := [(3, ty3), (51, ty51)], S := [(112, S_spec_meGood), (127, S_spec_meText)], H := [], res := [.tmp 2, .tmp 3], ios := [], G := gl0 }
noncomputable def F_spec_MeltText : List D → Option Out := denF c_spec_MeltText Tryd.f46
@[reducible] noncomputable def S_spec_MeltText : FS := { pm := [.dat 0], rm := [.dat 0, .dat 0], f := F_spec_MeltText }
theorem M_spec_MeltText : Meets gl0 Tryd.prog 46 S_spec_MeltText := meets_of (P := Tryd.prog) (c := c_spec_MeltText) (fn := Tryd.f46) (pm := S_spec_MeltText.pm) (rm := S_spec_MeltText.rm) (by kernel_rfl) (lookCons M_spec_meGood (lookCons M_spec_meText lookNil)) follows_mixed Tryd.func46 (by kernel_rfl) (by kernel_rfl) rfl
/-- loop.example/g01054/spec.DrawParseMelt -/
@[reducible] noncomputable def c_spec_DrawParseMelt : Cx := { K := [.dat 2, .no, .dat 0, .ref 7, .dat 0, .dat 2, .dat 2, .box 3 2 false, .ref 7, .dat 0, .dat 0, .ref 7, .dat 0, .dat 0, .dat 0, .ref 7, .dat 0, .dat 0, .dat 0, .dat 0, .ref 7, .dat 1, .dat 0, .dat 0], T := [(3, ty3), (9, ty9), (22, ty22), (93, ty93), (108, ty108), (110, ty110)], S := [(99, S_spec_l1Cur_pick), (106, S_spec_l1Cur_spoilt), (107, S_spec_l1Cur_of), (123, S_spec_l1Cur_melt), (127, S_spec_meText)], H := [], res := [.tmp 2], ios := [], G := gl0 }
noncomputable def F_spec_DrawParseMelt : List D → Option Out := denF c_spec_DrawParseMelt Tryd.f47
@[reducible] noncomputable def S_spec_DrawParseMelt : FS := { pm := [.dat 2], rm := [.dat 0], f := F_spec_DrawParseMelt }
theorem M_spec_DrawParseMelt : Meets gl0 Tryd.prog 47 S_spec_DrawParseMelt := meets_of (P := Tryd.prog) (c := c_spec_DrawParseMelt) (fn := Tryd.f47) (pm := S_spec_DrawParseMelt.pm) (rm := S_spec_DrawParseMelt.rm) (by kernel_rfl) (lookCons M_spec_l1Cur_pick (lookCons M_spec_l1Cur_spoilt (lookCons M_spec_l1Cur_of (lookCons M_spec_l1Cur_melt (lookCons M_spec_meText lookNil))))) follows_mixed Tryd.func47 (by kernel_rfl) (by kernel_rfl) rfl
/-- loop.example/g01054/impl.ParseMelt -/
@[reducible] noncomputable def c_impl_ParseMelt : Cx := { K := [.dat 0, .no, .box 3 0 false, .dat 0, .dat 1, .box 3 0 false, .dat 0, .dat 1, .dat 1, .dat 0, .dat 0, .dat 0, .dat 1, .dat 1, .dat 0, .dat 1, .dat 1, .dat 0, .dat 1, .dat 1, .dat 0, .dat 0, .dat 0, .dat 0, .dat 0, .dat 0, .dat 0, .dat 0, .dat 0, .dat 0, .dat 0, .dat 0, .dat 0], T := [(3, ty3), (9, ty9), (28, ty28), (51, ty51)], S := [(42, S_impl_IsMelt), (108, S_impl_numbersIn), (126, S_impl_meltText)], H := [], res := [.cell 2 51, .tmp 3], ios := [], G := gl2 }
noncomputable def F_impl_ParseMelt : List D → Option Out := denF c_impl_ParseMelt Tryd.f48
@[reducible] noncomputable def S_impl_ParseMelt : FS := { pm := [.dat 0], rm := [.dat 0, .dat 0], f := F_impl_ParseMelt }
theorem M_impl_ParseMelt : Meets gl2 Tryd.prog 48 S_impl_ParseMelt := meets_of (P := Tryd.prog) (c := c_impl_ParseMelt) (fn := Tryd.f48) (pm := S_impl_ParseMelt.pm) (rm := S_impl_ParseMelt.rm) (by kernel_rfl) (lookCons (meets_mono gl02 M_impl_IsMelt) (lookCons M_impl_numbersIn (lookCons (meets_mono gl12 M_impl_meltText) lookNil))) follows_mixed Tryd.func48 (by kernel_rfl) (by kernel_rfl) rfl
/-- loop.example/g01054/spec.meRead -/
@[reducible] noncomputable def c_spec_meRead : Cx := { K := [.dat 0, .no, .dat 0, .dat 0, .dat 0, .dat 0, .dat 0, .dat 0, .dat 0, .dat 0, .dat 0, .dat 0, .dat 0, .dat 0, .dat 0, .dat 0, .dat 0, .dat 0, .dat 0, .dat 0, .dat 0, .dat 0, .dat 0, .dat 0, .dat 0, .dat 0, .dat 0, .dat 0, .dat 0, .dat 0, .dat 0, .dat 0, .dat 0, .dat 0, .dat 0, .dat 0, .dat 0, .dat 0, .dat 0, .dat 0, .dat 0, .dat 0, .dat 0, .dat 0], T := [(3, ty3), (5, ty5), (9, ty9)], S := [(97, S_spec_l1In)], H := [(0, ([0, 3, 4], [3]))], res := [.tmp 2], ios := [], G := gl0 }
noncomputable def F_spec_meRead : List D → Option Out := denF c_spec_meRead Tryd.f128
@[reducible] noncomputable def S_spec_meRead : FS := { pm := [.dat 0], rm := [.dat 0], f := F_spec_meRead }
theorem M_spec_meRead : Meets gl0 Tryd.prog 128 S_spec_meRead := meets_of (P := Tryd.prog) (c := c_spec_meRead) (fn := Tryd.f128) (pm := S_spec_meRead.pm) (rm := S_spec_meRead.rm) (by kernel_rfl) (lookCons M_spec_l1In lookNil) follows_mixed Tryd.func128 (by kernel_rfl) (by kernel_rfl) rfl
/-- loop.example/g01054/spec.ParseMelt -/
@[reducible] noncomputable def c_spec_ParseMelt : Cx := { K := [.dat 0, .no, .box 3 0 false, .dat 0, .dat 1, .dat 0, .dat 1, .dat 1, .dat 0, .dat 0, .dat 0, .dat 1, .dat 1, .dat 0, .dat 0, .dat 1, .dat 1, .dat 0, .dat 0, .dat 1, .dat 1, .dat 0, .dat 0, .dat 0, .tup [.dat 0, .dat 0], .dat 0, .dat 0], T := [(3, ty3), (9, ty9), (51, ty51), (93, ty93)], S := [(109, S_spec_l1Split), (125, S_spec_meIf), (128, S_spec_meRead)], H := [], res := [.cell 2 51, .tmp 3], ios := [], G := gl0 }
noncomputable def F_spec_ParseMelt : List D → Option Out := denF c_spec_ParseMelt Tryd.f49
@[reducible] noncomputable def S_spec_ParseMelt : FS := { pm := [.dat 0], rm := [.dat 0, .dat 0], f := F_spec_ParseMelt }
theorem M_spec_ParseMelt : Meets gl0 Tryd.prog 49 S_spec_ParseMelt := meets_of (P := Tryd.prog) (c := c_spec_ParseMelt) (fn := Tryd.f49) (pm := S_spec_ParseMelt.pm) (rm := S_spec_ParseMelt.rm) (by kernel_rfl) (lookCons M_spec_l1Split (lookCons M_spec_meIf (lookCons M_spec_meRead lookNil))) follows_mixed Tryd.func49 (by kernel_rfl) (by kernel_rfl) rfl
/-- loop.example/g01054/laws.FnMelts -/
@[reducible] noncomputable def c_laws_FnMelts : Cx := { K := [.dat 2, .dat 2, .no, .no, .dat 0, .box 3 0 false, .dat 0, .box 3 0 false, .box 3 0 false, .dat 0, .box 3 0 false, .box 3 0 false, .dat 0, .dat 0, .dat 0, .box 3 0 false, .dat 0, .box 3 0 false, .dat 1, .dat 0, .dat 1, .dat 0, .box 3 0 false, .dat 0, .box 3 0 false, .dat 0, .dat 0, .box 3 0 false, .dat 0, .dat 0, .dat 0, .dat 0, .dat 0, .dat 0, .dat 1, .box 3 0 false, .dat 0, .box 3 0 false, .dat 0, .dat 0, .dat 0, .dat 0, .dat 0, .dat 0, .box 3 0 false, .dat 0, .box 3 0 false, .dat 0, .box 3 0 false, .dat 0, .dat 2, .dat 2, .dat 0, .tup [.dat 0, .dat 0], .dat 2, .tup [.dat 0, .dat 0], .dat 0, .dat 0, .tup [.dat 0, .dat 0, .dat 0], .dat 0, .dat 0, .tup [.dat 0, .dat 0, .dat 0], .dat 0, .dat 0, .dat 0, .tup [.dat 0, .dat 0, .dat 0], .dat 0, .dat 0, .tup [.dat 0, .dat 0, .dat 0], .dat 0, .dat 0, .dat 0, .dat 0, .dat 0, .dat 0, .dat 0, .dat 0, .dat 0, .dat 0, .dat 0, .dat 0, .dat 0, .dat 0, .dat 0, .dat 0, .dat 0, .tup [.dat 0, .dat 0], .dat 0, .tup [.dat 0, .dat 0], .dat 0, .dat 0, .tup [.dat 0, .dat 0], .dat 0, .dat 0, .dat 1, .tup [.dat 0, .dat 0], .dat 0, .dat 0, .dat 0, .dat 0, .dat 0, .dat 0, .dat 0, .dat 0, .dat 0, .dat 0, .dat 0, .dat 0, .dat 0, .dat 0, .dat 0, .dat 0, .dat 0, .dat 0, .dat 2, .dat 0, .tup [.own 1 0 false, .dat 0], .dat 0, .tup [.own 1 0 false, .dat 0], .dat 1, .dat 0, .tup [.own 1 0 false, .dat 0], .dat 0, .tup [.own 1 0 false, .dat 0], .dat 1, .dat 0, .dat 0, .dat 0, .dat 0, .dat 0, .dat 1, .dat 1, .dat 0, .dat 0, .dat 0, .dat 0, .dat 0, .dat 0, .dat 1, .dat 0, .dat 0, .dat 0, .dat 1, .dat 0, .dat 0, .dat 0, .dat 0, .dat 1, .dat 0, .dat 0, .dat 0, .dat 0, .dat 0, .tup [.dat 0, .dat 0], .dat 2, .tup [.dat 0, .dat 0], .dat 0, .dat 0, .tup [.dat 0, .dat 0, .dat 0], .dat 0, .dat 0, .tup [.dat 0, .dat 0, .dat 0], .dat 0, .dat 0, .dat 0, .tup [.dat 0, .dat 0, .dat 0], .dat 0, .dat 0, .tup [.dat 0, .dat 0, .dat 0], .dat 0, .dat 0, .dat 0, .dat 0, .dat 0, .dat 0, .dat 0, .dat 0, .dat 0, .dat 0, .dat 0, .dat 0, .dat 0, .dat 0, .dat 0, .dat 0, .dat 0, .tup [.dat 0, .dat 0], .dat 0, .tup [.dat 0, .dat 0], .dat 0, .dat 0, .tup [.dat 0, .dat 0], .dat 0, .tup [.dat 0, .dat 0], .dat 0, .dat 0, .dat 0, .dat 0, .dat 0, .dat 0, .dat 0, .dat 0, .dat 0, .dat 0, .dat 0, .dat 0, .dat 0, .dat 0, .dat 0, .dat 0, .dat 0, .dat 0, .dat 0, .dat 0, .dat 0, .dat 0, .dat 0, .dat 0, .dat 2, .dat 1, .tup [.dat 0, .dat 0], .dat 1, .tup [.dat 0, .dat 0], .dat 0, .dat 0, .tup [.dat 0, .dat 0], .dat 1, .tup [.dat 0, .dat 0], .dat 0, .dat 0, .tup [.dat 0, .dat 0], .dat 0, .tup [.dat 0, .dat 0], .dat 0, .dat 0, .tup [.dat 0, .dat 0], .dat 0, .tup [.dat 0, .dat 0], .dat 0, .dat 0, .dat 2, .dat 0, .tup [.dat 0, .dat 0], .dat 0, .tup [.dat 0, .dat 0], .dat 0, .dat 0, .tup [.dat 0, .dat 0], .dat 0, .tup [.dat 0, .dat 0], .dat 0, .dat 0, .dat 0, .dat 0, .dat 0, .dat 0, .dat 0, .dat 0, .dat 0, .dat 0, .dat 0, .dat 0, .dat 0, .dat 0, .dat 0, .dat 0, .dat 0, .dat 0, .dat 0, .dat 0, .dat 0, .dat 0, .dat 0, .dat 0, .dat 0, .dat 0, .dat 0, .dat 0, .dat 0, .dat 0, .dat 0, .dat 0, .dat 0, .dat 0, .dat 0, .dat 0, .dat 0, .tup [.dat 0, .dat 0], .dat 0, .tup [.dat 0, .dat 0], .dat 0, .dat 0, .dat 0, .dat 0, .dat 0, .dat 0, .dat 0, .dat 0], T := [(3, ty3), (4, ty4), (9, ty9), (28, ty28), (51, ty51), (59, ty59)], S := [(7, S_laws_big), (13, S_laws_sameInts), (30, S_spec_DrawTakeMelt), (31, S_impl_TakeMelt), (32, S_spec_TakeMelt), (33, S_impl_GramsOf), (34, S_impl_JoinMelts), (35, S_spec_DrawSharesOf), (36, S_impl_SharesOf), (37, S_spec_SharesOf), (38, S_laws_pSum), (39, S_spec_DrawAfterDross), (40, S_impl_AfterDross), (41, S_spec_AfterDross), (42, S_impl_IsMelt), (43, S_spec_DrawJoinMelts), (44, S_spec_JoinMelts), (45, S_impl_MeltText), (46, S_spec_MeltText), (47, S_spec_DrawParseMelt), (48, S_impl_ParseMelt), (49, S_spec_ParseMelt)], H := [], res := [.tmp 4], ios := [], G := gl2 }
@[reducible] def J_laws_FnMelts : List (Nat × List Nat) := [(127, [1, 5]), (65535, [1, 5])]
noncomputable def F_laws_FnMelts : List D → Option Out := denFJ c_laws_FnMelts J_laws_FnMelts Tryd.f4
@[reducible] noncomputable def S_laws_FnMelts : FS := { pm := [.dat 2, .dat 2], rm := [.dat 0], f := F_laws_FnMelts }
theorem M_laws_FnMelts : Meets gl2 Tryd.prog 4 S_laws_FnMelts := meets_ofJ (J := J_laws_FnMelts) (P := Tryd.prog) (c := c_laws_FnMelts) (fn := Tryd.f4) (pm := S_laws_FnMelts.pm) (rm := S_laws_FnMelts.rm) (by kernel_rfl) (lookCons (meets_mono gl02 M_laws_big) (lookCons (meets_mono gl02 M_laws_sameInts) (lookCons (meets_mono gl02 M_spec_DrawTakeMelt) (lookCons (meets_mono gl02 M_impl_TakeMelt) (lookCons (meets_mono gl02 M_spec_TakeMelt) (lookCons (meets_mono gl02 M_impl_GramsOf) (lookCons (meets_mono gl02 M_impl_JoinMelts) (lookCons (meets_mono gl02 M_spec_DrawSharesOf) (lookCons (meets_mono gl02 M_impl_SharesOf) (lookCons (meets_mono gl02 M_spec_SharesOf) (lookCons (meets_mono gl02 M_laws_pSum) (lookCons (meets_mono gl02 M_spec_DrawAfterDross) (lookCons (meets_mono gl02 M_impl_AfterDross) (lookCons (meets_mono gl02 M_spec_AfterDross) (lookCons (meets_mono gl02 M_impl_IsMelt) (lookCons (meets_mono gl02 M_spec_DrawJoinMelts) (lookCons (meets_mono gl02 M_spec_JoinMelts) (lookCons (meets_mono gl12 M_impl_MeltText) (lookCons (meets_mono gl02 M_spec_MeltText) (lookCons (meets_mono gl02 M_spec_DrawParseMelt) (lookCons M_impl_ParseMelt (lookCons (meets_mono gl02 M_spec_ParseMelt) lookNil)))))))))))))))))))))) follows_mixed (by kernel_rfl) Tryd.func4 (by kernel_rfl) (by kernel_rfl) rfl
end Go.Proofs.YtlphibidnkjpdaaDoor
