/-
  What the functions compute: their evaluated texts, printed.
-/
import Derived.Test.YtkhggkbmjdopcaaC1
namespace Go.Proofs.Ytkhggkbmjdopcaa
open Go Go.V
theorem F11_text (x0 : D) : F11 [x0] =
  ((boxD 3 x0).bind fun y =>
    (liveD y (D.ref 0 0)).bind fun z =>
      ((atD y z).bind (takeD false 1)).bind fun z =>
        (liveD (D.agg [D.v (Value.int IntKind.i64 0), D.v (Value.int IntKind.i64 0), D.v (Value.int IntKind.i64 0)])
              (D.ref 0 0)).bind
          fun z_1 =>
          (stD 1 (D.agg [D.v (Value.int IntKind.i64 0), D.v (Value.int IntKind.i64 0), D.v (Value.int IntKind.i64 0)])
                z_1 z).bind
            fun b =>
            (liveD y (D.ref 0 1)).bind fun z =>
              ((atD y z).bind (takeD false 1)).bind fun z =>
                (liveD b (D.ref 0 1)).bind fun z_2 =>
                  (stD 1 b z_2 z).bind fun b =>
                    (liveD y (D.ref 0 2)).bind fun z =>
                      ((atD y z).bind (takeD false 1)).bind fun z =>
                        (liveD b (D.ref 0 2)).bind fun z_3 =>
                          (stD 1 b z_3 z).bind fun b =>
                            (fldD true 3 0 b).bind fun z =>
                              (stD 3
                                    (D.agg
                                      [D.v (Value.int IntKind.i64 0), D.v (Value.int IntKind.i64 0),
                                        D.v (Value.int IntKind.i64 0)])
                                    (D.ref 0 0) z).bind
                                fun b => (fldD true 3 0 b).bind fun y => some (Out.ret [y] [])) := by kernel_rfl
theorem F35_text (x0 x1 x2 : D) : F35 [x0, x1, x2] =
  ((bin BinOp.geq false [] x0 x1).bind fun z =>
    (gate z true (some x0)).bind fun z_1 =>
      (gate z true (some x2)).bind fun z_2 =>
        (gate z true (bin BinOp.leq false [] z_1 z_2)).bind fun z_3 =>
          (pickD z z_3 (D.v (Value.bool false))).bind fun z => some (Out.ret [z] [])) := by kernel_rfl
theorem F36_text (x0 : D) : F36 [x0] =
  ((boxD 3 x0).bind fun y =>
    (liveD y (D.ref 0 0)).bind fun z =>
      ((atD y z).bind (takeD false 1)).bind fun z =>
        callK (F35 [z, D.v (Value.int IntKind.i64 0), D.v (Value.int IntKind.i64 9999)]) fun rs _u =>
          (gate (nth rs 0) true (liveD y (D.ref 0 1))).bind fun z =>
            (gate (nth rs 0) true ((atD y z).bind (takeD false 1))).bind fun z =>
              gateC (nth rs 0) true
                (callK (F35 [z, D.v (Value.int IntKind.i64 0), D.v (Value.int IntKind.i64 3)]) fun rs _u =>
                  some (Out.nrm [nth rs 0]))
                [D.bad] fun outs =>
                (pickD (nth rs 0) (nth outs 0) (D.v (Value.bool false))).bind fun z =>
                  (gate z true (liveD y (D.ref 0 2))).bind fun z_1 =>
                    (gate z true ((atD y z_1).bind (takeD false 1))).bind fun z_2 =>
                      gateC z true
                        (callK (F35 [z_2, D.v (Value.int IntKind.i64 1), D.v (Value.int IntKind.i64 99999)])
                          fun rs _u => some (Out.nrm [nth rs 0]))
                        [D.bad] fun outs =>
                        (pickD z (nth outs 0) (D.v (Value.bool false))).bind fun z => some (Out.ret [z] [])) := by kernel_rfl
theorem F37_text (x0 x1 : D) : F37 [x0, x1] =
  ((boxD 3 x1).bind fun y =>
    (bin BinOp.mul false [] (D.v (Value.int IntKind.i64 31)) x0).bind fun z =>
      (liveD y (D.ref 0 0)).bind fun z_1 =>
        ((atD y z_1).bind (takeD false 1)).bind fun z_2 =>
          (bin BinOp.mul false [] (D.v (Value.int IntKind.i64 17)) z_2).bind fun z_3 =>
            (bin BinOp.add false [] z z_3).bind fun z =>
              (liveD y (D.ref 0 1)).bind fun z_4 =>
                ((atD y z_4).bind (takeD false 1)).bind fun z_5 =>
                  (bin BinOp.mul false [] (D.v (Value.int IntKind.i64 5)) z_5).bind fun z_6 =>
                    (bin BinOp.add false [] z z_6).bind fun z =>
                      (liveD y (D.ref 0 2)).bind fun z_7 =>
                        ((atD y z_7).bind (takeD false 1)).bind fun z_8 =>
                          (bin BinOp.add false [] z z_8).bind fun z =>
                            (bin BinOp.rem false [] z (D.v (Value.int IntKind.i64 9973))).bind fun z =>
                              some (Out.ret [z] [])) := by kernel_rfl
theorem F10_text (x0 x1 : D) : F10 [x0, x1] =
  ((boxD 3 x1).bind fun y =>
    callK (F35 [x0, D.v (Value.int IntKind.i64 0), D.v (Value.int IntKind.i64 9972)]) fun rs _u =>
      (un UnOp.not (nth rs 0)).bind fun z =>
        (gate z false (fldD true 3 0 y)).bind fun z_1 =>
          gateC z false (callK (F36 [z_1]) fun rs _u => some (Out.nrm [nth rs 0])) [D.bad] fun outs =>
            (gate z false (un UnOp.not (nth outs 0))).bind fun z_2 =>
              (pickD z (D.v (Value.bool true)) z_2).bind fun z =>
                ifD z (some (Out.ret [D.v (Value.int IntKind.i64 0), D.v (Value.bool false)] []))
                  ((fldD true 3 0 y).bind fun z =>
                    callK (F37 [x0, z]) fun rs _u => some (Out.ret [nth rs 0, D.v (Value.bool true)] []))) := by kernel_rfl
theorem F38_text (x0 x1 x2 : D) : F38 [x0, x1, x2] =
  ((bin BinOp.geq false [] x0 x1).bind fun z =>
    (gate z true (some x0)).bind fun z_1 =>
      (gate z true (some x2)).bind fun z_2 =>
        (gate z true (bin BinOp.leq false [] z_1 z_2)).bind fun z_3 =>
          (pickD z z_3 (D.v (Value.bool false))).bind fun z => some (Out.ret [z] [])) := by kernel_rfl
theorem F46_text (x0 : D) : F46 [x0] =
  (callK (F38 [x0, D.v (Value.int IntKind.i64 0), D.v (Value.int IntKind.i64 9999)]) fun rs _u =>
    some (Out.ret [nth rs 0] [])) := by kernel_rfl
theorem F39_text (x0 : D) : F39 [x0] =
  ((boxD 3 x0).bind fun y =>
    (liveD y (D.ref 0 0)).bind fun z =>
      ((atD y z).bind (takeD false 1)).bind fun z =>
        callK (F46 [z]) fun rs _u =>
          (gate (nth rs 0) true (liveD y (D.ref 0 1))).bind fun z =>
            (gate (nth rs 0) true ((atD y z).bind (takeD false 1))).bind fun z =>
              gateC (nth rs 0) true
                (callK (F38 [z, D.v (Value.int IntKind.i64 0), D.v (Value.int IntKind.i64 3)]) fun rs _u =>
                  some (Out.nrm [nth rs 0]))
                [D.bad] fun outs =>
                (pickD (nth rs 0) (nth outs 0) (D.v (Value.bool false))).bind fun z =>
                  (gate z true (liveD y (D.ref 0 2))).bind fun z_1 =>
                    (gate z true ((atD y z_1).bind (takeD false 1))).bind fun z_2 =>
                      gateC z true
                        (callK (F38 [z_2, D.v (Value.int IntKind.i64 1), D.v (Value.int IntKind.i64 99999)])
                          fun rs _u => some (Out.nrm [nth rs 0]))
                        [D.bad] fun outs =>
                        (pickD z (nth outs 0) (D.v (Value.bool false))).bind fun z => some (Out.ret [z] [])) := by kernel_rfl
theorem F40_text (x0 x1 : D) : F40 [x0, x1] =
  ((boxD 3 x1).bind fun y =>
    (bin BinOp.mul false [] (D.v (Value.int IntKind.i64 31)) x0).bind fun z =>
      (liveD y (D.ref 0 0)).bind fun z_1 =>
        ((atD y z_1).bind (takeD false 1)).bind fun z_2 =>
          (bin BinOp.mul false [] (D.v (Value.int IntKind.i64 17)) z_2).bind fun z_3 =>
            (bin BinOp.add false [] z z_3).bind fun z =>
              (liveD y (D.ref 0 1)).bind fun z_4 =>
                ((atD y z_4).bind (takeD false 1)).bind fun z_5 =>
                  (bin BinOp.mul false [] (D.v (Value.int IntKind.i64 5)) z_5).bind fun z_6 =>
                    (bin BinOp.add false [] z z_6).bind fun z =>
                      (liveD y (D.ref 0 2)).bind fun z_7 =>
                        ((atD y z_7).bind (takeD false 1)).bind fun z_8 =>
                          (bin BinOp.add false [] z z_8).bind fun z =>
                            (bin BinOp.rem false [] z (D.v (Value.int IntKind.i64 9973))).bind fun z =>
                              some (Out.ret [z] [])) := by kernel_rfl
theorem F12_text (x0 x1 : D) : F12 [x0, x1] =
  ((boxD 3 x1).bind fun y =>
    callK (F38 [x0, D.v (Value.int IntKind.i64 0), D.v (Value.int IntKind.i64 9972)]) fun rs _u =>
      (un UnOp.not (nth rs 0)).bind fun z =>
        (gate z false (fldD true 3 0 y)).bind fun z_1 =>
          gateC z false (callK (F39 [z_1]) fun rs _u => some (Out.nrm [nth rs 0])) [D.bad] fun outs =>
            (gate z false (un UnOp.not (nth outs 0))).bind fun z_2 =>
              (pickD z (D.v (Value.bool true)) z_2).bind fun z =>
                ifD z (some (Out.ret [D.v (Value.int IntKind.i64 0), D.v (Value.bool false)] []))
                  ((fldD true 3 0 y).bind fun z =>
                    callK (F40 [x0, z]) fun rs _u => some (Out.ret [nth rs 0, D.v (Value.bool true)] []))) := by kernel_rfl
theorem F3_text (x0 x1 : D) : F3 [x0, x1] =
  ((boxD 3 x1).bind fun y =>
    (fldD true 3 0 y).bind fun z =>
      callK (F11 [z]) fun rs _u =>
        callK (F10 [x0, nth rs 0]) fun rs _u =>
          (tupAt (D.tup rs) 0).bind fun z =>
            (tupAt (D.tup rs) 1).bind fun z_1 =>
              (fldD true 3 0 y).bind fun z_2 =>
                callK (F11 [z_2]) fun rs _u =>
                  callK (F12 [x0, nth rs 0]) fun rs _u =>
                    (tupAt (D.tup rs) 0).bind fun z_3 =>
                      (tupAt (D.tup rs) 1).bind fun z_4 =>
                        (bin BinOp.neq false [] z_3 z).bind fun z =>
                          (gate z false (some z_4)).bind fun z_5 =>
                            (gate z false (some z_1)).bind fun z_6 =>
                              (gate z false (bin BinOp.neq true [] z_5 z_6)).bind fun z_7 =>
                                (pickD z (D.v (Value.bool true)) z_7).bind fun z =>
                                  ifD z (some (Out.ret [D.v (Value.bool false)] []))
                                    (some (Out.ret [D.v (Value.bool true)] []))) := by kernel_rfl
end Go.Proofs.Ytkhggkbmjdopcaa
