/-
  What the functions compute: their evaluated texts, printed.
-/
import Derived.Test.YtkhggkbmjdopcaaC1
namespace Go.Proofs.Ytkhggkbmjdopcaa
open Go Go.V
theorem t_laws_toNote (x0 : D) : F_laws_toNote [x0] =
  ((boxD 3 x0).bind fun y =>
    (liveD y (D.ref 0 0)).bind fun z =>
      ((atD y z).bind (takeD false 1)).bind fun z =>
        (liveD (D.agg [D.v (Value.int IntKind.i64 0), D.v (Value.int IntKind.i64 0), D.v (Value.int IntKind.i64 0)])
              (D.ref 0 0)).bind
          fun z_1 =>
          (stD 1 (D.agg [D.v (Value.int IntKind.i64 0), D.v (Value.int IntKind.i64 0), D.v (Value.int IntKind.i64 0)])
                z_1 z).bind
            fun b =>
            (liveD y (D.ref 0 1)).bind fun z =>
              ((atD y z).bind (takeD false 1)).bind fun z =>
                (liveD b (D.ref 0 1)).bind fun z_2 =>
                  (stD 1 b z_2 z).bind fun b =>
                    (liveD y (D.ref 0 2)).bind fun z =>
                      ((atD y z).bind (takeD false 1)).bind fun z =>
                        (liveD b (D.ref 0 2)).bind fun z_3 =>
                          (stD 1 b z_3 z).bind fun b =>
                            (fldD true 3 0 b).bind fun z =>
                              (stD 3
                                    (D.agg
                                      [D.v (Value.int IntKind.i64 0), D.v (Value.int IntKind.i64 0),
                                        D.v (Value.int IntKind.i64 0)])
                                    (D.ref 0 0) z).bind
                                fun b => (fldD true 3 0 b).bind fun y => some (Out.ret [y] [])) := by kernel_rfl
theorem t_spec_l1In (x0 x1 x2 : D) : F_spec_l1In [x0, x1, x2] =
  ((bin BinOp.geq false [] x0 x1).bind fun z =>
    (gate (D.tup []) z true (some x0)).bind fun z_1 =>
      (gate (D.tup []) z true (some x2)).bind fun z_2 =>
        (gate (D.tup []) z true (bin BinOp.leq false [] z_1 z_2)).bind fun z_3 =>
          (pickD z z_3 (D.v (Value.bool false))).bind fun z => some (Out.ret [z] [])) := by kernel_rfl
theorem t_spec_joNote (x0 : D) : F_spec_joNote [x0] =
  ((boxD 3 x0).bind fun y =>
    (liveD y (D.ref 0 0)).bind fun z =>
      ((atD y z).bind (takeD false 1)).bind fun z =>
        callK (F_spec_l1In [z, D.v (Value.int IntKind.i64 0), D.v (Value.int IntKind.i64 9999)]) fun rs _u =>
          (gate D.bad (sl rs 0) true (liveD y (D.ref 0 1))).bind fun z =>
            (gate (D.tup []) (sl rs 0) true ((atD y z).bind (takeD false 1))).bind fun z =>
              gateC (sl rs 0) true
                (callK (F_spec_l1In [z, D.v (Value.int IntKind.i64 0), D.v (Value.int IntKind.i64 3)]) fun rs _u =>
                  some (Out.nrm [sl rs 0]))
                [D.tup []] fun outs =>
                (pickD (sl rs 0) (sl outs 0) (D.v (Value.bool false))).bind fun z =>
                  (gate D.bad z true (liveD y (D.ref 0 2))).bind fun z_1 =>
                    (gate (D.tup []) z true ((atD y z_1).bind (takeD false 1))).bind fun z_2 =>
                      gateC z true
                        (callK (F_spec_l1In [z_2, D.v (Value.int IntKind.i64 1), D.v (Value.int IntKind.i64 99999)])
                          fun rs _u => some (Out.nrm [sl rs 0]))
                        [D.tup []] fun outs =>
                        (pickD z (sl outs 0) (D.v (Value.bool false))).bind fun z => some (Out.ret [z] [])) := by kernel_rfl
theorem t_spec_joCheck (x0 x1 : D) : F_spec_joCheck [x0, x1] =
  ((boxD 3 x1).bind fun y =>
    (bin BinOp.mul false [] (D.v (Value.int IntKind.i64 31)) x0).bind fun z =>
      (liveD y (D.ref 0 0)).bind fun z_1 =>
        ((atD y z_1).bind (takeD false 1)).bind fun z_2 =>
          (bin BinOp.mul false [] (D.v (Value.int IntKind.i64 17)) z_2).bind fun z_3 =>
            (bin BinOp.add false [] z z_3).bind fun z =>
              (liveD y (D.ref 0 1)).bind fun z_4 =>
                ((atD y z_4).bind (takeD false 1)).bind fun z_5 =>
                  (bin BinOp.mul false [] (D.v (Value.int IntKind.i64 5)) z_5).bind fun z_6 =>
                    (bin BinOp.add false [] z z_6).bind fun z =>
                      (liveD y (D.ref 0 2)).bind fun z_7 =>
                        ((atD y z_7).bind (takeD false 1)).bind fun z_8 =>
                          (bin BinOp.add false [] z z_8).bind fun z =>
                            (bin BinOp.rem false [] z (D.v (Value.int IntKind.i64 9973))).bind fun z =>
                              some (Out.ret [z] [])) := by kernel_rfl
theorem t_spec_NoteCheck (x0 x1 : D) : F_spec_NoteCheck [x0, x1] =
  ((boxD 3 x1).bind fun y =>
    callK (F_spec_l1In [x0, D.v (Value.int IntKind.i64 0), D.v (Value.int IntKind.i64 9972)]) fun rs _u =>
      (un UnOp.not (sl rs 0)).bind fun z =>
        (gate (D.tup []) z false (fldD true 3 0 y)).bind fun z_1 =>
          gateC z false (callK (F_spec_joNote [z_1]) fun rs _u => some (Out.nrm [sl rs 0])) [D.tup []] fun outs =>
            (gate (D.tup []) z false (un UnOp.not (sl outs 0))).bind fun z_2 =>
              (pickD z (D.v (Value.bool true)) z_2).bind fun z =>
                ifD z (some (Out.ret [D.v (Value.int IntKind.i64 0), D.v (Value.bool false)] []))
                  ((fldD true 3 0 y).bind fun z =>
                    callK (F_spec_joCheck [x0, z]) fun rs _u => some (Out.ret [sl rs 0, D.v (Value.bool true)] []))) := by kernel_rfl
theorem t_impl_within (x0 x1 x2 : D) : F_impl_within [x0, x1, x2] =
  ((bin BinOp.geq false [] x0 x1).bind fun z =>
    (gate (D.tup []) z true (some x0)).bind fun z_1 =>
      (gate (D.tup []) z true (some x2)).bind fun z_2 =>
        (gate (D.tup []) z true (bin BinOp.leq false [] z_1 z_2)).bind fun z_3 =>
          (pickD z z_3 (D.v (Value.bool false))).bind fun z => some (Out.ret [z] [])) := by kernel_rfl
theorem t_impl_isNoteDay (x0 : D) : F_impl_isNoteDay [x0] =
  (callK (F_impl_within [x0, D.v (Value.int IntKind.i64 0), D.v (Value.int IntKind.i64 9999)]) fun rs _u =>
    some (Out.ret [sl rs 0] [])) := by kernel_rfl
theorem t_impl_isNote (x0 : D) : F_impl_isNote [x0] =
  ((boxD 3 x0).bind fun y =>
    (liveD y (D.ref 0 0)).bind fun z =>
      ((atD y z).bind (takeD false 1)).bind fun z =>
        callK (F_impl_isNoteDay [z]) fun rs _u =>
          (gate D.bad (sl rs 0) true (liveD y (D.ref 0 1))).bind fun z =>
            (gate (D.tup []) (sl rs 0) true ((atD y z).bind (takeD false 1))).bind fun z =>
              gateC (sl rs 0) true
                (callK (F_impl_within [z, D.v (Value.int IntKind.i64 0), D.v (Value.int IntKind.i64 3)]) fun rs _u =>
                  some (Out.nrm [sl rs 0]))
                [D.tup []] fun outs =>
                (pickD (sl rs 0) (sl outs 0) (D.v (Value.bool false))).bind fun z =>
                  (gate D.bad z true (liveD y (D.ref 0 2))).bind fun z_1 =>
                    (gate (D.tup []) z true ((atD y z_1).bind (takeD false 1))).bind fun z_2 =>
                      gateC z true
                        (callK (F_impl_within [z_2, D.v (Value.int IntKind.i64 1), D.v (Value.int IntKind.i64 99999)])
                          fun rs _u => some (Out.nrm [sl rs 0]))
                        [D.tup []] fun outs =>
                        (pickD z (sl outs 0) (D.v (Value.bool false))).bind fun z => some (Out.ret [z] [])) := by kernel_rfl
theorem t_impl_check (x0 x1 : D) : F_impl_check [x0, x1] =
  ((boxD 3 x1).bind fun y =>
    (bin BinOp.mul false [] (D.v (Value.int IntKind.i64 31)) x0).bind fun z =>
      (liveD y (D.ref 0 0)).bind fun z_1 =>
        ((atD y z_1).bind (takeD false 1)).bind fun z_2 =>
          (bin BinOp.mul false [] (D.v (Value.int IntKind.i64 17)) z_2).bind fun z_3 =>
            (bin BinOp.add false [] z z_3).bind fun z =>
              (liveD y (D.ref 0 1)).bind fun z_4 =>
                ((atD y z_4).bind (takeD false 1)).bind fun z_5 =>
                  (bin BinOp.mul false [] (D.v (Value.int IntKind.i64 5)) z_5).bind fun z_6 =>
                    (bin BinOp.add false [] z z_6).bind fun z =>
                      (liveD y (D.ref 0 2)).bind fun z_7 =>
                        ((atD y z_7).bind (takeD false 1)).bind fun z_8 =>
                          (bin BinOp.add false [] z z_8).bind fun z =>
                            (bin BinOp.rem false [] z (D.v (Value.int IntKind.i64 9973))).bind fun z =>
                              some (Out.ret [z] [])) := by kernel_rfl
theorem t_impl_NoteCheck (x0 x1 : D) : F_impl_NoteCheck [x0, x1] =
  ((boxD 3 x1).bind fun y =>
    callK (F_impl_within [x0, D.v (Value.int IntKind.i64 0), D.v (Value.int IntKind.i64 9972)]) fun rs _u =>
      (un UnOp.not (sl rs 0)).bind fun z =>
        (gate (D.tup []) z false (fldD true 3 0 y)).bind fun z_1 =>
          gateC z false (callK (F_impl_isNote [z_1]) fun rs _u => some (Out.nrm [sl rs 0])) [D.tup []] fun outs =>
            (gate (D.tup []) z false (un UnOp.not (sl outs 0))).bind fun z_2 =>
              (pickD z (D.v (Value.bool true)) z_2).bind fun z =>
                ifD z (some (Out.ret [D.v (Value.int IntKind.i64 0), D.v (Value.bool false)] []))
                  ((fldD true 3 0 y).bind fun z =>
                    callK (F_impl_check [x0, z]) fun rs _u => some (Out.ret [sl rs 0, D.v (Value.bool true)] []))) := by kernel_rfl
theorem t_laws_FnExactNoteCheck (x0 x1 : D) : F_laws_FnExactNoteCheck [x0, x1] =
  ((boxD 3 x1).bind fun y =>
    (fldD true 3 0 y).bind fun z =>
      callK (F_laws_toNote [z]) fun rs _u =>
        callK (F_spec_NoteCheck [x0, sl rs 0]) fun rs _u =>
          (tupAt (D.tup rs) 0).bind fun z =>
            (tupAt (D.tup rs) 1).bind fun z_1 =>
              (fldD true 3 0 y).bind fun z_2 =>
                callK (F_laws_toNote [z_2]) fun rs _u =>
                  callK (F_impl_NoteCheck [x0, sl rs 0]) fun rs _u =>
                    (tupAt (D.tup rs) 0).bind fun z_3 =>
                      (tupAt (D.tup rs) 1).bind fun z_4 =>
                        (bin BinOp.neq false [] z_3 z).bind fun z =>
                          (gate (D.tup []) z false (some z_4)).bind fun z_5 =>
                            (gate (D.tup []) z false (some z_1)).bind fun z_6 =>
                              (gate (D.tup []) z false (bin BinOp.neq true [] z_5 z_6)).bind fun z_7 =>
                                (pickD z (D.v (Value.bool true)) z_7).bind fun z =>
                                  ifD z (some (Out.ret [D.v (Value.bool false)] []))
                                    (some (Out.ret [D.v (Value.bool true)] []))) := by kernel_rfl
theorem t_laws_szNoteS (x0 x1 : D) : F_laws_szNoteS [x0, x1] =
  ((lenD false x0).bind fun z =>
    (bin BinOp.sub false [] x1 z).bind fun z =>
      (bin BinOp.lss false [] z (D.v (Value.int IntKind.i64 0))).bind fun z_1 =>
        ifD z_1 (some (Out.ret [D.v (Value.int IntKind.i64 (-1))] [])) (some (Out.ret [z] []))) := by kernel_rfl
theorem t_laws_toNoteS (x0 : D) : F_laws_toNoteS [x0] =
  ((lenD false x0).bind fun z =>
    (makD 3 24 (D.agg [D.v (Value.int IntKind.i64 0), D.v (Value.int IntKind.i64 0), D.v (Value.int IntKind.i64 0)]) z
          z).bind
      fun y =>
      (loopC
            (fun s =>
              (lenD false (sl s 0)).bind fun z =>
                (bin BinOp.lss false [] (sl s 2) z).bind fun z =>
                  ifD z
                    ((liveD (sl s 1) (D.ref 0 0)).bind fun z =>
                      (Option.map D.ptr (elemD 3 (sl s 0) (sl s 2))).bind fun z_1 =>
                        ((ldD true 3 z_1).bind chkV).bind fun z_2 =>
                          callK (F_laws_toNote [z_2]) fun rs _u =>
                            ((liveD z (sl s 1)).bind fun b => refI 3 b (sl s 2)).bind fun z =>
                              (stD 3 (sl s 1) z (sl rs 0)).bind fun b =>
                                (bin BinOp.add false [] (sl s 2) (D.v (Value.int IntKind.i64 1))).bind fun z =>
                                  some (Out.nrm [sl s 0, b, z]))
                    (some (Out.ext 0 [sl s 1])))
            [x0, y, D.v (Value.int IntKind.i64 0)]).bind
        fun o =>
        outK o
          (fun i s =>
            match i.beq 0 with
            | true => some (Out.ret [sl s 0] [])
            | false => none)
          fun a b => some (Out.ret a b)) := by kernel_rfl
theorem t_spec_joGood (x0 : D) : F_spec_joGood [x0] =
  ((lenD false x0).bind fun z =>
    (loopC
          (fun s =>
            (bin BinOp.lss false [] (sl s 3) (sl s 2)).bind fun z =>
              ifD z
                ((Option.map D.ptr (elemD 3 (sl s 1) (sl s 3))).bind fun z =>
                  ((ldD true 3 z).bind chkV).bind fun z =>
                    (stD 3
                          (D.agg
                            [D.v (Value.int IntKind.i64 0), D.v (Value.int IntKind.i64 0),
                              D.v (Value.int IntKind.i64 0)])
                          (D.ref 0 0) z).bind
                      fun b =>
                      (fldD true 3 0 b).bind fun z =>
                        callK (F_spec_joNote [z]) fun rs _u =>
                          (un UnOp.not (sl rs 0)).bind fun z =>
                            (gate (D.tup []) z false (some (sl s 3))).bind fun z_1 =>
                              (gate (D.tup []) z false
                                    (bin BinOp.gtr false [] z_1 (D.v (Value.int IntKind.i64 0)))).bind
                                fun z_2 =>
                                (gate (D.tup []) z false (some z_2)).bind fun z_3 =>
                                  (gate (D.tup []) z_3 true (some (sl s 0))).bind fun z_4 =>
                                    (gate (D.tup []) z_3 true (some (sl s 3))).bind fun z_5 =>
                                      (gate (D.tup []) z_3 true
                                            (bin BinOp.sub false [] z_5 (D.v (Value.int IntKind.i64 1)))).bind
                                        fun z_6 =>
                                        (gate (D.tup []) z_3 true (Option.map D.ptr (elemD 3 z_4 z_6))).bind fun z_7 =>
                                          (gate (D.tup []) z_3 true (offD 0 z_7)).bind fun z_8 =>
                                            (gate (D.tup []) z_3 true ((ldD false 1 z_8).bind chkV)).bind fun z_9 =>
                                              (gate D.bad z_3 true (liveD b (D.ref 0 0))).bind fun z_10 =>
                                                (gate (D.tup []) z_3 true ((atD b z_10).bind (takeD false 1))).bind
                                                  fun z_11 =>
                                                  (gate (D.tup []) z_3 true (bin BinOp.gtr false [] z_9 z_11)).bind
                                                    fun z_12 =>
                                                    (gate (D.tup []) z false
                                                          (pickD z_3 z_12 (D.v (Value.bool false)))).bind
                                                      fun z_13 =>
                                                      (pickD z (D.v (Value.bool true)) z_13).bind fun z =>
                                                        ifD z (some (Out.ret [D.v (Value.bool false)] []))
                                                          ((bin BinOp.add false [] (sl s 3)
                                                                (D.v (Value.int IntKind.i64 1))).bind
                                                            fun z => some (Out.nrm [sl s 0, sl s 1, sl s 2, z])))
                (some (Out.ext 0 [sl s 0])))
          [x0, x0, z, D.v (Value.int IntKind.i64 0)]).bind
      fun o =>
      outK o
        (fun i s =>
          match i.beq 0 with
          | true =>
            (lenD false (sl s 0)).bind fun z =>
              (bin BinOp.leq false [] z (D.v (Value.int IntKind.i64 24))).bind fun z => some (Out.ret [z] [])
          | false => none)
        fun a b => some (Out.ret a b)) := by kernel_rfl
theorem t_spec_AreNotes (x0 : D) : F_spec_AreNotes [x0] =
  (callK (F_spec_joGood [x0]) fun rs _u => some (Out.ret [sl rs 0] [])) := by kernel_rfl
theorem t_impl_AreNotes (x0 : D) : F_impl_AreNotes [x0] =
  ((lenD false x0).bind fun z =>
    (loopC
          (fun s =>
            (bin BinOp.lss false [] (sl s 3) (sl s 2)).bind fun z =>
              ifD z
                ((Option.map D.ptr (elemD 3 (sl s 1) (sl s 3))).bind fun z =>
                  ((ldD true 3 z).bind chkV).bind fun z =>
                    (stD 3
                          (D.agg
                            [D.v (Value.int IntKind.i64 0), D.v (Value.int IntKind.i64 0),
                              D.v (Value.int IntKind.i64 0)])
                          (D.ref 0 0) z).bind
                      fun b =>
                      (fldD true 3 0 b).bind fun z =>
                        callK (F_impl_isNote [z]) fun rs _u =>
                          (un UnOp.not (sl rs 0)).bind fun z =>
                            (gate (D.tup []) z false (some (sl s 3))).bind fun z_1 =>
                              (gate (D.tup []) z false
                                    (bin BinOp.gtr false [] z_1 (D.v (Value.int IntKind.i64 0)))).bind
                                fun z_2 =>
                                (gate (D.tup []) z false (some z_2)).bind fun z_3 =>
                                  (gate (D.tup []) z_3 true (some (sl s 0))).bind fun z_4 =>
                                    (gate (D.tup []) z_3 true (some (sl s 3))).bind fun z_5 =>
                                      (gate (D.tup []) z_3 true
                                            (bin BinOp.sub false [] z_5 (D.v (Value.int IntKind.i64 1)))).bind
                                        fun z_6 =>
                                        (gate (D.tup []) z_3 true (Option.map D.ptr (elemD 3 z_4 z_6))).bind fun z_7 =>
                                          (gate (D.tup []) z_3 true (offD 0 z_7)).bind fun z_8 =>
                                            (gate (D.tup []) z_3 true ((ldD false 1 z_8).bind chkV)).bind fun z_9 =>
                                              (gate D.bad z_3 true (liveD b (D.ref 0 0))).bind fun z_10 =>
                                                (gate (D.tup []) z_3 true ((atD b z_10).bind (takeD false 1))).bind
                                                  fun z_11 =>
                                                  (gate (D.tup []) z_3 true (bin BinOp.gtr false [] z_9 z_11)).bind
                                                    fun z_12 =>
                                                    (gate (D.tup []) z false
                                                          (pickD z_3 z_12 (D.v (Value.bool false)))).bind
                                                      fun z_13 =>
                                                      (pickD z (D.v (Value.bool true)) z_13).bind fun z =>
                                                        ifD z (some (Out.ret [D.v (Value.bool false)] []))
                                                          ((bin BinOp.add false [] (sl s 3)
                                                                (D.v (Value.int IntKind.i64 1))).bind
                                                            fun z => some (Out.nrm [sl s 0, sl s 1, sl s 2, z])))
                (some (Out.ext 0 [sl s 0])))
          [x0, x0, z, D.v (Value.int IntKind.i64 0)]).bind
      fun o =>
      outK o
        (fun i s =>
          match i.beq 0 with
          | true =>
            (lenD false (sl s 0)).bind fun z =>
              (bin BinOp.leq false [] z (D.v (Value.int IntKind.i64 24))).bind fun z => some (Out.ret [z] [])
          | false => none)
        fun a b => some (Out.ret a b)) := by kernel_rfl
theorem t_laws_eqNote (x0 x1 : D) : F_laws_eqNote [x0, x1] =
  ((boxD 3 x0).bind fun y =>
    (boxD 3 x1).bind fun y_1 =>
      (liveD y (D.ref 0 0)).bind fun z =>
        ((atD y z).bind (takeD false 1)).bind fun z =>
          (liveD y_1 (D.ref 0 0)).bind fun z_1 =>
            ((atD y_1 z_1).bind (takeD false 1)).bind fun z_2 =>
              (bin BinOp.neq false [] z z_2).bind fun z =>
                ifD z (some (Out.ret [D.v (Value.bool false)] []))
                  ((liveD y (D.ref 0 1)).bind fun z =>
                    ((atD y z).bind (takeD false 1)).bind fun z =>
                      (liveD y_1 (D.ref 0 1)).bind fun z_3 =>
                        ((atD y_1 z_3).bind (takeD false 1)).bind fun z_4 =>
                          (bin BinOp.neq false [] z z_4).bind fun z =>
                            ifD z (some (Out.ret [D.v (Value.bool false)] []))
                              ((liveD y (D.ref 0 2)).bind fun z =>
                                ((atD y z).bind (takeD false 1)).bind fun z =>
                                  (liveD y_1 (D.ref 0 2)).bind fun z_5 =>
                                    ((atD y_1 z_5).bind (takeD false 1)).bind fun z_6 =>
                                      (bin BinOp.neq false [] z z_6).bind fun z =>
                                        ifD z (some (Out.ret [D.v (Value.bool false)] []))
                                          (some (Out.ret [D.v (Value.bool true)] []))))) := by kernel_rfl
theorem t_laws_eqNoteS (x0 x1 : D) : F_laws_eqNoteS [x0, x1] =
  ((lenD false x0).bind fun z =>
    (lenD false x1).bind fun z_1 =>
      (bin BinOp.neq false [] z z_1).bind fun z =>
        ifD z (some (Out.ret [D.v (Value.bool false)] []))
          ((loopC
                (fun s =>
                  (lenD false (sl s 0)).bind fun z =>
                    (bin BinOp.lss false [] (sl s 2) z).bind fun z =>
                      ifD z
                        ((Option.map D.ptr (elemD 3 (sl s 0) (sl s 2))).bind fun z =>
                          ((ldD true 3 z).bind chkV).bind fun z =>
                            (Option.map D.ptr (elemD 3 (sl s 1) (sl s 2))).bind fun z_2 =>
                              ((ldD true 3 z_2).bind chkV).bind fun z_3 =>
                                callK (F_laws_eqNote [z, z_3]) fun rs _u =>
                                  (un UnOp.not (sl rs 0)).bind fun z =>
                                    ifD z (some (Out.ret [D.v (Value.bool false)] []))
                                      ((bin BinOp.add false [] (sl s 2) (D.v (Value.int IntKind.i64 1))).bind fun z =>
                                        some (Out.nrm [sl s 0, sl s 1, z])))
                        (some (Out.ext 0 [])))
                [x0, x1, D.v (Value.int IntKind.i64 0)]).bind
            fun o =>
            outK o
              (fun i _u =>
                match i.beq 0 with
                | true => some (Out.ret [D.v (Value.bool true)] [])
                | false => none)
              fun a b => some (Out.ret a b))) := by kernel_rfl
theorem t_laws_FnExactAreNotes (x0 : D) : F_laws_FnExactAreNotes [x0] =
  (callK (F_laws_szNoteS [x0, D.v (Value.int IntKind.i64 1048576)]) fun rs _u =>
    (bin BinOp.lss false [] (sl rs 0) (D.v (Value.int IntKind.i64 0))).bind fun z =>
      ifD z (some (Out.ret [D.v (Value.bool true)] []))
        (callK (F_laws_toNoteS [x0]) fun rs _u =>
          callK (F_spec_AreNotes [sl rs 0]) fun rs _u =>
            callK (F_laws_toNoteS [x0]) fun rs_1 _u =>
              callK (F_impl_AreNotes [sl rs_1 0]) fun rs_2 _u =>
                (bin BinOp.neq true [] (sl rs_2 0) (sl rs 0)).bind fun z =>
                  ifD z (some (Out.ret [D.v (Value.bool false)] []))
                    (callK (F_laws_toNoteS [x0]) fun rs _u =>
                      callK (F_laws_eqNoteS [sl rs_1 0, sl rs 0]) fun rs _u =>
                        (un UnOp.not (sl rs 0)).bind fun z =>
                          ifD z (some (Out.ret [D.v (Value.bool false)] []))
                            (some (Out.ret [D.v (Value.bool true)] []))))) := by kernel_rfl
theorem t_spec_joDay (x0 : D) : F_spec_joDay [x0] =
  (callK (F_spec_l1In [x0, D.v (Value.int IntKind.i64 0), D.v (Value.int IntKind.i64 9999)]) fun rs _u =>
    some (Out.ret [sl rs 0] [])) := by kernel_rfl
theorem t_spec_joMetal (x0 x1 : D) : F_spec_joMetal [x0, x1] =
  ((boxD 3 x1).bind fun y =>
    (liveD y (D.ref 0 1)).bind fun z =>
      ((atD y z).bind (takeD false 1)).bind fun z =>
        (bin BinOp.eql false [] z (D.v (Value.int IntKind.i64 0))).bind fun z =>
          (gate D.bad z false (liveD y (D.ref 0 1))).bind fun z_1 =>
            (gate (D.tup []) z false ((atD y z_1).bind (takeD false 1))).bind fun z_2 =>
              (gate (D.tup []) z false (bin BinOp.eql false [] z_2 (D.v (Value.int IntKind.i64 3)))).bind fun z_3 =>
                (pickD z (D.v (Value.bool true)) z_3).bind fun z =>
                  ifD z
                    ((liveD y (D.ref 0 2)).bind fun z =>
                      ((atD y z).bind (takeD false 1)).bind fun z =>
                        (bin BinOp.add false [] x0 z).bind fun z => some (Out.ret [z] []))
                    ((liveD y (D.ref 0 2)).bind fun z =>
                      ((atD y z).bind (takeD false 1)).bind fun z =>
                        (bin BinOp.sub false [] x0 z).bind fun z => some (Out.ret [z] []))) := by kernel_rfl
theorem t_spec_MetalAfter (x0 x1 x2 : D) : F_spec_MetalAfter [x0, x1, x2] =
  (callK (F_spec_joGood [x0]) fun rs _u =>
    (un UnOp.not (sl rs 0)).bind fun z =>
      (gate (D.tup []) z false (some x1)).bind fun z_1 =>
        gateC z false
          (callK (F_spec_l1In [z_1, D.v (Value.int IntKind.i64 0), D.v (Value.int IntKind.i64 1000000)]) fun rs _u =>
            some (Out.nrm [sl rs 0]))
          [D.tup []] fun outs =>
          (gate (D.tup []) z false (un UnOp.not (sl outs 0))).bind fun z_2 =>
            (pickD z (D.v (Value.bool true)) z_2).bind fun z =>
              (gate (D.tup []) z false (some x2)).bind fun z_3 =>
                gateC z false (callK (F_spec_joDay [z_3]) fun rs _u => some (Out.nrm [sl rs 0])) [D.tup []] fun outs =>
                  (gate (D.tup []) z false (un UnOp.not (sl outs 0))).bind fun z_4 =>
                    (pickD z (D.v (Value.bool true)) z_4).bind fun z =>
                      ifD z (some (Out.ret [D.v (Value.int IntKind.i64 0), D.v (Value.bool false)] []))
                        ((lenD false x0).bind fun z =>
                          (loopC
                                (fun s =>
                                  (bin BinOp.lss false [] (sl s 4) (sl s 3)).bind fun z =>
                                    ifD z
                                      ((Option.map D.ptr (elemD 3 (sl s 2) (sl s 4))).bind fun z =>
                                        ((ldD true 3 z).bind chkV).bind fun z =>
                                          (stD 3
                                                (D.agg
                                                  [D.v (Value.int IntKind.i64 0), D.v (Value.int IntKind.i64 0),
                                                    D.v (Value.int IntKind.i64 0)])
                                                (D.ref 0 0) z).bind
                                            fun b =>
                                            (liveD b (D.ref 0 0)).bind fun z =>
                                              ((atD b z).bind (takeD false 1)).bind fun z =>
                                                (bin BinOp.leq false [] z (sl s 1)).bind fun z =>
                                                  ifD z
                                                    ((fldD true 3 0 b).bind fun z =>
                                                      callK (F_spec_joMetal [sl s 0, z]) fun rs _u =>
                                                        (bin BinOp.add false [] (sl s 4)
                                                              (D.v (Value.int IntKind.i64 1))).bind
                                                          fun z => some (Out.nrm [sl rs 0, sl s 1, sl s 2, sl s 3, z]))
                                                    ((bin BinOp.add false [] (sl s 4)
                                                          (D.v (Value.int IntKind.i64 1))).bind
                                                      fun z => some (Out.nrm [sl s 0, sl s 1, sl s 2, sl s 3, z])))
                                      (some (Out.ext 0 [sl s 0])))
                                [x1, x2, x0, z, D.v (Value.int IntKind.i64 0)]).bind
                            fun o =>
                            outK o
                              (fun i s =>
                                match i.beq 0 with
                                | true => some (Out.ret [sl s 0, D.v (Value.bool true)] [])
                                | false => none)
                              fun a b => some (Out.ret a b))) := by kernel_rfl
theorem t_impl_isMetalStart (x0 : D) : F_impl_isMetalStart [x0] =
  (callK (F_impl_within [x0, D.v (Value.int IntKind.i64 0), D.v (Value.int IntKind.i64 1000000)]) fun rs _u =>
    some (Out.ret [sl rs 0] [])) := by kernel_rfl
theorem t_impl_change (x0 : D) : F_impl_change [x0] =
  ((boxD 3 x0).bind fun y =>
    (liveD y (D.ref 0 1)).bind fun z =>
      ((atD y z).bind (takeD false 1)).bind fun z =>
        (bin BinOp.eql false [] z (D.v (Value.int IntKind.i64 0))).bind fun z =>
          (gate D.bad z false (liveD y (D.ref 0 1))).bind fun z_1 =>
            (gate (D.tup []) z false ((atD y z_1).bind (takeD false 1))).bind fun z_2 =>
              (gate (D.tup []) z false (bin BinOp.eql false [] z_2 (D.v (Value.int IntKind.i64 3)))).bind fun z_3 =>
                (pickD z (D.v (Value.bool true)) z_3).bind fun z =>
                  ifD z
                    ((liveD y (D.ref 0 2)).bind fun z =>
                      ((atD y z).bind (takeD false 1)).bind fun z => some (Out.ret [z] []))
                    ((liveD y (D.ref 0 2)).bind fun z =>
                      ((atD y z).bind (takeD false 1)).bind fun z =>
                        (un UnOp.neg z).bind fun z => some (Out.ret [z] []))) := by kernel_rfl
theorem t_impl_MetalAfter (x0 x1 x2 : D) : F_impl_MetalAfter [x0, x1, x2] =
  (callK (F_impl_AreNotes [x0]) fun rs _u =>
    (un UnOp.not (sl rs 0)).bind fun z =>
      (gate (D.tup []) z false (some x1)).bind fun z_1 =>
        gateC z false (callK (F_impl_isMetalStart [z_1]) fun rs _u => some (Out.nrm [sl rs 0])) [D.tup []] fun outs =>
          (gate (D.tup []) z false (un UnOp.not (sl outs 0))).bind fun z_2 =>
            (pickD z (D.v (Value.bool true)) z_2).bind fun z =>
              (gate (D.tup []) z false (some x2)).bind fun z_3 =>
                gateC z false (callK (F_impl_isNoteDay [z_3]) fun rs _u => some (Out.nrm [sl rs 0])) [D.tup []]
                  fun outs =>
                  (gate (D.tup []) z false (un UnOp.not (sl outs 0))).bind fun z_4 =>
                    (pickD z (D.v (Value.bool true)) z_4).bind fun z =>
                      ifD z (some (Out.ret [D.v (Value.int IntKind.i64 0), D.v (Value.bool false)] []))
                        ((lenD false x0).bind fun z =>
                          (loopC
                                (fun s =>
                                  (bin BinOp.lss false [] (sl s 4) (sl s 3)).bind fun z =>
                                    ifD z
                                      ((Option.map D.ptr (elemD 3 (sl s 2) (sl s 4))).bind fun z =>
                                        ((ldD true 3 z).bind chkV).bind fun z =>
                                          (stD 3
                                                (D.agg
                                                  [D.v (Value.int IntKind.i64 0), D.v (Value.int IntKind.i64 0),
                                                    D.v (Value.int IntKind.i64 0)])
                                                (D.ref 0 0) z).bind
                                            fun b =>
                                            (liveD b (D.ref 0 0)).bind fun z =>
                                              ((atD b z).bind (takeD false 1)).bind fun z =>
                                                (bin BinOp.leq false [] z (sl s 1)).bind fun z =>
                                                  ifD z
                                                    ((fldD true 3 0 b).bind fun z =>
                                                      callK (F_impl_change [z]) fun rs _u =>
                                                        (bin BinOp.add false [] (sl s 0) (sl rs 0)).bind fun z =>
                                                          (bin BinOp.add false [] (sl s 4)
                                                                (D.v (Value.int IntKind.i64 1))).bind
                                                            fun z_5 => some (Out.nrm [z, sl s 1, sl s 2, sl s 3, z_5]))
                                                    ((bin BinOp.add false [] (sl s 4)
                                                          (D.v (Value.int IntKind.i64 1))).bind
                                                      fun z => some (Out.nrm [sl s 0, sl s 1, sl s 2, sl s 3, z])))
                                      (some (Out.ext 0 [sl s 0])))
                                [x1, x2, x0, z, D.v (Value.int IntKind.i64 0)]).bind
                            fun o =>
                            outK o
                              (fun i s =>
                                match i.beq 0 with
                                | true => some (Out.ret [sl s 0, D.v (Value.bool true)] [])
                                | false => none)
                              fun a b => some (Out.ret a b))) := by kernel_rfl
theorem t_laws_FnExactMetalAfter (x0 x1 x2 : D) : F_laws_FnExactMetalAfter [x0, x1, x2] =
  (callK (F_laws_szNoteS [x0, D.v (Value.int IntKind.i64 1048576)]) fun rs _u =>
    (bin BinOp.lss false [] (sl rs 0) (D.v (Value.int IntKind.i64 0))).bind fun z =>
      ifD z (some (Out.ret [D.v (Value.bool true)] []))
        (callK (F_laws_toNoteS [x0]) fun rs _u =>
          callK (F_spec_MetalAfter [sl rs 0, x1, x2]) fun rs _u =>
            (tupAt (D.tup rs) 0).bind fun z =>
              (tupAt (D.tup rs) 1).bind fun z_1 =>
                callK (F_laws_toNoteS [x0]) fun rs _u =>
                  callK (F_impl_MetalAfter [sl rs 0, x1, x2]) fun rs_1 _u =>
                    (tupAt (D.tup rs_1) 0).bind fun z_2 =>
                      (tupAt (D.tup rs_1) 1).bind fun z_3 =>
                        (bin BinOp.neq false [] z_2 z).bind fun z =>
                          (gate (D.tup []) z false (some z_3)).bind fun z_4 =>
                            (gate (D.tup []) z false (some z_1)).bind fun z_5 =>
                              (gate (D.tup []) z false (bin BinOp.neq true [] z_4 z_5)).bind fun z_6 =>
                                (pickD z (D.v (Value.bool true)) z_6).bind fun z =>
                                  ifD z (some (Out.ret [D.v (Value.bool false)] []))
                                    (callK (F_laws_toNoteS [x0]) fun rs_2 _u =>
                                      callK (F_laws_eqNoteS [sl rs 0, sl rs_2 0]) fun rs _u =>
                                        (un UnOp.not (sl rs 0)).bind fun z =>
                                          ifD z (some (Out.ret [D.v (Value.bool false)] []))
                                            (some (Out.ret [D.v (Value.bool true)] []))))) := by kernel_rfl
theorem t_spec_DropNote (x0 x1 : D) : F_spec_DropNote [x0, x1] =
  (callK (F_spec_joGood [x0]) fun rs _u =>
    (un UnOp.not (sl rs 0)).bind fun z =>
      (gate (D.tup []) z false (some x1)).bind fun z_1 =>
        (gate (D.tup []) z false (some x0)).bind fun z_2 =>
          (gate (D.tup []) z false (lenD false z_2)).bind fun z_3 =>
            (gate (D.tup []) z false (bin BinOp.sub false [] z_3 (D.v (Value.int IntKind.i64 1)))).bind fun z_4 =>
              gateC z false
                (callK (F_spec_l1In [z_1, D.v (Value.int IntKind.i64 0), z_4]) fun rs _u => some (Out.nrm [sl rs 0]))
                [D.tup []] fun outs =>
                (gate (D.tup []) z false (un UnOp.not (sl outs 0))).bind fun z_5 =>
                  (pickD z (D.v (Value.bool true)) z_5).bind fun z =>
                    ifD z (some (Out.ret [D.arr 3 [], D.v (Value.bool false)] []))
                      ((mkArr 3 []).bind fun a =>
                        (sliceD false 3 x0 (D.v (Value.int IntKind.i64 0)) x1).bind fun z =>
                          (chkA z).bind fun b =>
                            (appD 3 24 a b).bind fun y =>
                              (bin BinOp.add false [] x1 (D.v (Value.int IntKind.i64 1))).bind fun z =>
                                (sliceHi false 3 x0 z).bind fun z =>
                                  (chkA z).bind fun b =>
                                    (appD 3 24 y b).bind fun y => some (Out.ret [y, D.v (Value.bool true)] []))) := by kernel_rfl
theorem t_impl_DropNote (x0 x1 : D) : F_impl_DropNote [x0, x1] =
  (callK (F_impl_AreNotes [x0]) fun rs _u =>
    (un UnOp.not (sl rs 0)).bind fun z =>
      (gate (D.tup []) z false (some x1)).bind fun z_1 =>
        (gate (D.tup []) z false (some x0)).bind fun z_2 =>
          (gate (D.tup []) z false (lenD false z_2)).bind fun z_3 =>
            (gate (D.tup []) z false (bin BinOp.sub false [] z_3 (D.v (Value.int IntKind.i64 1)))).bind fun z_4 =>
              gateC z false
                (callK (F_impl_within [z_1, D.v (Value.int IntKind.i64 0), z_4]) fun rs _u => some (Out.nrm [sl rs 0]))
                [D.tup []] fun outs =>
                (gate (D.tup []) z false (un UnOp.not (sl outs 0))).bind fun z_5 =>
                  (pickD z (D.v (Value.bool true)) z_5).bind fun z =>
                    ifD z ((mkArr 3 []).bind fun a => some (Out.ret [a, D.v (Value.bool false)] []))
                      ((mkArr 3 []).bind fun a =>
                        (sliceD false 3 x0 (D.v (Value.int IntKind.i64 0)) x1).bind fun z =>
                          (chkA z).bind fun b =>
                            (appD 3 24 a b).bind fun y =>
                              (bin BinOp.add false [] x1 (D.v (Value.int IntKind.i64 1))).bind fun z =>
                                (sliceHi false 3 x0 z).bind fun z =>
                                  (chkA z).bind fun b =>
                                    (appD 3 24 y b).bind fun y => some (Out.ret [y, D.v (Value.bool true)] []))) := by kernel_rfl
theorem t_laws_markNoteS (x0 x1 : D) : F_laws_markNoteS [x0, x1] =
  ((loopC
        (fun s =>
          (liveD (sl s 0) (D.ref 0 0)).bind fun z =>
            ((liveD z (sl s 0)).bind (lenD false)).bind fun z =>
              (bin BinOp.lss false [] (sl s 2) z).bind fun z =>
                ifD z
                  ((liveD (sl s 0) (D.ref 0 0)).bind fun z =>
                    ((liveD z (sl s 0)).bind fun b => refI 3 b (sl s 2)).bind fun z =>
                      (refAdd 0 z).bind fun z =>
                        (stD 1 (sl s 0) z (sl s 1)).bind fun b =>
                          (bin BinOp.add false [] (sl s 1) (D.v (Value.int IntKind.i64 1))).bind fun z =>
                            (liveD b (D.ref 0 0)).bind fun z_1 =>
                              ((liveD z_1 b).bind fun b => refI 3 b (sl s 2)).bind fun z_2 =>
                                (refAdd 1 z_2).bind fun z_3 =>
                                  (stD 1 b z_3 z).bind fun b =>
                                    (bin BinOp.add false [] z (D.v (Value.int IntKind.i64 1))).bind fun z =>
                                      (liveD b (D.ref 0 0)).bind fun z_4 =>
                                        ((liveD z_4 b).bind fun b => refI 3 b (sl s 2)).bind fun z_5 =>
                                          (refAdd 2 z_5).bind fun z_6 =>
                                            (stD 1 b z_6 z).bind fun b =>
                                              (bin BinOp.add false [] z (D.v (Value.int IntKind.i64 1))).bind fun z =>
                                                (bin BinOp.add false [] (sl s 2) (D.v (Value.int IntKind.i64 1))).bind
                                                  fun z_7 => some (Out.nrm [b, z, z_7]))
                  (some (Out.ext 0 [sl s 0, sl s 1])))
        [x0, x1, D.v (Value.int IntKind.i64 0)]).bind
    fun o =>
    outK o
      (fun i s =>
        match i.beq 0 with
        | true => (liveD (sl s 0) (sl s 0)).bind fun _u => some (Out.ret [sl s 1] [sl s 0])
        | false => none)
      fun a b => some (Out.ret a b)) := by kernel_rfl
theorem t_laws_heldNoteS (x0 x1 : D) : F_laws_heldNoteS [x0, x1] =
  ((loopC
        (fun s =>
          (lenD false (sl s 0)).bind fun z =>
            (bin BinOp.lss false [] (sl s 2) z).bind fun z =>
              ifD z
                ((Option.map D.ptr (elemD 3 (sl s 0) (sl s 2))).bind fun z =>
                  (offD 0 z).bind fun z =>
                    ((ldD false 1 z).bind chkV).bind fun z =>
                      (bin BinOp.neq false [] z (sl s 1)).bind fun z =>
                        ifD z (some (Out.ret [D.v (Value.int IntKind.i64 (-1))] []))
                          ((bin BinOp.add false [] (sl s 1) (D.v (Value.int IntKind.i64 1))).bind fun z =>
                            (Option.map D.ptr (elemD 3 (sl s 0) (sl s 2))).bind fun z_1 =>
                              (offD 1 z_1).bind fun z_2 =>
                                ((ldD false 1 z_2).bind chkV).bind fun z_3 =>
                                  (bin BinOp.neq false [] z_3 z).bind fun z_4 =>
                                    ifD z_4 (some (Out.ret [D.v (Value.int IntKind.i64 (-1))] []))
                                      ((bin BinOp.add false [] z (D.v (Value.int IntKind.i64 1))).bind fun z =>
                                        (Option.map D.ptr (elemD 3 (sl s 0) (sl s 2))).bind fun z_5 =>
                                          (offD 2 z_5).bind fun z_6 =>
                                            ((ldD false 1 z_6).bind chkV).bind fun z_7 =>
                                              (bin BinOp.neq false [] z_7 z).bind fun z_8 =>
                                                ifD z_8 (some (Out.ret [D.v (Value.int IntKind.i64 (-1))] []))
                                                  ((bin BinOp.add false [] z (D.v (Value.int IntKind.i64 1))).bind
                                                    fun z =>
                                                    (bin BinOp.add false [] (sl s 2)
                                                          (D.v (Value.int IntKind.i64 1))).bind
                                                      fun z_9 => some (Out.nrm [sl s 0, z, z_9])))))
                (some (Out.ext 0 [sl s 1])))
        [x0, x1, D.v (Value.int IntKind.i64 0)]).bind
    fun o =>
    outK o
      (fun i s =>
        match i.beq 0 with
        | true => some (Out.ret [sl s 0] [])
        | false => none)
      fun a b => some (Out.ret a b)) := by kernel_rfl
theorem t_laws_FnExactDropNote (x0 x1 : D) : F_laws_FnExactDropNote [x0, x1] =
  (callK (F_laws_szNoteS [x0, D.v (Value.int IntKind.i64 1048576)]) fun rs _u =>
    (bin BinOp.lss false [] (sl rs 0) (D.v (Value.int IntKind.i64 0))).bind fun z =>
      ifD z (some (Out.ret [D.v (Value.bool true)] []))
        (callK (F_laws_toNoteS [x0]) fun rs _u =>
          callK (F_spec_DropNote [sl rs 0, x1]) fun rs _u =>
            (tupAt (D.tup rs) 0).bind fun y =>
              (tupAt (tupCut (D.tup rs) 0) 1).bind fun z =>
                callK (F_laws_toNoteS [x0]) fun rs _u =>
                  (liveD (sl rs 0) (D.ref 0 0)).bind fun z_1 =>
                    (liveD z_1 (D.ref 0 0)).bind fun z_2 =>
                      (liveD z_2 (sl rs 0)).bind fun i =>
                        callK (F_impl_DropNote [i, x1]) fun rs_1 _u =>
                          (tupAt (D.tup rs_1) 0).bind fun y_1 =>
                            (tupAt (tupCut (D.tup rs_1) 0) 1).bind fun z_3 =>
                              (liveD y_1 (D.ref 0 0)).bind fun z_4 =>
                                (liveD z_4 (D.ref 0 0)).bind fun z_5 =>
                                  (liveD z_5 y_1).bind fun i =>
                                    callK (F_laws_eqNoteS [i, y]) fun rs_2 _u =>
                                      (un UnOp.not (sl rs_2 0)).bind fun z_6 =>
                                        (gate (D.tup []) z_6 false (some z_3)).bind fun z_7 =>
                                          (gate (D.tup []) z_6 false (some z)).bind fun z_8 =>
                                            (gate (D.tup []) z_6 false (bin BinOp.neq true [] z_7 z_8)).bind fun z_9 =>
                                              (pickD z_6 (D.v (Value.bool true)) z_9).bind fun z_10 =>
                                                ifD z_10 (some (Out.ret [D.v (Value.bool false)] []))
                                                  ((liveD z_1 (D.ref 0 0)).bind fun z_11 =>
                                                    callK (F_laws_toNoteS [x0]) fun rs_3 _u =>
                                                      (liveD z_11 (sl rs 0)).bind fun i =>
                                                        callK (F_laws_eqNoteS [i, sl rs_3 0]) fun rs_4 _u =>
                                                          (un UnOp.not (sl rs_4 0)).bind fun z_12 =>
                                                            ifD z_12 (some (Out.ret [D.v (Value.bool false)] []))
                                                              ((liveD z_1 (D.ref 0 0)).bind fun z_13 =>
                                                                (ref0 z_13 (sl rs 0)).bind fun i =>
                                                                  (liveD i i).bind fun i =>
                                                                    callK
                                                                      (F_laws_markNoteS
                                                                        [i, D.v (Value.int IntKind.i64 1)])
                                                                      fun rs _u =>
                                                                      (bin BinOp.lss false [] (sl rs 0)
                                                                            (D.v (Value.int IntKind.i64 0))).bind
                                                                        fun z_14 =>
                                                                        (gate D.bad z_14 false
                                                                              (liveD z_4 (D.ref 0 0))).bind
                                                                          fun z_15 =>
                                                                          (gate (D.tup []) z_14 false (some y)).bind
                                                                            fun z_16 =>
                                                                            gateC z_14 false
                                                                              ((liveD z_15 y_1).bind fun i =>
                                                                                callK (F_laws_eqNoteS [i, z_16])
                                                                                  fun rs _u => some (Out.nrm [sl rs 0]))
                                                                              [D.tup []] fun outs =>
                                                                              (gate (D.tup []) z_14 false
                                                                                    (un UnOp.not (sl outs 0))).bind
                                                                                fun z_17 =>
                                                                                (pickD z_14 (D.v (Value.bool true))
                                                                                      z_17).bind
                                                                                  fun z_18 =>
                                                                                  (gate (D.tup []) z_18 false
                                                                                        (some z_3)).bind
                                                                                    fun z_19 =>
                                                                                    (gate (D.tup []) z_18 false
                                                                                          (some z)).bind
                                                                                      fun z_20 =>
                                                                                      (gate (D.tup []) z_18 false
                                                                                            (bin BinOp.neq true [] z_19
                                                                                              z_20)).bind
                                                                                        fun z_21 =>
                                                                                        (pickD z_18
                                                                                              (D.v (Value.bool true))
                                                                                              z_21).bind
                                                                                          fun z_22 =>
                                                                                          ifD z_22
                                                                                            (some
                                                                                              (Out.ret
                                                                                                [D.v (Value.bool false)]
                                                                                                []))
                                                                                            ((liveD z_4
                                                                                                  (D.ref 0 0)).bind
                                                                                              fun z_23 =>
                                                                                              (ref0 z_23 y_1).bind
                                                                                                fun i =>
                                                                                                (liveD i i).bind
                                                                                                  fun i =>
                                                                                                  callK
                                                                                                    (F_laws_markNoteS
                                                                                                      [i,
                                                                                                        D.v
                                                                                                          (Value.int
                                                                                                            IntKind.i64
                                                                                                            1)])
                                                                                                    fun rs us =>
                                                                                                    (liveD z_4
                                                                                                          (D.ref 0
                                                                                                            0)).bind
                                                                                                      fun z_24 =>
                                                                                                      (liveD z_24
                                                                                                            (sl us
                                                                                                              0)).bind
                                                                                                        fun i =>
                                                                                                        callK
                                                                                                          (F_laws_heldNoteS
                                                                                                            [i,
                                                                                                              D.v
                                                                                                                (Value.int
                                                                                                                  IntKind.i64
                                                                                                                  1)])
                                                                                                          fun rs_5 _u =>
                                                                                                          (bin BinOp.lss
                                                                                                                false []
                                                                                                                (sl rs_5
                                                                                                                  0)
                                                                                                                (D.v
                                                                                                                  (Value.int
                                                                                                                    IntKind.i64
                                                                                                                    0))).bind
                                                                                                            fun z_25 =>
                                                                                                            ifD z_25
                                                                                                              (some
                                                                                                                (Out.ret
                                                                                                                  [D.v
                                                                                                                      (Value.bool
                                                                                                                        false)]
                                                                                                                  []))
                                                                                                              ((bin
                                                                                                                    BinOp.neq
                                                                                                                    false
                                                                                                                    []
                                                                                                                    (sl
                                                                                                                      rs_5
                                                                                                                      0)
                                                                                                                    (sl
                                                                                                                      rs
                                                                                                                      0)).bind
                                                                                                                fun
                                                                                                                  z_26 =>
                                                                                                                ifD z_26
                                                                                                                  (some
                                                                                                                    (Out.ret
                                                                                                                      [D.v
                                                                                                                          (Value.bool
                                                                                                                            false)]
                                                                                                                      []))
                                                                                                                  (callK
                                                                                                                    (F_laws_toNoteS
                                                                                                                      [x0])
                                                                                                                    fun
                                                                                                                      rs_6
                                                                                                                      _u =>
                                                                                                                    callK
                                                                                                                      (F_impl_DropNote
                                                                                                                        [sl
                                                                                                                            rs_6
                                                                                                                            0,
                                                                                                                          x1])
                                                                                                                      fun
                                                                                                                        rs_7
                                                                                                                        _u =>
                                                                                                                      (tupAt
                                                                                                                            (D.tup
                                                                                                                              rs_7)
                                                                                                                            0).bind
                                                                                                                        fun
                                                                                                                          y_2 =>
                                                                                                                        (tupAt
                                                                                                                              (tupCut
                                                                                                                                (D.tup
                                                                                                                                  rs_7)
                                                                                                                                0)
                                                                                                                              1).bind
                                                                                                                          fun
                                                                                                                            z_27 =>
                                                                                                                          callK
                                                                                                                            (F_laws_eqNoteS
                                                                                                                              [y_2,
                                                                                                                                y])
                                                                                                                            fun
                                                                                                                              rs_8
                                                                                                                              _u =>
                                                                                                                            (un
                                                                                                                                  UnOp.not
                                                                                                                                  (sl
                                                                                                                                    rs_8
                                                                                                                                    0)).bind
                                                                                                                              fun
                                                                                                                                z_28 =>
                                                                                                                              (gate
                                                                                                                                    (D.tup
                                                                                                                                      [])
                                                                                                                                    z_28
                                                                                                                                    false
                                                                                                                                    (some
                                                                                                                                      z_27)).bind
                                                                                                                                fun
                                                                                                                                  z_29 =>
                                                                                                                                (gate
                                                                                                                                      (D.tup
                                                                                                                                        [])
                                                                                                                                      z_28
                                                                                                                                      false
                                                                                                                                      (some
                                                                                                                                        z)).bind
                                                                                                                                  fun
                                                                                                                                    z =>
                                                                                                                                  (gate
                                                                                                                                        (D.tup
                                                                                                                                          [])
                                                                                                                                        z_28
                                                                                                                                        false
                                                                                                                                        (bin
                                                                                                                                          BinOp.neq
                                                                                                                                          true
                                                                                                                                          []
                                                                                                                                          z_29
                                                                                                                                          z)).bind
                                                                                                                                    fun
                                                                                                                                      z =>
                                                                                                                                    (pickD
                                                                                                                                          z_28
                                                                                                                                          (D.v
                                                                                                                                            (Value.bool
                                                                                                                                              true))
                                                                                                                                          z).bind
                                                                                                                                      fun
                                                                                                                                        z =>
                                                                                                                                      ifD
                                                                                                                                        z
                                                                                                                                        (some
                                                                                                                                          (Out.ret
                                                                                                                                            [D.v
                                                                                                                                                (Value.bool
                                                                                                                                                  false)]
                                                                                                                                            []))
                                                                                                                                        ((liveD
                                                                                                                                              z_4
                                                                                                                                              (D.ref
                                                                                                                                                0
                                                                                                                                                0)).bind
                                                                                                                                          fun
                                                                                                                                            z =>
                                                                                                                                          (liveD
                                                                                                                                                z
                                                                                                                                                (sl
                                                                                                                                                  us
                                                                                                                                                  0)).bind
                                                                                                                                            fun
                                                                                                                                              i =>
                                                                                                                                            callK
                                                                                                                                              (F_laws_heldNoteS
                                                                                                                                                [i,
                                                                                                                                                  D.v
                                                                                                                                                    (Value.int
                                                                                                                                                      IntKind.i64
                                                                                                                                                      1)])
                                                                                                                                              fun
                                                                                                                                                rs_9
                                                                                                                                                _u =>
                                                                                                                                              (bin
                                                                                                                                                    BinOp.lss
                                                                                                                                                    false
                                                                                                                                                    []
                                                                                                                                                    (sl
                                                                                                                                                      rs_9
                                                                                                                                                      0)
                                                                                                                                                    (D.v
                                                                                                                                                      (Value.int
                                                                                                                                                        IntKind.i64
                                                                                                                                                        0))).bind
                                                                                                                                                fun
                                                                                                                                                  z =>
                                                                                                                                                ifD
                                                                                                                                                  z
                                                                                                                                                  (some
                                                                                                                                                    (Out.ret
                                                                                                                                                      [D.v
                                                                                                                                                          (Value.bool
                                                                                                                                                            false)]
                                                                                                                                                      []))
                                                                                                                                                  ((bin
                                                                                                                                                        BinOp.neq
                                                                                                                                                        false
                                                                                                                                                        []
                                                                                                                                                        (sl
                                                                                                                                                          rs_9
                                                                                                                                                          0)
                                                                                                                                                        (sl
                                                                                                                                                          rs
                                                                                                                                                          0)).bind
                                                                                                                                                    fun
                                                                                                                                                      z =>
                                                                                                                                                    ifD
                                                                                                                                                      z
                                                                                                                                                      (some
                                                                                                                                                        (Out.ret
                                                                                                                                                          [D.v
                                                                                                                                                              (Value.bool
                                                                                                                                                                false)]
                                                                                                                                                          []))
                                                                                                                                                      (some
                                                                                                                                                        (Out.ret
                                                                                                                                                          [D.v
                                                                                                                                                              (Value.bool
                                                                                                                                                                true)]
                                                                                                                                                          []))))))))))) := by kernel_rfl
theorem t_spec_LeastMetal (x0 x1 : D) : F_spec_LeastMetal [x0, x1] =
  (callK (F_spec_joGood [x0]) fun rs _u =>
    (un UnOp.not (sl rs 0)).bind fun z =>
      (gate (D.tup []) z false (some x1)).bind fun z_1 =>
        gateC z false
          (callK (F_spec_l1In [z_1, D.v (Value.int IntKind.i64 0), D.v (Value.int IntKind.i64 1000000)]) fun rs _u =>
            some (Out.nrm [sl rs 0]))
          [D.tup []] fun outs =>
          (gate (D.tup []) z false (un UnOp.not (sl outs 0))).bind fun z_2 =>
            (pickD z (D.v (Value.bool true)) z_2).bind fun z =>
              (gate (D.tup []) z false (some x0)).bind fun z_3 =>
                (gate (D.tup []) z false (lenD false z_3)).bind fun z_4 =>
                  (gate (D.tup []) z false (bin BinOp.eql false [] z_4 (D.v (Value.int IntKind.i64 0)))).bind fun z_5 =>
                    (pickD z (D.v (Value.bool true)) z_5).bind fun z =>
                      ifD z
                        (some
                          (Out.ret
                            [D.v (Value.int IntKind.i64 0), D.v (Value.int IntKind.i64 0), D.v (Value.bool false)] []))
                        ((lenD false x0).bind fun z =>
                          (loopC
                                (fun s =>
                                  (bin BinOp.lss false [] (sl s 5) (sl s 4)).bind fun z =>
                                    ifD z
                                      ((Option.map D.ptr (elemD 3 (sl s 3) (sl s 5))).bind fun z =>
                                        ((ldD true 3 z).bind chkV).bind fun z =>
                                          (stD 3
                                                (D.agg
                                                  [D.v (Value.int IntKind.i64 0), D.v (Value.int IntKind.i64 0),
                                                    D.v (Value.int IntKind.i64 0)])
                                                (D.ref 0 0) z).bind
                                            fun b =>
                                            (fldD true 3 0 b).bind fun z =>
                                              callK (F_spec_joMetal [sl s 0, z]) fun rs _u =>
                                                (bin BinOp.lss false [] (sl s 2) (D.v (Value.int IntKind.i64 0))).bind
                                                  fun z =>
                                                  (gate (D.tup []) z false (some (sl rs 0))).bind fun z_6 =>
                                                    (gate (D.tup []) z false (some (sl s 1))).bind fun z_7 =>
                                                      (gate (D.tup []) z false (bin BinOp.lss false [] z_6 z_7)).bind
                                                        fun z_8 =>
                                                        (pickD z (D.v (Value.bool true)) z_8).bind fun z =>
                                                          ifD z
                                                            ((bin BinOp.add false [] (sl s 5)
                                                                  (D.v (Value.int IntKind.i64 1))).bind
                                                              fun z =>
                                                              some
                                                                (Out.nrm [sl rs 0, sl rs 0, sl s 5, sl s 3, sl s 4, z]))
                                                            ((bin BinOp.add false [] (sl s 5)
                                                                  (D.v (Value.int IntKind.i64 1))).bind
                                                              fun z =>
                                                              some
                                                                (Out.nrm [sl rs 0, sl s 1, sl s 2, sl s 3, sl s 4, z])))
                                      (some (Out.ext 0 [sl s 1, sl s 2])))
                                [x1, D.v (Value.int IntKind.i64 0), D.v (Value.int IntKind.i64 (-1)), x0, z,
                                  D.v (Value.int IntKind.i64 0)]).bind
                            fun o =>
                            outK o
                              (fun i s =>
                                match i.beq 0 with
                                | true => some (Out.ret [sl s 0, sl s 1, D.v (Value.bool true)] [])
                                | false => none)
                              fun a b => some (Out.ret a b))) := by kernel_rfl
theorem t_impl_LeastMetal (x0 x1 : D) : F_impl_LeastMetal [x0, x1] =
  (callK (F_impl_AreNotes [x0]) fun rs _u =>
    (un UnOp.not (sl rs 0)).bind fun z =>
      (gate (D.tup []) z false (some x1)).bind fun z_1 =>
        gateC z false (callK (F_impl_isMetalStart [z_1]) fun rs _u => some (Out.nrm [sl rs 0])) [D.tup []] fun outs =>
          (gate (D.tup []) z false (un UnOp.not (sl outs 0))).bind fun z_2 =>
            (pickD z (D.v (Value.bool true)) z_2).bind fun z =>
              (gate (D.tup []) z false (some x0)).bind fun z_3 =>
                (gate (D.tup []) z false (lenD false z_3)).bind fun z_4 =>
                  (gate (D.tup []) z false (bin BinOp.eql false [] z_4 (D.v (Value.int IntKind.i64 0)))).bind fun z_5 =>
                    (pickD z (D.v (Value.bool true)) z_5).bind fun z =>
                      ifD z
                        (some
                          (Out.ret
                            [D.v (Value.int IntKind.i64 0), D.v (Value.int IntKind.i64 0), D.v (Value.bool false)] []))
                        ((lenD false x0).bind fun z =>
                          (loopC
                                (fun s =>
                                  (bin BinOp.lss false [] (sl s 5) (sl s 4)).bind fun z =>
                                    ifD z
                                      ((Option.map D.ptr (elemD 3 (sl s 3) (sl s 5))).bind fun z =>
                                        ((ldD true 3 z).bind chkV).bind fun z =>
                                          (stD 3
                                                (D.agg
                                                  [D.v (Value.int IntKind.i64 0), D.v (Value.int IntKind.i64 0),
                                                    D.v (Value.int IntKind.i64 0)])
                                                (D.ref 0 0) z).bind
                                            fun b =>
                                            (fldD true 3 0 b).bind fun z =>
                                              callK (F_impl_change [z]) fun rs _u =>
                                                (bin BinOp.add false [] (sl s 0) (sl rs 0)).bind fun z =>
                                                  (bin BinOp.lss false [] (sl s 2) (D.v (Value.int IntKind.i64 0))).bind
                                                    fun z_6 =>
                                                    (gate (D.tup []) z_6 false (some z)).bind fun z_7 =>
                                                      (gate (D.tup []) z_6 false (some (sl s 1))).bind fun z_8 =>
                                                        (gate (D.tup []) z_6 false
                                                              (bin BinOp.lss false [] z_7 z_8)).bind
                                                          fun z_9 =>
                                                          (pickD z_6 (D.v (Value.bool true)) z_9).bind fun z_10 =>
                                                            ifD z_10
                                                              ((bin BinOp.add false [] (sl s 5)
                                                                    (D.v (Value.int IntKind.i64 1))).bind
                                                                fun z_11 =>
                                                                some (Out.nrm [z, z, sl s 5, sl s 3, sl s 4, z_11]))
                                                              ((bin BinOp.add false [] (sl s 5)
                                                                    (D.v (Value.int IntKind.i64 1))).bind
                                                                fun z_11 =>
                                                                some
                                                                  (Out.nrm [z, sl s 1, sl s 2, sl s 3, sl s 4, z_11])))
                                      (some (Out.ext 0 [sl s 1, sl s 2])))
                                [x1, D.v (Value.int IntKind.i64 0), D.v (Value.int IntKind.i64 (-1)), x0, z,
                                  D.v (Value.int IntKind.i64 0)]).bind
                            fun o =>
                            outK o
                              (fun i s =>
                                match i.beq 0 with
                                | true => some (Out.ret [sl s 0, sl s 1, D.v (Value.bool true)] [])
                                | false => none)
                              fun a b => some (Out.ret a b))) := by kernel_rfl
theorem t_laws_FnExactLeastMetal (x0 x1 : D) : F_laws_FnExactLeastMetal [x0, x1] =
  (callK (F_laws_szNoteS [x0, D.v (Value.int IntKind.i64 1048576)]) fun rs _u =>
    (bin BinOp.lss false [] (sl rs 0) (D.v (Value.int IntKind.i64 0))).bind fun z =>
      ifD z (some (Out.ret [D.v (Value.bool true)] []))
        (callK (F_laws_toNoteS [x0]) fun rs _u =>
          callK (F_spec_LeastMetal [sl rs 0, x1]) fun rs _u =>
            (tupAt (D.tup rs) 0).bind fun z =>
              (tupAt (D.tup rs) 1).bind fun z_1 =>
                (tupAt (D.tup rs) 2).bind fun z_2 =>
                  callK (F_laws_toNoteS [x0]) fun rs _u =>
                    callK (F_impl_LeastMetal [sl rs 0, x1]) fun rs_1 _u =>
                      (tupAt (D.tup rs_1) 0).bind fun z_3 =>
                        (tupAt (D.tup rs_1) 1).bind fun z_4 =>
                          (tupAt (D.tup rs_1) 2).bind fun z_5 =>
                            (bin BinOp.neq false [] z_3 z).bind fun z =>
                              (gate (D.tup []) z false (some z_4)).bind fun z_6 =>
                                (gate (D.tup []) z false (some z_1)).bind fun z_7 =>
                                  (gate (D.tup []) z false (bin BinOp.neq false [] z_6 z_7)).bind fun z_8 =>
                                    (pickD z (D.v (Value.bool true)) z_8).bind fun z =>
                                      (gate (D.tup []) z false (some z_5)).bind fun z_9 =>
                                        (gate (D.tup []) z false (some z_2)).bind fun z_10 =>
                                          (gate (D.tup []) z false (bin BinOp.neq true [] z_9 z_10)).bind fun z_11 =>
                                            (pickD z (D.v (Value.bool true)) z_11).bind fun z =>
                                              ifD z (some (Out.ret [D.v (Value.bool false)] []))
                                                (callK (F_laws_toNoteS [x0]) fun rs_2 _u =>
                                                  callK (F_laws_eqNoteS [sl rs 0, sl rs_2 0]) fun rs _u =>
                                                    (un UnOp.not (sl rs 0)).bind fun z =>
                                                      ifD z (some (Out.ret [D.v (Value.bool false)] []))
                                                        (some (Out.ret [D.v (Value.bool true)] []))))) := by kernel_rfl
theorem t_spec_NotesOn (x0 x1 x2 : D) : F_spec_NotesOn [x0, x1, x2] =
  (callK (F_spec_joGood [x0]) fun rs _u =>
    (un UnOp.not (sl rs 0)).bind fun z =>
      (gate (D.tup []) z false (some x1)).bind fun z_1 =>
        gateC z false (callK (F_spec_joDay [z_1]) fun rs _u => some (Out.nrm [sl rs 0])) [D.tup []] fun outs =>
          (gate (D.tup []) z false (un UnOp.not (sl outs 0))).bind fun z_2 =>
            (pickD z (D.v (Value.bool true)) z_2).bind fun z =>
              (gate (D.tup []) z false (some x2)).bind fun z_3 =>
                gateC z false (callK (F_spec_joDay [z_3]) fun rs _u => some (Out.nrm [sl rs 0])) [D.tup []] fun outs =>
                  (gate (D.tup []) z false (un UnOp.not (sl outs 0))).bind fun z_4 =>
                    (pickD z (D.v (Value.bool true)) z_4).bind fun z =>
                      ifD z (some (Out.ret [D.arr 3 [], D.v (Value.bool false)] []))
                        ((lenD false x0).bind fun z =>
                          (loopC
                                (fun s =>
                                  (bin BinOp.lss false [] (sl s 5) (sl s 4)).bind fun z =>
                                    ifD z
                                      ((Option.map D.ptr (elemD 3 (sl s 3) (sl s 5))).bind fun z =>
                                        ((ldD true 3 z).bind chkV).bind fun z =>
                                          (stD 3
                                                (D.agg
                                                  [D.v (Value.int IntKind.i64 0), D.v (Value.int IntKind.i64 0),
                                                    D.v (Value.int IntKind.i64 0)])
                                                (D.ref 0 0) z).bind
                                            fun b =>
                                            (liveD b (D.ref 0 0)).bind fun z =>
                                              ((atD b z).bind (takeD false 1)).bind fun z =>
                                                callK (F_spec_l1In [z, sl s 0, sl s 1]) fun rs _u =>
                                                  ifD (sl rs 0)
                                                    ((fldD true 3 0 b).bind fun z =>
                                                      (mkArr 3 [z]).bind fun a =>
                                                        (chkA a).bind fun b =>
                                                          (appD 3 24 (sl s 2) b).bind fun y =>
                                                            (bin BinOp.add false [] (sl s 5)
                                                                  (D.v (Value.int IntKind.i64 1))).bind
                                                              fun z =>
                                                              some (Out.nrm [sl s 0, sl s 1, y, sl s 3, sl s 4, z]))
                                                    ((bin BinOp.add false [] (sl s 5)
                                                          (D.v (Value.int IntKind.i64 1))).bind
                                                      fun z =>
                                                      some (Out.nrm [sl s 0, sl s 1, sl s 2, sl s 3, sl s 4, z])))
                                      (some (Out.ext 0 [sl s 2])))
                                [x1, x2, D.arr 3 [], x0, z, D.v (Value.int IntKind.i64 0)]).bind
                            fun o =>
                            outK o
                              (fun i s =>
                                match i.beq 0 with
                                | true => some (Out.ret [sl s 0, D.v (Value.bool true)] [])
                                | false => none)
                              fun a b => some (Out.ret a b))) := by kernel_rfl
theorem t_impl_NotesOn (x0 x1 x2 : D) : F_impl_NotesOn [x0, x1, x2] =
  (callK (F_impl_AreNotes [x0]) fun rs _u =>
    (un UnOp.not (sl rs 0)).bind fun z =>
      (gate (D.tup []) z false (some x1)).bind fun z_1 =>
        gateC z false (callK (F_impl_isNoteDay [z_1]) fun rs _u => some (Out.nrm [sl rs 0])) [D.tup []] fun outs =>
          (gate (D.tup []) z false (un UnOp.not (sl outs 0))).bind fun z_2 =>
            (pickD z (D.v (Value.bool true)) z_2).bind fun z =>
              (gate (D.tup []) z false (some x2)).bind fun z_3 =>
                gateC z false (callK (F_impl_isNoteDay [z_3]) fun rs _u => some (Out.nrm [sl rs 0])) [D.tup []]
                  fun outs =>
                  (gate (D.tup []) z false (un UnOp.not (sl outs 0))).bind fun z_4 =>
                    (pickD z (D.v (Value.bool true)) z_4).bind fun z =>
                      ifD z ((mkArr 3 []).bind fun a => some (Out.ret [a, D.v (Value.bool false)] []))
                        ((mkArr 3 []).bind fun a =>
                          (lenD false x0).bind fun z =>
                            (loopC
                                  (fun s =>
                                    (bin BinOp.lss false [] (sl s 5) (sl s 4)).bind fun z =>
                                      ifD z
                                        ((Option.map D.ptr (elemD 3 (sl s 3) (sl s 5))).bind fun z =>
                                          ((ldD true 3 z).bind chkV).bind fun z =>
                                            (stD 3
                                                  (D.agg
                                                    [D.v (Value.int IntKind.i64 0), D.v (Value.int IntKind.i64 0),
                                                      D.v (Value.int IntKind.i64 0)])
                                                  (D.ref 0 0) z).bind
                                              fun b =>
                                              (liveD b (D.ref 0 0)).bind fun z =>
                                                ((atD b z).bind (takeD false 1)).bind fun z =>
                                                  callK (F_impl_within [z, sl s 0, sl s 1]) fun rs _u =>
                                                    ifD (sl rs 0)
                                                      ((fldD true 3 0 b).bind fun z =>
                                                        (mkArr 3 [z]).bind fun a =>
                                                          (chkA a).bind fun b =>
                                                            (appD 3 24 (sl s 2) b).bind fun y =>
                                                              (bin BinOp.add false [] (sl s 5)
                                                                    (D.v (Value.int IntKind.i64 1))).bind
                                                                fun z =>
                                                                some (Out.nrm [sl s 0, sl s 1, y, sl s 3, sl s 4, z]))
                                                      ((bin BinOp.add false [] (sl s 5)
                                                            (D.v (Value.int IntKind.i64 1))).bind
                                                        fun z =>
                                                        some (Out.nrm [sl s 0, sl s 1, sl s 2, sl s 3, sl s 4, z])))
                                        (some (Out.ext 0 [sl s 2])))
                                  [x1, x2, a, x0, z, D.v (Value.int IntKind.i64 0)]).bind
                              fun o =>
                              outK o
                                (fun i s =>
                                  match i.beq 0 with
                                  | true => some (Out.ret [sl s 0, D.v (Value.bool true)] [])
                                  | false => none)
                                fun a b => some (Out.ret a b))) := by kernel_rfl
theorem t_laws_FnExactNotesOn (x0 x1 x2 : D) : F_laws_FnExactNotesOn [x0, x1, x2] =
  (callK (F_laws_szNoteS [x0, D.v (Value.int IntKind.i64 1048576)]) fun rs _u =>
    (bin BinOp.lss false [] (sl rs 0) (D.v (Value.int IntKind.i64 0))).bind fun z =>
      ifD z (some (Out.ret [D.v (Value.bool true)] []))
        (callK (F_laws_toNoteS [x0]) fun rs _u =>
          callK (F_spec_NotesOn [sl rs 0, x1, x2]) fun rs _u =>
            (tupAt (D.tup rs) 0).bind fun y =>
              (tupAt (tupCut (D.tup rs) 0) 1).bind fun z =>
                callK (F_laws_toNoteS [x0]) fun rs _u =>
                  (liveD (sl rs 0) (D.ref 0 0)).bind fun z_1 =>
                    (liveD z_1 (D.ref 0 0)).bind fun z_2 =>
                      (liveD z_2 (sl rs 0)).bind fun i =>
                        callK (F_impl_NotesOn [i, x1, x2]) fun rs_1 _u =>
                          (tupAt (D.tup rs_1) 0).bind fun y_1 =>
                            (tupAt (tupCut (D.tup rs_1) 0) 1).bind fun z_3 =>
                              (liveD y_1 (D.ref 0 0)).bind fun z_4 =>
                                (liveD z_4 (D.ref 0 0)).bind fun z_5 =>
                                  (liveD z_5 y_1).bind fun i =>
                                    callK (F_laws_eqNoteS [i, y]) fun rs_2 _u =>
                                      (un UnOp.not (sl rs_2 0)).bind fun z_6 =>
                                        (gate (D.tup []) z_6 false (some z_3)).bind fun z_7 =>
                                          (gate (D.tup []) z_6 false (some z)).bind fun z_8 =>
                                            (gate (D.tup []) z_6 false (bin BinOp.neq true [] z_7 z_8)).bind fun z_9 =>
                                              (pickD z_6 (D.v (Value.bool true)) z_9).bind fun z_10 =>
                                                ifD z_10 (some (Out.ret [D.v (Value.bool false)] []))
                                                  ((liveD z_1 (D.ref 0 0)).bind fun z_11 =>
                                                    callK (F_laws_toNoteS [x0]) fun rs_3 _u =>
                                                      (liveD z_11 (sl rs 0)).bind fun i =>
                                                        callK (F_laws_eqNoteS [i, sl rs_3 0]) fun rs_4 _u =>
                                                          (un UnOp.not (sl rs_4 0)).bind fun z_12 =>
                                                            ifD z_12 (some (Out.ret [D.v (Value.bool false)] []))
                                                              ((liveD z_1 (D.ref 0 0)).bind fun z_13 =>
                                                                (ref0 z_13 (sl rs 0)).bind fun i =>
                                                                  (liveD i i).bind fun i =>
                                                                    callK
                                                                      (F_laws_markNoteS
                                                                        [i, D.v (Value.int IntKind.i64 1)])
                                                                      fun rs _u =>
                                                                      (bin BinOp.lss false [] (sl rs 0)
                                                                            (D.v (Value.int IntKind.i64 0))).bind
                                                                        fun z_14 =>
                                                                        (gate D.bad z_14 false
                                                                              (liveD z_4 (D.ref 0 0))).bind
                                                                          fun z_15 =>
                                                                          (gate (D.tup []) z_14 false (some y)).bind
                                                                            fun z_16 =>
                                                                            gateC z_14 false
                                                                              ((liveD z_15 y_1).bind fun i =>
                                                                                callK (F_laws_eqNoteS [i, z_16])
                                                                                  fun rs _u => some (Out.nrm [sl rs 0]))
                                                                              [D.tup []] fun outs =>
                                                                              (gate (D.tup []) z_14 false
                                                                                    (un UnOp.not (sl outs 0))).bind
                                                                                fun z_17 =>
                                                                                (pickD z_14 (D.v (Value.bool true))
                                                                                      z_17).bind
                                                                                  fun z_18 =>
                                                                                  (gate (D.tup []) z_18 false
                                                                                        (some z_3)).bind
                                                                                    fun z_19 =>
                                                                                    (gate (D.tup []) z_18 false
                                                                                          (some z)).bind
                                                                                      fun z_20 =>
                                                                                      (gate (D.tup []) z_18 false
                                                                                            (bin BinOp.neq true [] z_19
                                                                                              z_20)).bind
                                                                                        fun z_21 =>
                                                                                        (pickD z_18
                                                                                              (D.v (Value.bool true))
                                                                                              z_21).bind
                                                                                          fun z_22 =>
                                                                                          ifD z_22
                                                                                            (some
                                                                                              (Out.ret
                                                                                                [D.v (Value.bool false)]
                                                                                                []))
                                                                                            ((liveD z_4
                                                                                                  (D.ref 0 0)).bind
                                                                                              fun z_23 =>
                                                                                              (ref0 z_23 y_1).bind
                                                                                                fun i =>
                                                                                                (liveD i i).bind
                                                                                                  fun i =>
                                                                                                  callK
                                                                                                    (F_laws_markNoteS
                                                                                                      [i,
                                                                                                        D.v
                                                                                                          (Value.int
                                                                                                            IntKind.i64
                                                                                                            1)])
                                                                                                    fun rs us =>
                                                                                                    (liveD z_4
                                                                                                          (D.ref 0
                                                                                                            0)).bind
                                                                                                      fun z_24 =>
                                                                                                      (liveD z_24
                                                                                                            (sl us
                                                                                                              0)).bind
                                                                                                        fun i =>
                                                                                                        callK
                                                                                                          (F_laws_heldNoteS
                                                                                                            [i,
                                                                                                              D.v
                                                                                                                (Value.int
                                                                                                                  IntKind.i64
                                                                                                                  1)])
                                                                                                          fun rs_5 _u =>
                                                                                                          (bin BinOp.lss
                                                                                                                false []
                                                                                                                (sl rs_5
                                                                                                                  0)
                                                                                                                (D.v
                                                                                                                  (Value.int
                                                                                                                    IntKind.i64
                                                                                                                    0))).bind
                                                                                                            fun z_25 =>
                                                                                                            ifD z_25
                                                                                                              (some
                                                                                                                (Out.ret
                                                                                                                  [D.v
                                                                                                                      (Value.bool
                                                                                                                        false)]
                                                                                                                  []))
                                                                                                              ((bin
                                                                                                                    BinOp.neq
                                                                                                                    false
                                                                                                                    []
                                                                                                                    (sl
                                                                                                                      rs_5
                                                                                                                      0)
                                                                                                                    (sl
                                                                                                                      rs
                                                                                                                      0)).bind
                                                                                                                fun
                                                                                                                  z_26 =>
                                                                                                                ifD z_26
                                                                                                                  (some
                                                                                                                    (Out.ret
                                                                                                                      [D.v
                                                                                                                          (Value.bool
                                                                                                                            false)]
                                                                                                                      []))
                                                                                                                  (callK
                                                                                                                    (F_laws_toNoteS
                                                                                                                      [x0])
                                                                                                                    fun
                                                                                                                      rs_6
                                                                                                                      _u =>
                                                                                                                    callK
                                                                                                                      (F_impl_NotesOn
                                                                                                                        [sl
                                                                                                                            rs_6
                                                                                                                            0,
                                                                                                                          x1,
                                                                                                                          x2])
                                                                                                                      fun
                                                                                                                        rs_7
                                                                                                                        _u =>
                                                                                                                      (tupAt
                                                                                                                            (D.tup
                                                                                                                              rs_7)
                                                                                                                            0).bind
                                                                                                                        fun
                                                                                                                          y_2 =>
                                                                                                                        (tupAt
                                                                                                                              (tupCut
                                                                                                                                (D.tup
                                                                                                                                  rs_7)
                                                                                                                                0)
                                                                                                                              1).bind
                                                                                                                          fun
                                                                                                                            z_27 =>
                                                                                                                          callK
                                                                                                                            (F_laws_eqNoteS
                                                                                                                              [y_2,
                                                                                                                                y])
                                                                                                                            fun
                                                                                                                              rs_8
                                                                                                                              _u =>
                                                                                                                            (un
                                                                                                                                  UnOp.not
                                                                                                                                  (sl
                                                                                                                                    rs_8
                                                                                                                                    0)).bind
                                                                                                                              fun
                                                                                                                                z_28 =>
                                                                                                                              (gate
                                                                                                                                    (D.tup
                                                                                                                                      [])
                                                                                                                                    z_28
                                                                                                                                    false
                                                                                                                                    (some
                                                                                                                                      z_27)).bind
                                                                                                                                fun
                                                                                                                                  z_29 =>
                                                                                                                                (gate
                                                                                                                                      (D.tup
                                                                                                                                        [])
                                                                                                                                      z_28
                                                                                                                                      false
                                                                                                                                      (some
                                                                                                                                        z)).bind
                                                                                                                                  fun
                                                                                                                                    z =>
                                                                                                                                  (gate
                                                                                                                                        (D.tup
                                                                                                                                          [])
                                                                                                                                        z_28
                                                                                                                                        false
                                                                                                                                        (bin
                                                                                                                                          BinOp.neq
                                                                                                                                          true
                                                                                                                                          []
                                                                                                                                          z_29
                                                                                                                                          z)).bind
                                                                                                                                    fun
                                                                                                                                      z =>
                                                                                                                                    (pickD
                                                                                                                                          z_28
                                                                                                                                          (D.v
                                                                                                                                            (Value.bool
                                                                                                                                              true))
                                                                                                                                          z).bind
                                                                                                                                      fun
                                                                                                                                        z =>
                                                                                                                                      ifD
                                                                                                                                        z
                                                                                                                                        (some
                                                                                                                                          (Out.ret
                                                                                                                                            [D.v
                                                                                                                                                (Value.bool
                                                                                                                                                  false)]
                                                                                                                                            []))
                                                                                                                                        ((liveD
                                                                                                                                              z_4
                                                                                                                                              (D.ref
                                                                                                                                                0
                                                                                                                                                0)).bind
                                                                                                                                          fun
                                                                                                                                            z =>
                                                                                                                                          (liveD
                                                                                                                                                z
                                                                                                                                                (sl
                                                                                                                                                  us
                                                                                                                                                  0)).bind
                                                                                                                                            fun
                                                                                                                                              i =>
                                                                                                                                            callK
                                                                                                                                              (F_laws_heldNoteS
                                                                                                                                                [i,
                                                                                                                                                  D.v
                                                                                                                                                    (Value.int
                                                                                                                                                      IntKind.i64
                                                                                                                                                      1)])
                                                                                                                                              fun
                                                                                                                                                rs_9
                                                                                                                                                _u =>
                                                                                                                                              (bin
                                                                                                                                                    BinOp.lss
                                                                                                                                                    false
                                                                                                                                                    []
                                                                                                                                                    (sl
                                                                                                                                                      rs_9
                                                                                                                                                      0)
                                                                                                                                                    (D.v
                                                                                                                                                      (Value.int
                                                                                                                                                        IntKind.i64
                                                                                                                                                        0))).bind
                                                                                                                                                fun
                                                                                                                                                  z =>
                                                                                                                                                ifD
                                                                                                                                                  z
                                                                                                                                                  (some
                                                                                                                                                    (Out.ret
                                                                                                                                                      [D.v
                                                                                                                                                          (Value.bool
                                                                                                                                                            false)]
                                                                                                                                                      []))
                                                                                                                                                  ((bin
                                                                                                                                                        BinOp.neq
                                                                                                                                                        false
                                                                                                                                                        []
                                                                                                                                                        (sl
                                                                                                                                                          rs_9
                                                                                                                                                          0)
                                                                                                                                                        (sl
                                                                                                                                                          rs
                                                                                                                                                          0)).bind
                                                                                                                                                    fun
                                                                                                                                                      z =>
                                                                                                                                                    ifD
                                                                                                                                                      z
                                                                                                                                                      (some
                                                                                                                                                        (Out.ret
                                                                                                                                                          [D.v
                                                                                                                                                              (Value.bool
                                                                                                                                                                false)]
                                                                                                                                                          []))
                                                                                                                                                      (some
                                                                                                                                                        (Out.ret
                                                                                                                                                          [D.v
                                                                                                                                                              (Value.bool
                                                                                                                                                                true)]
                                                                                                                                                          []))))))))))) := by kernel_rfl
end Go.Proofs.Ytkhggkbmjdopcaa
