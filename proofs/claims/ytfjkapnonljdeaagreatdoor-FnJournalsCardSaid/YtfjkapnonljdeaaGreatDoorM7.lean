/-
  What the functions compute: their evaluated texts, printed.
-/
import Derived.Test.YtfjkapnonljdeaaGreatDoorRows
import Derived.Test.YtfjkapnonljdeaaGreatDoorTie
import Derived.Test.YtfjkapnonljdeaaGreatDoorCards
import Derived.Test.YtfjkapnonljdeaaGreatDoorM6
namespace Go.Proofs.YtfjkapnonljdeaaGreatDoor
open Go Go.V
theorem t_laws_FnJournals (x0 x1 : D) : F_laws_FnJournals [x0, x1] =
  (callK (F_laws_big [x0, x1]) fun rs _u => ifD (sl rs 0) (some (Out.ret [D.v (Value.bool true)] [])) (callK (F_spec_DrawJournalText [x0]) fun rs _u => callK (F_impl_JournalText [sl rs 0]) fun rs_1 _u =>
 (tupAt (D.tup rs_1) 0).bind fun z => (tupAt (D.tup rs_1) 1).bind fun z_1 => callK (F_spec_JournalText [sl rs 0]) fun rs_2 _u => (tupAt (D.tup rs_2) 0).bind fun z_2 => (tupAt (D.tup rs_2) 1).bind fun z_3 =>
 (bin BinOp.neq true [] z_1 z_3).bind fun z_4 => (gate (D.tup []) z_4 false (some z)).bind fun z_5 => (gate (D.tup []) z_4 false (some z_2)).bind fun z_6 =>
 (gate (D.tup []) z_4 false (bin BinOp.neq false [] z_5 z_6)).bind fun z_7 => (pickD z_4 (D.v (Value.bool true)) z_7).bind fun z_8 => ifD z_8 (some (Out.ret [D.v (Value.bool false)] [])) (joinC (fun j => ifD z_1
 (callK (F_impl_ReadJournal [z]) fun rs_3 _u => (tupAt (D.tup rs_3) 0).bind fun y => (tupAt (tupCut (D.tup rs_3) 0) 1).bind fun z => (un UnOp.not z).bind fun z => (gate (D.tup []) z false (some y)).bind fun z_9 =>
 (gate (D.tup []) z false (some (sl rs 0))).bind fun z_10 => gateC z false (callK (F_laws_pSameNotes [z_9, z_10]) fun rs _u => some (Out.nrm [sl rs 0])) [D.tup []] fun outs =>
 (gate (D.tup []) z false (un UnOp.not (sl outs 0))).bind fun z_11 => (pickD z (D.v (Value.bool true)) z_11).bind fun z => (gate (D.tup []) z false (some (sl rs 0))).bind fun z_12 => gateC z false
 (callK (F_impl_AreNotes [z_12]) fun rs _u => some (Out.nrm [sl rs 0])) [D.tup []] fun outs => (gate (D.tup []) z false (un UnOp.not (sl outs 0))).bind fun z_13 => (pickD z (D.v (Value.bool true)) z_13).bind fun z =>
 ifD z (some (Out.ret [D.v (Value.bool false)] [])) ((lenD true z_2).bind fun z => (bin BinOp.gtr false [] z (D.v (Value.int IntKind.i64 0))).bind fun z => ifD z ((lenD true z_2).bind fun z => (bin BinOp.sub false [] z
 (D.v (Value.int IntKind.i64 1))).bind fun z => (sliceD true 0 z_2 (D.v (Value.int IntKind.i64 0)) z).bind fun z => callK (F_impl_Recovered [z]) fun rs_4 _u => (tupAt (D.tup rs_4) 0).bind fun y =>
 (tupAt (tupCut (D.tup rs_4) 0) 1).bind fun z => (tupAt (tupCut (D.tup rs_4) 0) 2).bind fun z_14 => (un UnOp.not z_14).bind fun z_15 => (gate (D.tup []) z_15 false (some y)).bind fun z_16 => (gate (D.tup []) z_15 false
 (lenD false z_16)).bind fun z_17 => (gate (D.tup []) z_15 false (some (sl rs 0))).bind fun z_18 => (gate (D.tup []) z_15 false (lenD false z_18)).bind fun z_19 => (gate (D.tup []) z_15 false (bin BinOp.sub false [] z_19
 (D.v (Value.int IntKind.i64 1)))).bind fun z_20 => (gate (D.tup []) z_15 false (bin BinOp.neq false [] z_17 z_20)).bind fun z_21 => (pickD z_15 (D.v (Value.bool true)) z_21).bind fun z_22 => (gate (D.tup []) z_22 false
 (some y)).bind fun z_23 => (gate (D.tup []) z_22 false (some (sl rs 0))).bind fun z_24 => (gate (D.tup []) z_22 false (some (sl rs 0))).bind fun z_25 => (gate (D.tup []) z_22 false (lenD false z_25)).bind fun z_26 =>
 (gate (D.tup []) z_22 false (bin BinOp.sub false [] z_26 (D.v (Value.int IntKind.i64 1)))).bind fun z_27 => (gate (D.tup []) z_22 false (sliceD false 3 z_24 (D.v (Value.int IntKind.i64 0)) z_27)).bind fun z_28 => gateC
 z_22 false (callK (F_laws_pSameNotes [z_23, z_28]) fun rs _u => some (Out.nrm [sl rs 0])) [D.tup []] fun outs => (gate (D.tup []) z_22 false (un UnOp.not (sl outs 0))).bind fun z_29 => (pickD z_22 (D.v (Value.bool true))
 z_29).bind fun z_30 => (gate (D.tup []) z_30 false (some z)).bind fun z => (gate (D.tup []) z_30 false (some z_2)).bind fun z_31 => (gate (D.tup []) z_30 false (lenD true z_31)).bind fun z_32 => (gate (D.tup []) z_30
 false (bin BinOp.geq false [] z z_32)).bind fun z => (pickD z_30 (D.v (Value.bool true)) z).bind fun z => ifD z (some (Out.ret [D.v (Value.bool false)] [])) (j [x1])) (j [x1]))) (j [x1])) fun s =>
 callK (F_spec_DrawRecovered [sl s 0]) fun rs _u => callK (F_impl_Recovered [sl rs 0]) fun rs_3 _u => (tupAt (D.tup rs_3) 0).bind fun y => (tupAt (tupCut (D.tup rs_3) 0) 1).bind fun z =>
 (tupAt (tupCut (D.tup rs_3) 0) 2).bind fun z_9 => callK (F_spec_Recovered [sl rs 0]) fun rs_4 _u => (tupAt (D.tup rs_4) 0).bind fun y_1 => (tupAt (tupCut (D.tup rs_4) 0) 1).bind fun z_10 =>
 (tupAt (tupCut (D.tup rs_4) 0) 2).bind fun z_11 => callK (F_impl_FirstBadLine [sl rs 0]) fun rs_5 _u => (tupAt (D.tup rs_5) 0).bind fun z_12 => (tupAt (D.tup rs_5) 1).bind fun z_13 =>
 callK (F_spec_FirstBadLine [sl rs 0]) fun rs_6 _u => (tupAt (D.tup rs_6) 0).bind fun z_14 => (tupAt (D.tup rs_6) 1).bind fun z_15 => callK (F_impl_ReadJournal [sl rs 0]) fun rs_7 _u =>
 (tupAt (D.tup rs_7) 0).bind fun y_2 => (tupAt (tupCut (D.tup rs_7) 0) 1).bind fun z_16 => callK (F_spec_ReadJournal [sl rs 0]) fun rs_8 _u => (tupAt (D.tup rs_8) 0).bind fun y_3 => (tupAt (tupCut (D.tup rs_8) 0) 1).bind
 fun z_17 => (bin BinOp.neq true [] z_9 z_11).bind fun z_18 => (gate (D.tup []) z_18 false (some y)).bind fun z_19 => (gate (D.tup []) z_18 false (some y_1)).bind fun z_20 => gateC z_18 false (callK
 (F_laws_pSameNotes [z_19, z_20]) fun rs _u => some (Out.nrm [sl rs 0])) [D.tup []] fun outs => (gate (D.tup []) z_18 false (un UnOp.not (sl outs 0))).bind fun z_21 => (pickD z_18 (D.v (Value.bool true)) z_21).bind
 fun z_22 => (gate (D.tup []) z_22 false (some z)).bind fun z => (gate (D.tup []) z_22 false (some z_10)).bind fun z_23 => (gate (D.tup []) z_22 false (bin BinOp.neq false [] z z_23)).bind fun z => (pickD z_22 (D.v
 (Value.bool true)) z).bind fun z => (gate (D.tup []) z false (some z_13)).bind fun z_24 => (gate (D.tup []) z false (some z_15)).bind fun z_25 => (gate (D.tup []) z false (bin BinOp.neq true [] z_24 z_25)).bind
 fun z_26 => (pickD z (D.v (Value.bool true)) z_26).bind fun z => (gate (D.tup []) z false (some z_12)).bind fun z_27 => (gate (D.tup []) z false (some z_14)).bind fun z_28 => (gate (D.tup []) z false (bin BinOp.neq false
 [] z_27 z_28)).bind fun z_29 => (pickD z (D.v (Value.bool true)) z_29).bind fun z => (gate (D.tup []) z false (some z_16)).bind fun z_30 => (gate (D.tup []) z false (some z_17)).bind fun z_31 => (gate (D.tup []) z false
 (bin BinOp.neq true [] z_30 z_31)).bind fun z_32 => (pickD z (D.v (Value.bool true)) z_32).bind fun z => (gate (D.tup []) z false (some y_2)).bind fun z_33 => (gate (D.tup []) z false (some y_3)).bind fun z_34 => gateC z
 false (callK (F_laws_pSameNotes [z_33, z_34]) fun rs _u => some (Out.nrm [sl rs 0])) [D.tup []] fun outs => (gate (D.tup []) z false (un UnOp.not (sl outs 0))).bind fun z_35 => (pickD z (D.v (Value.bool true)) z_35).bind
 fun z => (gate (D.tup []) z false (some z_13)).bind fun z_36 => (gate (D.tup []) z false (some z_36)).bind fun z_37 => (gate (D.tup []) z_37 true (some z_9)).bind fun z_38 => (gate (D.tup []) z_37 true (un UnOp.not
 z_38)).bind fun z_39 => (gate (D.tup []) z_37 true (some z_39)).bind fun z_40 => (gate (D.tup []) z_40 false (some z_14)).bind fun z_41 => (gate (D.tup []) z_40 false (some y_1)).bind fun z_42 => (gate (D.tup []) z_40
 false (lenD false z_42)).bind fun z_43 => (gate (D.tup []) z_40 false (bin BinOp.neq false [] z_41 z_43)).bind fun z_44 => (gate (D.tup []) z_37 true (pickD z_40 (D.v (Value.bool true)) z_44)).bind fun z_45 => (gate
 (D.tup []) z false (pickD z_37 z_45 (D.v (Value.bool false)))).bind fun z_46 => (pickD z (D.v (Value.bool true)) z_46).bind fun z => (gate (D.tup []) z false (some z_9)).bind fun z_47 => (gate (D.tup []) z false (some
 z_47)).bind fun z_48 => (gate (D.tup []) z_48 true (some z_13)).bind fun z_49 => (gate (D.tup []) z_48 true (some z_16)).bind fun z_50 => (gate (D.tup []) z_48 true (bin BinOp.eql true [] z_49 z_50)).bind fun z_51 =>
 (gate (D.tup []) z false (pickD z_48 z_51 (D.v (Value.bool false)))).bind fun z_52 => (pickD z (D.v (Value.bool true)) z_52).bind fun z => ifD z (some (Out.ret [D.v (Value.bool false)] [])) (joinC (fun j => ifD z_9 (callK
 (F_impl_JournalText [y]) fun rs_9 _u => (tupAt (D.tup rs_9) 0).bind fun z => (tupAt (D.tup rs_9) 1).bind fun z_53 => (un UnOp.not z_53).bind fun z_54 => (gate (D.tup []) z_54 false (some z)).bind fun z => (gate (D.tup [])
 z_54 false (some (sl rs 0))).bind fun z_55 => (gate (D.tup []) z_54 false (some z_10)).bind fun z_56 => (gate (D.tup []) z_54 false (sliceD true 0 z_55 (D.v (Value.int IntKind.i64 0)) z_56)).bind fun z_57 => (gate (D.tup
 []) z_54 false (bin BinOp.neq false [] z z_57)).bind fun z => (pickD z_54 (D.v (Value.bool true)) z).bind fun z => ifD z (some (Out.ret [D.v (Value.bool false)] [])) (j [sl s 0])) (j [sl s 0])) fun s => callK
 (F_spec_DrawAppendNote [sl s 0]) fun rs _u => (tupAt (D.tup rs) 0).bind fun z => (tupAt (D.tup rs) 1).bind fun z_53 => (stD 3 (D.agg [D.v (Value.int IntKind.i64 0), D.v (Value.int IntKind.i64 0), D.v (Value.int
 IntKind.i64 0)]) (D.ref 0 0) z_53).bind fun b => (fldD true 3 0 b).bind fun z_54 => callK (F_impl_AppendNote [z, z_54]) fun rs _u => (tupAt (D.tup rs) 0).bind fun z_55 => (tupAt (D.tup rs) 1).bind fun z_56 => (fldD true 3
 0 b).bind fun z_57 => callK (F_spec_AppendNote [z, z_57]) fun rs _u => (tupAt (D.tup rs) 0).bind fun z_58 => (tupAt (D.tup rs) 1).bind fun z_59 => (bin BinOp.neq true [] z_56 z_59).bind fun z_60 => (gate (D.tup []) z_60
 false (some z_55)).bind fun z_61 => (gate (D.tup []) z_60 false (some z_58)).bind fun z_62 => (gate (D.tup []) z_60 false (bin BinOp.neq false [] z_61 z_62)).bind fun z_63 => (pickD z_60 (D.v (Value.bool true)) z_63).bind
 fun z_64 => ifD z_64 (some (Out.ret [D.v (Value.bool false)] [])) (joinC (fun j => ifD z_56 (callK (F_impl_SameStart [z, z_55]) fun rs _u => (tupAt (D.tup rs) 0).bind fun z_65 => (tupAt (D.tup rs) 1).bind fun z_66 =>
 callK (F_impl_ReadJournal [z]) fun rs _u => (tupAt (D.tup rs) 0).bind fun y => (tupAt (tupCut (D.tup rs) 0) 1).bind fun z_67 => callK (F_spec_ReadJournal [z]) fun rs _u => (tupAt (D.tup rs) 0).bind fun y_4 => (tupAt
 (tupCut (D.tup rs) 0) 1).bind fun z_68 => (un UnOp.not z_66).bind fun z_69 => (gate (D.tup []) z_69 false (some z_67)).bind fun z_70 => (gate (D.tup []) z_69 false (un UnOp.not z_70)).bind fun z_71 => (pickD z_69 (D.v
 (Value.bool true)) z_71).bind fun z_72 => (gate (D.tup []) z_72 false (some z_68)).bind fun z_73 => (gate (D.tup []) z_72 false (un UnOp.not z_73)).bind fun z_74 => (pickD z_72 (D.v (Value.bool true)) z_74).bind fun
 z_75 => (gate (D.tup []) z_75 false (some y)).bind fun z_76 => (gate (D.tup []) z_75 false (some y_4)).bind fun z_77 => gateC z_75 false (callK (F_laws_pSameNotes [z_76, z_77]) fun rs _u => some (Out.nrm [sl rs 0]))
 [D.tup []] fun outs => (gate (D.tup []) z_75 false (un UnOp.not (sl outs 0))).bind fun z_78 => (pickD z_75 (D.v (Value.bool true)) z_78).bind fun z_79 => (gate (D.tup []) z_79 false (some z_65)).bind fun z_80 => (gate
 (D.tup []) z_79 false (some y_4)).bind fun z_81 => (gate (D.tup []) z_79 false (lenD false z_81)).bind fun z_82 => (gate (D.tup []) z_79 false (bin BinOp.neq false [] z_80 z_82)).bind fun z_83 => (pickD z_79 (D.v
 (Value.bool true)) z_83).bind fun z_84 => (gate (D.tup []) z_84 false (some z_58)).bind fun z_85 => (gate (D.tup []) z_84 false (some z)).bind fun z_86 => (gate (D.tup []) z_84 false (lenD true z_86)).bind fun z_87 =>
 (gate (D.tup []) z_84 false (sliceD true 0 z_85 (D.v (Value.int IntKind.i64 0)) z_87)).bind fun z_88 => (gate (D.tup []) z_84 false (some z)).bind fun z => (gate (D.tup []) z_84 false (bin BinOp.neq false [] z_88 z)).bind
 fun z => (pickD z_84 (D.v (Value.bool true)) z).bind fun z => ifD z (some (Out.ret [D.v (Value.bool false)] [])) (j [sl s 0])) (j [sl s 0])) fun s => callK (F_spec_DrawSameStart [sl s 0]) fun rs _u => (tupAt (D.tup rs)
 0).bind fun z => (tupAt (D.tup rs) 1).bind fun z_65 => callK (F_impl_SameStart [z, z_65]) fun rs _u => (tupAt (D.tup rs) 0).bind fun z_66 => (tupAt (D.tup rs) 1).bind fun z_67 => callK (F_spec_SameStart [z, z_65]) fun rs
 _u => (tupAt (D.tup rs) 0).bind fun z => (tupAt (D.tup rs) 1).bind fun z_68 => (bin BinOp.eql true [] z_67 z_68).bind fun z_69 => (gate (D.tup []) z_69 true (some z_66)).bind fun z_70 => (gate (D.tup []) z_69 true (some
 z)).bind fun z => (gate (D.tup []) z_69 true (bin BinOp.eql false [] z_70 z)).bind fun z => (pickD z_69 z (D.v (Value.bool false))).bind fun z => some (Out.ret [z] [])))))) := by kernel_rfl
end Go.Proofs.YtfjkapnonljdeaaGreatDoor
/-
  The law of journals.
-/
namespace Go.Proofs.YtfjkapnonljdeaaGreatDoor
open Go Go.V
set_option linter.unusedSimpArgs false

theorem tp2 {a b c : D} (h : c.isV = true) : tupAt (.tup [a, b, c]) 2 = some c := by
  cases c <;> first | rfl | (simp [D.isV] at h)
theorem tpn (l : List Nt) (ds : List D) : tupAt (.tup (nts l :: ds)) 0 = some (nts l) := rfl
theorem tpv (v : Value) (ds : List D) : tupAt (.tup (.v v :: ds)) 0 = some (.v v) := rfl
theorem tpv1 (a : D) (v : Value) (ds : List D) : tupAt (.tup (a :: .v v :: ds)) 1 = some (.v v) := rfl
theorem tpv2 (a b : D) (v : Value) (ds : List D) : tupAt (.tup (a :: b :: .v v :: ds)) 2 = some (.v v) := rfl
theorem tpa1 (a : D) (l : List D) (ds : List D) : tupAt (.tup (a :: .agg l :: ds)) 1 = some (.agg l) := rfl
theorem tct (a : D) (ds : List D) : tupCut (.tup (a :: ds)) 0 = .tup (.bad :: ds) := rfl

set_option maxRecDepth 100000 in
set_option maxHeartbeats 2000000 in
theorem law_Journals (code more : List Int) (hb1 : ∀ n ∈ code, 0 ≤ n ∧ n ≤ 255) (hb2 : ∀ n ∈ more, 0 ≤ n ∧ n ≤ 255) : F_laws_FnJournals [bytesD code, bytesD more] = some (.ret [B true] []) := by
  rw [t_laws_FnJournals]
  obtain ⟨p, hp, hp'⟩ := e_laws_big code more
  cases p
  case true => rw [hp]; rfl
  obtain ⟨hl1, hl2⟩ := hp' rfl
  obtain ⟨l, e1, b1⟩ := d_DrawJournalText code ⟨hb1, hl1⟩
  have j1 := e_impl_JournalText l (by omega)
  have j2 := e_spec_JournalText l (by omega)
  have p1 := e_laws_pSameNotes l (by omega)
  have an := e_impl_AreNotes l (by omega)
  simp -implicitDefEqProofs only [hp, callK_ret, sl_zero, ifD_B, Bool.false_eq_true, if_false, e1, j1, j2, tpv, tpv1, Option.bind_some, bin_neqB, beq_self_eq_true, Bool.not_true, gate_f, bin_neqS, decide_true, pickD_B]
  refine joinC_of (fun s => s = [bytesD more]) ?_ ?_
  · rintro s rfl
    obtain ⟨s, e2, b2⟩ := d_DrawRecovered more ⟨hb2, hl2⟩
    have r1 := e_impl_Recovered s (by omega)
    have r2 := e_spec_Recovered s (by omega)
    have f1 := e_impl_FirstBadLine s (by omega)
    have f2 := e_spec_FirstBadLine s (by omega)
    have q1 := e_impl_ReadJournal s (by omega)
    have q2 := e_spec_ReadJournal s (by omega)
    have hj := jo_len s
    have pj := e_laws_pSameNotes (jo s).1 (by omega)
    have p0 := e_laws_pSameNotes [] (by simp)
    have tail : ∀ (K : (List D → Option Out) → Option Out) (k : List D → Option Out), k [bytesD more] = some (.ret [B true] []) → (∀ j : List D → Option Out, j [bytesD more] = some (.ret [B true] []) → K j = some (.ret [B true] [])) → joinC K k = some (.ret [B true] []) := by
      intro K k hk hK
      exact joinC_of (fun s => s = [bytesD more]) (by rintro s rfl; exact hk) (fun j hj => hK j (hj _ rfl))
    simp -implicitDefEqProofs only [sl_zero, e2, callK_ret, r1, r2, f1, f2, q1, q2, tpn, tpv, tpv1, tpv2, tct, Option.bind_some]
    have hc : (recS s = ((jo s).1, (jo s).2, true) ∧ badS s = (0, false) ∧ jrS s = ((jo s).1, true)) ∨ (recS s = ((jo s).1, (jo s).2, true) ∧ badS s = (((jo s).1.length : Int), true) ∧ jrS s = ([], false)) ∨ (recS s = ([], 0, false) ∧ badS s = (0, false) ∧ jrS s = ([], false)) := by
      unfold recS badS jrS
      by_cases h1 : s.size ≤ 300 <;> by_cases h2 : (jo s).2 = s.size <;> simp [h1, h2]
    have hrec : (recS s).2.2 = true → s.size ≤ 300 ∧ recS s = ((jo s).1, (jo s).2, true) := by
      unfold recS
      by_cases h1 : s.size ≤ 300 <;> simp [h1]
    have hu := jo_used s
    have js := e_impl_JournalText (jo s).1 (by omega)
    have hsl : sliceD true 0 (T s) (I 0) (I ((jo s).2 : Int)) = some (T (s.extract 0 (jo s).2)) := sliceS (i := 0) (Nat.zero_le _) hu
    rcases hc with ⟨c1, c2, c3⟩ | ⟨c1, c2, c3⟩ | ⟨c1, c2, c3⟩
    all_goals
      simp -implicitDefEqProofs only [c1, c2, c3, bin_neqB, bin_eqlB, beq_self_eq_true, Bool.not_true, Option.bind_some, gate_f, gate_t, gate_s, gateC_s, gateC_f, Bool.false_eq_true, if_false, if_true, pj, p0, nrmK_some, callK_ret, sl_zero, un_not, pickD_B, bin_neq, decide_true, Bool.not_false, lenD_arr, List.length_map, ifD_B, show (true == false) = false from rfl, show (false == true) = false from rfl]
      refine tail _ _ ?_ ?_
    case inl.refine_2 =>
      intro j hj
      rw [jt_rec (hrec (by rw [c1])).1] at js
      simp -implicitDefEqProofs only [js, callK_ret, tpv, tpv1, Option.bind_some, un_not, Bool.not_true, gate_f, Bool.false_eq_true, if_false, hsl, bin_neqS, decide_true, pickD_B, ifD_B]
      exact hj
    case inr.inl.refine_2 =>
      intro j hj
      rw [jt_rec (hrec (by rw [c1])).1] at js
      simp -implicitDefEqProofs only [js, callK_ret, tpv, tpv1, Option.bind_some, un_not, Bool.not_true, gate_f, Bool.false_eq_true, if_false, hsl, bin_neqS, decide_true, pickD_B, ifD_B]
      exact hj
    case inr.inr.refine_2 => exact fun j hj => hj
    all_goals
      obtain ⟨u, x, e3, b3⟩ := d_DrawAppendNote more ⟨hb2, hl2⟩
      have a1 := e_impl_AppendNote u x (by omega)
      have a2 := e_spec_AppendNote u x (by omega)
      have hst : stD 3 (D.agg [D.v (Value.int IntKind.i64 0), D.v (Value.int IntKind.i64 0), D.v (Value.int IntKind.i64 0)]) (D.ref 0 0) (nt x) = some (nt x) := by simp
      have hfl : fldD true 3 0 (nt x) = some (nt x) := by simp
      simp -implicitDefEqProofs only [sl_zero, e3, callK_ret, tpv, tpa1, Option.bind_some, hst, hfl, a1, a2, tpv1, bin_neqB, beq_self_eq_true, Bool.not_true, gate_f, Bool.false_eq_true, if_false, bin_neqS, decide_true, pickD_B, ifD_B]
      refine tail _ _ ?_ ?_
      · obtain ⟨v, w, e4, b4, b5⟩ := d_DrawSameStart more ⟨hb2, hl2⟩
        have s1 := e_impl_SameStart v w (by omega) (by omega)
        have s2 := e_spec_SameStart v w (by omega) (by omega)
        simp -implicitDefEqProofs only [sl_zero, e4, callK_ret, tpv, tpv1, Option.bind_some, s1, s2, bin_eqlB, beq_self_eq_true, gate_t, if_true, bin_eql, decide_true, pickD_B]
      · intro j hj
        cases hok : (anS u x).2
        · simp -implicitDefEqProofs only [Bool.false_eq_true, if_false]
          exact hj
        obtain ⟨k, k1, k2, k3, k4, k5⟩ := an_ok hok
        have hz : (anS u x).1.size ≤ 300 := by
          have := hok
          unfold anS at this ⊢
          split
          · rename_i hp
            rw [if_pos hp] at this
            obtain ⟨_, g2, g3⟩ := jt_ok this
            rw [g3]
            exact g2
          · rename_i hp
            rw [if_neg hp] at this
            cases this
        have s1 := e_impl_SameStart u (anS u x).1 (by omega) (by omega)
        have q1 := e_impl_ReadJournal u (by omega)
        have q2 := e_spec_ReadJournal u (by omega)
        rw [k3] at s1
        rw [k1] at q1 q2
        have pk := e_laws_pSameNotes k (by omega)
        have hsu : sliceD true 0 (T (anS u x).1) (I 0) (I (u.size : Int)) = some (T ((anS u x).1.extract 0 u.size)) := sliceS (i := 0) (Nat.zero_le _) k4
        rw [k5] at hsu
        simp -implicitDefEqProofs only [if_true, s1, q1, q2, callK_ret, tpn, tct, tpv, tpv1, Option.bind_some, un_not, Bool.not_true, gate_f, Bool.false_eq_true, if_false, pickD_B, gateC_f, pk, nrmK_some, sl_zero, lenD_arr, List.length_map, bin_neq, decide_true, lenD_str, hsu, bin_neqS, ifD_B]
        exact hj
  · intro j hj
    cases hok : (jtS l).2
    · simp -implicitDefEqProofs only [Bool.false_eq_true, if_false]
      exact hj _ rfl
    obtain ⟨g1, g2, g3⟩ := jt_ok hok
    have q := e_impl_ReadJournal (jT l 7) (by omega)
    rw [jr_jT g1 g2] at q
    rw [g1] at an
    simp -implicitDefEqProofs only [if_true, g3, q, callK_ret, tpn, tct, tpv1, Option.bind_some, un_not, Bool.not_true, gate_f, Bool.false_eq_true, if_false, gateC_f, p1, nrmK_some, sl_zero, pickD_B, an, ifD_B, lenD_str, bin_gtr]
    by_cases hz : 0 < (jT l 7).size
    · obtain ⟨m, x, rfl, h5, h6⟩ := rec_cut g1 g2 hz
      have hz' : (0 : Int) < ((jT (m ++ [x]) 7).size : Int) := by omega
      have hw : IntKind.i64.wrap (((jT (m ++ [x]) 7).size : Int) - 1) = (((jT (m ++ [x]) 7).size - 1 : Nat) : Int) := by rw [wrap_id (by omega) (by omega)]; omega
      have hsl : sliceD true 0 (T (jT (m ++ [x]) 7)) (I 0) (I (((jT (m ++ [x]) 7).size - 1 : Nat) : Int)) = some (T ((jT (m ++ [x]) 7).extract 0 ((jT (m ++ [x]) 7).size - 1))) := sliceS (i := 0) (Nat.zero_le _) (by omega)
      have r := e_impl_Recovered ((jT (m ++ [x]) 7).extract 0 ((jT (m ++ [x]) 7).size - 1)) (by rw [ByteArray.size_extract]; omega)
      rw [h5] at r
      have hlen : ((nts (m ++ [x])) : D) = .arr 3 ((m ++ [x]).map nt) := rfl
      have p2 := e_laws_pSameNotes m (by simp at b1; omega)
      have hl2 : IntKind.i64.wrap (((m ++ [x]).length : Int) - 1) = ((m.length : Nat) : Int) := by
        rw [List.length_append, List.length_singleton]
        simp at b1
        rw [wrap_id (by omega) (by omega)]
        omega
      have hs2 : sliceD false 3 (nts (m ++ [x])) (I 0) (I (m.length : Int)) = some (nts m) := by
        have := sliceD_nat (z := 3) (i := 0) (j := m.length) (l := (m ++ [x]).map nt) (k := .i64) (k' := .i64) (Nat.zero_le _) (by simp)
        rw [List.drop_zero, ← List.map_take, List.take_left' rfl] at this
        exact this
      have hge : ¬ (((jT (m ++ [x]) 7).size : Int) ≤ ((jT m 7).size : Int)) := by omega
      simp -implicitDefEqProofs only [hz', decide_true, if_true, bin_sub, hw, hsl, r, callK_ret, tpn, tct, tpv1, tpv2, Option.bind_some, un_not, Bool.not_true, gate_f, Bool.false_eq_true, if_false, lenD_arr, List.length_map, hl2, bin_neq, pickD_B, hs2, gateC_f, p2, nrmK_some, sl_zero, lenD_str, bin_geq, hge, decide_false, ifD_B]
      exact hj _ rfl
    · have hz' : ¬ (0 : Int) < ((jT l 7).size : Int) := by omega
      simp -implicitDefEqProofs only [hz', decide_false, Bool.false_eq_true, if_false]
      exact hj _ rfl
end Go.Proofs.YtfjkapnonljdeaaGreatDoor
