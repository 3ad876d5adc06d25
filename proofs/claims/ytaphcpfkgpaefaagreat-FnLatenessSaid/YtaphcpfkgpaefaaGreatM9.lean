/-
  The law of lateness.
-/
import Derived.Test.YtaphcpfkgpaefaaGreatRows
import Derived.Test.YtaphcpfkgpaefaaGreatM8
namespace Go.Proofs.YtaphcpfkgpaefaaGreat
open Go Go.V
set_option linter.unusedSimpArgs false
set_option linter.unusedVariables false

theorem app_ods9 {l m : List Od} (h : l.length + m.length ≤ 1000) : appD 4 32 (ods l) (ods m) = some (ods (l ++ m)) := app_ods h
theorem lst_len {u : List Od} (h : u.length ≤ 9) : (lstR u).length ≤ 100 := lstR_len u (by omega)
theorem mst_len (o : List Od) : (mstR o).length ≤ o.length := by
  unfold mstR
  split
  · exact mostS_len _ _ _
  · exact Nat.zero_le _
/-- The end of the law. -/
theorem tail_fin (u : List Od) (hg : goodO u = true) (b : List Int) (hb : b = lstR u) : (b.length = u.length) ∧ (∀ k ∈ b, 0 ≤ k ∧ k < u.length) ∧ lstM u = mostL (lateO u b b.length) ∧ askO u b = true := by
  subst hb
  obtain ⟨h1, h2⟩ := lst_good hg
  obtain ⟨_, _, h3, _, h5⟩ := askO_facts h1
  exact ⟨h3, h5, h2, h1⟩
theorem max_step (own t d : Int) (h : 0 ≤ own) : max own (max 0 (t - d)) = if own < t - d then t - d else own := by
  split <;> omega
theorem tupAt_a0 (ds : List D) : tupAt (.tup (D.arr 0 [] :: ds)) 0 = some (D.arr 0 []) := rfl
set_option maxRecDepth 100000 in
set_option maxHeartbeats 4000000 in
theorem law_Lateness (code more : List Int) (hc : code.length ≤ 9223372036854775807) (hm : more.length ≤ 9223372036854775807) (hb1 : ∀ n ∈ code, 0 ≤ n ∧ n ≤ 255) (hb2 : ∀ n ∈ more, 0 ≤ n ∧ n ≤ 255) : F_laws_FnLateness [bytesD code, bytesD more] = some (.ret [B true] []) := by
  rw [t_laws_FnLateness]
  by_cases hbig : 1048576 < IntKind.i64.wrap ((code.length : Int) + (more.length : Int))
  · simp -implicitDefEqProofs only [sl_zero, sl_succ, liveD_agg, liveD_ref, liveD_arr, ref0_eq, Option.bind_some, Option.map_some, callK_ret, gate_t, gate_f, gate_s, gateC_t, gateC_f, gateC_s, nrmK_some, pickD_B, ifD_B, ifN_B, if_true, if_false, Bool.false_eq_true, un_not, Bool.not_true, Bool.not_false, decide_true, decide_false, and_self, outK_ext, Nat.beq_refl, bin_lss, bin_gtr, bin_leq, bin_geq, bin_eql, bin_neq, bin_add, bin_sub, bin_mul, lenD_arr, lenD_str, List.length_map, ldD_ptr, takeD_f, chkV_v, offD_ptr, List.drop_zero, List.drop_succ_cons, atD_agg, mkArr_nil, Int.reduceLT, Int.reduceLE, Int.reduceEq, hbig]
  obtain ⟨o, s, e1, z1, z2, z3⟩ := d_DrawLateOrders code ⟨hb1, hc⟩
  have i1 := e_impl_LateOrders o s (by omega) (by omega) z3
  have s1 := e_spec_LateOrders o s (by omega)
  have i2 := e_impl_TotalLateness o s (by omega) (by omega) z3
  have s2 := e_spec_TotalLateness o s (by omega)
  have i3 := e_impl_SequenceByDue o (by omega)
  have s3 := e_spec_SequenceByDue o (by omega)
  have i4 := e_fMst o (by omega)
  have s4 := e_spec_MostInTime o (by omega)
  have n1 := latR_len o s
  have n3 := dueR_len o
  have n4 := mst_len o
  have q1 := e_laws_qInts (latR o s) (by omega)
  have q3 := e_laws_qInts (dueR o) (by omega)
  have q4 := e_laws_qInts (mstR o) (by omega)
  have hcase : (askO o s = false ∧ goodO o = false) ∨ (askO o s = false ∧ goodO o = true) ∨ (askO o s = true ∧ goodO o = true) := by
    cases hA : askO o s
    · cases hg : goodO o
      · exact .inl ⟨rfl, rfl⟩
      · exact .inr (.inl ⟨rfl, rfl⟩)
    · refine .inr (.inr ⟨rfl, ?_⟩)
      simp only [askO, Bool.and_eq_true] at hA
      exact hA.1.1
  -- what is asked of sums and of all in time
  have key : askO o s = true → goodO o = true →
      (¬ 0 < totR o s ∧ ¬ 0 < ((latR o s).length : Int) ∧ ((latR o s).length : Int) = 0 ∧ ((mstR o).length : Int) < (o.length : Int) ∧ F_laws_qInts [ints s, ints (dueR o)] = some (.ret [B false] [])) ∨
      (¬ 0 < totR o s ∧ ¬ 0 < ((latR o s).length : Int) ∧ ((latR o s).length : Int) = 0 ∧ ¬ ((mstR o).length : Int) < (o.length : Int)) ∨
      (0 < totR o s ∧ 0 < ((latR o s).length : Int) ∧ ¬ ((latR o s).length : Int) = 0) := by
    intro hA hg
    have ht := lat_tot hA
    by_cases h0 : 0 < totR o s
    · have := ht.1 h0
      omega
    · have hz : (latR o s).length = 0 := by
        rcases Nat.eq_zero_or_pos (latR o s).length with h | h
        · exact h
        · exact absurd (ht.2 h) h0
      by_cases hlt : ((mstR o).length : Int) < (o.length : Int)
      · refine .inl ⟨h0, by omega, by omega, hlt, ?_⟩
        obtain ⟨_, _, h3, _, _⟩ := askO_facts hA
        refine qInts_ne s (dueR o) (by rw [dueR_eq hg, dueL_len]; exact h3) (by omega) fun e => ?_
        rw [dueR_eq hg] at e
        rw [e] at hz
        have := most_all hg hz
        omega
      · exact .inr (.inl ⟨h0, by omega, by omega, hlt⟩)
  have due_in : ∀ (u : List Od), (∀ x ∈ u, isOd x = true) → ∀ (k : Nat) (hk : k < u.length), 0 ≤ u[k].2.2.2 ∧ u[k].2.2.2 ≤ 10000 := fun u hu k hk => by
    have := hu u[k] (List.getElem_mem hk)
    simp only [isOd, Bool.and_eq_true, decide_eq_true_eq] at this
    exact this.2
  rcases hcase with ⟨hA, hg⟩ | ⟨hA, hg⟩ | ⟨hA, hg⟩
  · rw [hA] at i1 s1 i2 s2
    rw [hg] at i3 s3 i4 s4
    simp -implicitDefEqProofs only [sl_zero, sl_succ, liveD_agg, liveD_ref, liveD_arr, ref0_eq, Option.bind_some, Option.map_some, callK_ret, gate_t, gate_f, gate_s, gateC_t, gateC_f, gateC_s, nrmK_some, pickD_B, ifD_B, ifN_B, if_true, if_false, Bool.false_eq_true, un_not, Bool.not_true, Bool.not_false, decide_true, decide_false, and_self, outK_ext, Nat.beq_refl, bin_lss, bin_gtr, bin_leq, bin_geq, bin_eql, bin_neq, bin_add, bin_sub, bin_mul, lenD_arr, lenD_str, List.length_map, ldD_ptr, takeD_f, chkV_v, offD_ptr, List.drop_zero, List.drop_succ_cons, atD_agg, mkArr_nil, Int.reduceLT, Int.reduceLE, Int.reduceEq, hbig, e1, tpO0, tpI0, tpI1, tpv0, tpv1, tpv2, tpC1, tpC2, i1, s1, i2, s2, i3, s3, i4, s4, q1, q3, q4, bin_neqB, beq_self_eq_true, eq_self]
    refine joinC_of (fun st => st = [bytesD more]) ?_ ?_
    case refine_2 => exact fun j hj => hj _ rfl
    case refine_1 =>
      rintro _ rfl
      obtain ⟨u, w1, w2⟩ := d_DrawLeastLateness more ⟨hb2, hm⟩
      have j1 := e_fLst u (by omega)
      have j2 := e_spec_LeastLateness u (by omega)
      have jl := lst_len w2
      rcases lstW_is u with ⟨e, eu, el⟩ | e
      · rw [e] at j2
        rw [el] at j1
        subst eu
        have jq := qInts_nil
        simp -implicitDefEqProofs only [sl_zero, sl_succ, liveD_agg, liveD_ref, liveD_arr, ref0_eq, Option.bind_some, Option.map_some, callK_ret, gate_t, gate_f, gate_s, gateC_t, gateC_f, gateC_s, nrmK_some, pickD_B, ifD_B, ifN_B, if_true, if_false, Bool.false_eq_true, un_not, Bool.not_true, Bool.not_false, decide_true, decide_false, and_self, outK_ext, Nat.beq_refl, bin_lss, bin_gtr, bin_leq, bin_geq, bin_eql, bin_neq, bin_add, bin_sub, bin_mul, lenD_arr, lenD_str, List.length_map, ldD_ptr, takeD_f, chkV_v, offD_ptr, List.drop_zero, List.drop_succ_cons, atD_agg, mkArr_nil, Int.reduceLT, Int.reduceLE, Int.reduceEq, w1, j1, j2, jq, tpO0, tpI0, tpI1, tpv0, tpv1, tpv2, tpC1, tpC2, tupAt_a0, bin_neqB, beq_self_eq_true, eq_self, List.length_nil, Int.natCast_zero, Int.lt_irrefl]
        have hl0 : lenD false (ods []) = some (I 0) := rfl
        cases goodO [] <;> simp -implicitDefEqProofs only [sl_zero, sl_succ, liveD_agg, liveD_ref, liveD_arr, ref0_eq, Option.bind_some, Option.map_some, callK_ret, gate_t, gate_f, gate_s, gateC_t, gateC_f, gateC_s, nrmK_some, pickD_B, ifD_B, ifN_B, if_true, if_false, Bool.false_eq_true, un_not, Bool.not_true, Bool.not_false, decide_true, decide_false, and_self, outK_ext, Nat.beq_refl, bin_lss, bin_gtr, bin_leq, bin_geq, bin_eql, bin_neq, bin_add, bin_sub, bin_mul, lenD_arr, lenD_str, List.length_map, ldD_ptr, takeD_f, chkV_v, offD_ptr, List.drop_zero, List.drop_succ_cons, atD_agg, mkArr_nil, Int.reduceLT, Int.reduceLE, Int.reduceEq, hl0, Int.lt_irrefl]
      · rw [e] at j2
        have jq := e_laws_qInts (lstR u) (by omega)
        cases hgu : goodO u
        · rw [hgu] at j1 j2
          simp -implicitDefEqProofs only [sl_zero, sl_succ, liveD_agg, liveD_ref, liveD_arr, ref0_eq, Option.bind_some, Option.map_some, callK_ret, gate_t, gate_f, gate_s, gateC_t, gateC_f, gateC_s, nrmK_some, pickD_B, ifD_B, ifN_B, if_true, if_false, Bool.false_eq_true, un_not, Bool.not_true, Bool.not_false, decide_true, decide_false, and_self, outK_ext, Nat.beq_refl, bin_lss, bin_gtr, bin_leq, bin_geq, bin_eql, bin_neq, bin_add, bin_sub, bin_mul, lenD_arr, lenD_str, List.length_map, ldD_ptr, takeD_f, chkV_v, offD_ptr, List.drop_zero, List.drop_succ_cons, atD_agg, mkArr_nil, Int.reduceLT, Int.reduceLE, Int.reduceEq, w1, j1, j2, jq, tpO0, tpI0, tpI1, tpv0, tpv1, tpv2, tpC1, tpC2, bin_neqB, beq_self_eq_true, eq_self]
        · rw [hgu] at j1 j2
          obtain ⟨t1, t2, t3, t4⟩ := tail_fin u hgu (lstR u) rfl
          obtain ⟨g1, g2⟩ := goodO_all hgu
          have j3 := e_impl_FinishTimes u (lstR u) (by omega) (by omega) (fun x hx => by have := t2 x hx; unfold inI; omega)
          rw [t4] at j3
          have hf : finR u (lstR u) = tms u (lstR u) := by simp [finR, t4]
          rw [hf] at j3
          by_cases hu : (0 : Int) < u.length
          case neg => simp -implicitDefEqProofs only [sl_zero, sl_succ, liveD_agg, liveD_ref, liveD_arr, ref0_eq, Option.bind_some, Option.map_some, callK_ret, gate_t, gate_f, gate_s, gateC_t, gateC_f, gateC_s, nrmK_some, pickD_B, ifD_B, ifN_B, if_true, if_false, Bool.false_eq_true, un_not, Bool.not_true, Bool.not_false, decide_true, decide_false, and_self, outK_ext, Nat.beq_refl, bin_lss, bin_gtr, bin_leq, bin_geq, bin_eql, bin_neq, bin_add, bin_sub, bin_mul, lenD_arr, lenD_str, List.length_map, ldD_ptr, takeD_f, chkV_v, offD_ptr, List.drop_zero, List.drop_succ_cons, atD_agg, mkArr_nil, Int.reduceLT, Int.reduceLE, Int.reduceEq, w1, j1, j2, jq, tpO0, tpI0, tpI1, tpv0, tpv1, tpv2, tpC1, tpC2, bin_neqB, beq_self_eq_true, eq_self, hu]
          simp -implicitDefEqProofs only [sl_zero, sl_succ, liveD_agg, liveD_ref, liveD_arr, ref0_eq, Option.bind_some, Option.map_some, callK_ret, gate_t, gate_f, gate_s, gateC_t, gateC_f, gateC_s, nrmK_some, pickD_B, ifD_B, ifN_B, if_true, if_false, Bool.false_eq_true, un_not, Bool.not_true, Bool.not_false, decide_true, decide_false, and_self, outK_ext, Nat.beq_refl, bin_lss, bin_gtr, bin_leq, bin_geq, bin_eql, bin_neq, bin_add, bin_sub, bin_mul, lenD_arr, lenD_str, List.length_map, ldD_ptr, takeD_f, chkV_v, offD_ptr, List.drop_zero, List.drop_succ_cons, atD_agg, mkArr_nil, Int.reduceLT, Int.reduceLE, Int.reduceEq, w1, j1, j2, jq, tpO0, tpI0, tpI1, tpv0, tpv1, tpv2, tpC1, tpC2, bin_neqB, beq_self_eq_true, eq_self, hu, j3]
          have htl := timesO_len u (lstR u) (0, 0, 0)
          have hll := lateO_len u (lstR u) (lstR u).length
          rw [t3]
          generalize lstR u = b at *
          refine loop_bind _ (loop_for b.length (fun i => [ods u, I (mostL (lateO u b b.length)), ints (tms u b), I (((lateO u b b.length).take i).foldl max 0), ints b, I b.length, I i]) (.ext 4 [I (mostL (lateO u b b.length)), I (mostL (lateO u b b.length))]) (fun i hi => ?_) ?_ rfl rfl) ?_
          · have hw : IntKind.i64.wrap ((i : Int) + 1) = (i : Int) + 1 := wrap_id (by omega) (by omega)
            have hi' : (i : Int) < (b.length : Int) := by omega
            obtain ⟨k0, k1⟩ := t2 b[i] (List.getElem_mem hi)
            obtain ⟨kn, hk⟩ : ∃ kn : Nat, b[i] = (kn : Int) := ⟨b[i].toNat, by omega⟩
            have hkl : kn < u.length := by omega
            obtain ⟨t, m1, m2, m3⟩ := times_at g1 t2 (by omega) hi
            have d1 := due_in u g1 kn hkl
            have x1 := int_get (l := b) (i := i) hi
            rw [hk] at x1
            have htm : i < (tms u b).length := by rw [timesO_len]; exact hi
            have hti : (tms u b)[i]'htm = t := (List.getElem?_eq_some_iff.1 m1).2
            have x2 := int_get (l := tms u b) (i := i) htm
            rw [hti] at x2
            have x3 := od_get (l := u) (i := kn) hkl
            have hwd : IntKind.i64.wrap (t - u[kn].2.2.2) = t - u[kn].2.2.2 := wrap_id (by omega) (by omega)
            have hlf : lateF u b i = max 0 (t - u[kn].2.2.2) := by
              unfold lateF
              rw [List.getD_eq_getElem?_getD, m1, List.getD_eq_getElem?_getD, List.getElem?_eq_getElem hi, hk]
              simp [oAt, List.getD_eq_getElem?_getD, hkl]
            have hli : i < (lateO u b b.length).length := by rw [lateO_len]; exact hi
            have htk : (lateO u b b.length).take (i + 1) = (lateO u b b.length).take i ++ [max 0 (t - u[kn].2.2.2)] := by
              rw [List.take_succ_eq_append_getElem hli]
              congr 2
              rw [← hlf]
              simp [lateO]
            have hown : 0 ≤ ((lateO u b b.length).take i).foldl max 0 := most_le _ 0
            rw [htk, List.foldl_append, List.foldl_cons, List.foldl_nil, max_step _ _ _ hown]
            generalize ((lateO u b b.length).take i).foldl max 0 = own at *
            by_cases hlt : own < t - u[kn].2.2.2
            · rw [if_pos hlt]
              simp -implicitDefEqProofs only [sl_zero, sl_succ, liveD_agg, liveD_ref, liveD_arr, ref0_eq, Option.bind_some, Option.map_some, callK_ret, gate_t, gate_f, gate_s, gateC_t, gateC_f, gateC_s, nrmK_some, pickD_B, ifD_B, ifN_B, if_true, if_false, Bool.false_eq_true, un_not, Bool.not_true, Bool.not_false, decide_true, decide_false, and_self, outK_ext, Nat.beq_refl, bin_lss, bin_gtr, bin_leq, bin_geq, bin_eql, bin_neq, bin_add, bin_sub, bin_mul, lenD_arr, lenD_str, List.length_map, ldD_ptr, takeD_f, chkV_v, offD_ptr, List.drop_zero, List.drop_succ_cons, atD_agg, mkArr_nil, Int.reduceLT, Int.reduceLE, Int.reduceEq, hi', x1, x2, x3, hw, hwd, hlt, Int.natCast_add, Int.natCast_one]
            · rw [if_neg hlt]
              simp -implicitDefEqProofs only [sl_zero, sl_succ, liveD_agg, liveD_ref, liveD_arr, ref0_eq, Option.bind_some, Option.map_some, callK_ret, gate_t, gate_f, gate_s, gateC_t, gateC_f, gateC_s, nrmK_some, pickD_B, ifD_B, ifN_B, if_true, if_false, Bool.false_eq_true, un_not, Bool.not_true, Bool.not_false, decide_true, decide_false, and_self, outK_ext, Nat.beq_refl, bin_lss, bin_gtr, bin_leq, bin_geq, bin_eql, bin_neq, bin_add, bin_sub, bin_mul, lenD_arr, lenD_str, List.length_map, ldD_ptr, takeD_f, chkV_v, offD_ptr, List.drop_zero, List.drop_succ_cons, atD_agg, mkArr_nil, Int.reduceLT, Int.reduceLE, Int.reduceEq, hi', x1, x2, x3, hw, hwd, hlt, Int.natCast_add, Int.natCast_one]
          · have : (lateO u b b.length).take b.length = lateO u b b.length := List.take_of_length_le (by omega)
            simp -implicitDefEqProofs only [sl_zero, sl_succ, liveD_agg, liveD_ref, liveD_arr, ref0_eq, Option.bind_some, Option.map_some, callK_ret, gate_t, gate_f, gate_s, gateC_t, gateC_f, gateC_s, nrmK_some, pickD_B, ifD_B, ifN_B, if_true, if_false, Bool.false_eq_true, un_not, Bool.not_true, Bool.not_false, decide_true, decide_false, and_self, outK_ext, Nat.beq_refl, bin_lss, bin_gtr, bin_leq, bin_geq, bin_eql, bin_neq, bin_add, bin_sub, bin_mul, lenD_arr, lenD_str, List.length_map, ldD_ptr, takeD_f, chkV_v, offD_ptr, List.drop_zero, List.drop_succ_cons, atD_agg, mkArr_nil, Int.reduceLT, Int.reduceLE, Int.reduceEq, Int.lt_irrefl, this]
            rfl
          · simp -implicitDefEqProofs only [sl_zero, sl_succ, liveD_agg, liveD_ref, liveD_arr, ref0_eq, Option.bind_some, Option.map_some, callK_ret, gate_t, gate_f, gate_s, gateC_t, gateC_f, gateC_s, nrmK_some, pickD_B, ifD_B, ifN_B, if_true, if_false, Bool.false_eq_true, un_not, Bool.not_true, Bool.not_false, decide_true, decide_false, and_self, outK_ext, Nat.beq_refl, bin_lss, bin_gtr, bin_leq, bin_geq, bin_eql, bin_neq, bin_add, bin_sub, bin_mul, lenD_arr, lenD_str, List.length_map, ldD_ptr, takeD_f, chkV_v, offD_ptr, List.drop_zero, List.drop_succ_cons, atD_agg, mkArr_nil, Int.reduceLT, Int.reduceLE, Int.reduceEq, eq_self]
  · rw [hA] at i1 s1 i2 s2
    rw [hg] at i3 s3 i4 s4
    simp -implicitDefEqProofs only [sl_zero, sl_succ, liveD_agg, liveD_ref, liveD_arr, ref0_eq, Option.bind_some, Option.map_some, callK_ret, gate_t, gate_f, gate_s, gateC_t, gateC_f, gateC_s, nrmK_some, pickD_B, ifD_B, ifN_B, if_true, if_false, Bool.false_eq_true, un_not, Bool.not_true, Bool.not_false, decide_true, decide_false, and_self, outK_ext, Nat.beq_refl, bin_lss, bin_gtr, bin_leq, bin_geq, bin_eql, bin_neq, bin_add, bin_sub, bin_mul, lenD_arr, lenD_str, List.length_map, ldD_ptr, takeD_f, chkV_v, offD_ptr, List.drop_zero, List.drop_succ_cons, atD_agg, mkArr_nil, Int.reduceLT, Int.reduceLE, Int.reduceEq, hbig, e1, tpO0, tpI0, tpI1, tpv0, tpv1, tpv2, tpC1, tpC2, i1, s1, i2, s2, i3, s3, i4, s4, q1, q3, q4, bin_neqB, beq_self_eq_true, eq_self]
    refine joinC_of (fun st => st = [bytesD more]) ?_ ?_
    case refine_2 =>
      intro j hj
      replace hj := hj [bytesD more] rfl
      obtain ⟨g1, g2⟩ := goodO_all hg
      have hdr : dueR o = dueL o := dueR_eq hg
      have hdl := dueL_len o
      have hdin := dueL_in o
      rw [hdr]
      refine loop_bind _ (loop_for (o.length - 1) (fun i => [bytesD more, ods o, ints (dueL o), ints (mstR o), I ((i : Int) + 1)]) (.ext 0 [bytesD more, ods o, ints (mstR o)]) (fun i hi => ?_) ?_ rfl rfl) ?_
      · have x1 := int_get (l := dueL o) (i := i) (by omega)
        have x2 := int_get (l := dueL o) (i := i + 1) (by omega)
        have up := due_up (l := o) i (by omega)
        have a1 := hdin _ (List.getElem_mem (show i < (dueL o).length by omega))
        have b1 := hdin _ (List.getElem_mem (show i + 1 < (dueL o).length by omega))
        obtain ⟨an, han⟩ : ∃ n : Nat, (dueL o)[i]'(by omega) = (n : Int) := ⟨((dueL o)[i]'(by omega)).toNat, by omega⟩
        obtain ⟨bn, hbn⟩ : ∃ n : Nat, (dueL o)[i + 1]'(by omega) = (n : Int) := ⟨((dueL o)[i + 1]'(by omega)).toNat, by omega⟩
        rw [han] at x1 up a1
        rw [hbn] at x2 up b1
        have ha : an < o.length := by omega
        have hb : bn < o.length := by omega
        have y1 := od_get (l := o) (i := an) ha
        have y2 := od_get (l := o) (i := bn) hb
        have hn : ¬ o[bn].2.2.2 < o[an].2.2.2 := by
          simp only [oAt, Int.toNat_natCast, List.getD_eq_getElem?_getD, List.getElem?_eq_getElem ha, List.getElem?_eq_getElem hb, Option.getD_some] at up
          omega
        have hw1 : IntKind.i64.wrap ((i : Int) + 1 - 1) = (i : Int) := by rw [wrap_id (by omega) (by omega)]; omega
        have hw2 : IntKind.i64.wrap ((i : Int) + 1 + 1) = (i : Int) + 1 + 1 := wrap_id (by omega) (by omega)
        have h7 : (i : Int) + 1 < ((dueL o).length : Int) := by omega
        rw [Int.natCast_add, Int.natCast_one] at x2
        simp -implicitDefEqProofs only [sl_zero, sl_succ, liveD_agg, liveD_ref, liveD_arr, ref0_eq, Option.bind_some, Option.map_some, callK_ret, gate_t, gate_f, gate_s, gateC_t, gateC_f, gateC_s, nrmK_some, pickD_B, ifD_B, ifN_B, if_true, if_false, Bool.false_eq_true, un_not, Bool.not_true, Bool.not_false, decide_true, decide_false, and_self, outK_ext, Nat.beq_refl, bin_lss, bin_gtr, bin_leq, bin_geq, bin_eql, bin_neq, bin_add, bin_sub, bin_mul, lenD_arr, lenD_str, List.length_map, ldD_ptr, takeD_f, chkV_v, offD_ptr, List.drop_zero, List.drop_succ_cons, atD_agg, mkArr_nil, Int.reduceLT, Int.reduceLE, Int.reduceEq, h7, hw1, x1, x2, y1, y2, hn, hw2, Int.natCast_add, Int.natCast_one]
      · have h7 : ¬ ((o.length - 1 : Nat) : Int) + 1 < ((dueL o).length : Int) := by omega
        simp -implicitDefEqProofs only [sl_zero, sl_succ, liveD_agg, liveD_ref, liveD_arr, ref0_eq, Option.bind_some, Option.map_some, callK_ret, gate_t, gate_f, gate_s, gateC_t, gateC_f, gateC_s, nrmK_some, pickD_B, ifD_B, ifN_B, if_true, if_false, Bool.false_eq_true, un_not, Bool.not_true, Bool.not_false, decide_true, decide_false, and_self, outK_ext, Nat.beq_refl, bin_lss, bin_gtr, bin_leq, bin_geq, bin_eql, bin_neq, bin_add, bin_sub, bin_mul, lenD_arr, lenD_str, List.length_map, ldD_ptr, takeD_f, chkV_v, offD_ptr, List.drop_zero, List.drop_succ_cons, atD_agg, mkArr_nil, Int.reduceLT, Int.reduceLE, Int.reduceEq, h7]
      · simp -implicitDefEqProofs only [sl_zero, sl_succ, liveD_agg, liveD_ref, liveD_arr, ref0_eq, Option.bind_some, Option.map_some, callK_ret, gate_t, gate_f, gate_s, gateC_t, gateC_f, gateC_s, nrmK_some, pickD_B, ifD_B, ifN_B, if_true, if_false, Bool.false_eq_true, un_not, Bool.not_true, Bool.not_false, decide_true, decide_false, and_self, outK_ext, Nat.beq_refl, bin_lss, bin_gtr, bin_leq, bin_geq, bin_eql, bin_neq, bin_add, bin_sub, bin_mul, lenD_arr, lenD_str, List.length_map, ldD_ptr, takeD_f, chkV_v, offD_ptr, List.drop_zero, List.drop_succ_cons, atD_agg, mkArr_nil, Int.reduceLT, Int.reduceLE, Int.reduceEq]
        refine loop_bind _ (loop_for o.length (fun i => [bytesD more, ints (mstR o), ods (pickO o ((List.range i).filter fun (k : Nat) => decide ((k : Int) ∈ mstR o))), ods o, I o.length, I i]) (.ext 2 [bytesD more, ods (pickO o (isP o fun (k : Nat) => decide ((k : Int) ∈ mstR o)))]) (fun i hi => ?_) ?_ rfl rfl) ?_
        · have hw : IntKind.i64.wrap ((i : Int) + 1) = (i : Int) + 1 := wrap_id (by omega) (by omega)
          have hi' : (i : Int) < (o.length : Int) := by omega
          have y1 := od_get (l := o) (i := i) hi
          have qh := e_laws_qHas (mstR o) i (by omega)
          have hol : (pickO o ((List.range i).filter fun (k : Nat) => decide ((k : Int) ∈ mstR o))).length ≤ 9 := by
            unfold pickO
            rw [List.length_map]
            refine Nat.le_trans (List.length_filter_le _ _) ?_
            rw [List.length_range]
            omega
          rw [List.range_succ, List.filter_append]
          by_cases hmm : (i : Int) ∈ mstR o
          · rw [decide_eq_true hmm] at qh
            have e2 : pickO o ((List.range i).filter (fun (k : Nat) => decide ((k : Int) ∈ mstR o)) ++ [i].filter fun (k : Nat) => decide ((k : Int) ∈ mstR o)) = pickO o ((List.range i).filter fun (k : Nat) => decide ((k : Int) ∈ mstR o)) ++ [o[i]] := by
              simp [pickO, hmm, List.getD_eq_getElem?_getD, hi]
            have hap := app_ods9 (l := pickO o ((List.range i).filter fun (k : Nat) => decide ((k : Int) ∈ mstR o))) (m := [o[i]]) (by simp; omega)
            rw [e2]
            simp -implicitDefEqProofs only [sl_zero, sl_succ, liveD_agg, liveD_ref, liveD_arr, ref0_eq, Option.bind_some, Option.map_some, callK_ret, gate_t, gate_f, gate_s, gateC_t, gateC_f, gateC_s, nrmK_some, pickD_B, ifD_B, ifN_B, if_true, if_false, Bool.false_eq_true, un_not, Bool.not_true, Bool.not_false, decide_true, decide_false, and_self, outK_ext, Nat.beq_refl, bin_lss, bin_gtr, bin_leq, bin_geq, bin_eql, bin_neq, bin_add, bin_sub, bin_mul, lenD_arr, lenD_str, List.length_map, ldD_ptr, takeD_f, chkV_v, offD_ptr, List.drop_zero, List.drop_succ_cons, atD_agg, mkArr_nil, Int.reduceLT, Int.reduceLE, Int.reduceEq, hi', y1, tk_od, st_box, fld_box, mk_od, chk_ods, qh, hap, hw, Int.natCast_add, Int.natCast_one]
          · rw [decide_eq_false hmm] at qh
            have e2 : pickO o ((List.range i).filter (fun (k : Nat) => decide ((k : Int) ∈ mstR o)) ++ [i].filter fun (k : Nat) => decide ((k : Int) ∈ mstR o)) = pickO o ((List.range i).filter fun (k : Nat) => decide ((k : Int) ∈ mstR o)) := by
              simp [hmm]
            rw [e2]
            simp -implicitDefEqProofs only [sl_zero, sl_succ, liveD_agg, liveD_ref, liveD_arr, ref0_eq, Option.bind_some, Option.map_some, callK_ret, gate_t, gate_f, gate_s, gateC_t, gateC_f, gateC_s, nrmK_some, pickD_B, ifD_B, ifN_B, if_true, if_false, Bool.false_eq_true, un_not, Bool.not_true, Bool.not_false, decide_true, decide_false, and_self, outK_ext, Nat.beq_refl, bin_lss, bin_gtr, bin_leq, bin_geq, bin_eql, bin_neq, bin_add, bin_sub, bin_mul, lenD_arr, lenD_str, List.length_map, ldD_ptr, takeD_f, chkV_v, offD_ptr, List.drop_zero, List.drop_succ_cons, atD_agg, mkArr_nil, Int.reduceLT, Int.reduceLE, Int.reduceEq, hi', y1, tk_od, st_box, fld_box, mk_od, chk_ods, qh, hw, Int.natCast_add, Int.natCast_one]
        · simp -implicitDefEqProofs only [sl_zero, sl_succ, liveD_agg, liveD_ref, liveD_arr, ref0_eq, Option.bind_some, Option.map_some, callK_ret, gate_t, gate_f, gate_s, gateC_t, gateC_f, gateC_s, nrmK_some, pickD_B, ifD_B, ifN_B, if_true, if_false, Bool.false_eq_true, un_not, Bool.not_true, Bool.not_false, decide_true, decide_false, and_self, outK_ext, Nat.beq_refl, bin_lss, bin_gtr, bin_leq, bin_geq, bin_eql, bin_neq, bin_add, bin_sub, bin_mul, lenD_arr, lenD_str, List.length_map, ldD_ptr, takeD_f, chkV_v, offD_ptr, List.drop_zero, List.drop_succ_cons, atD_agg, mkArr_nil, Int.reduceLT, Int.reduceLE, Int.reduceEq, Int.lt_irrefl]
        · have hgp := good_pick (l := o) (p := fun (k : Nat) => decide ((k : Int) ∈ mstR o)) hg
          have hnone := pick_none hg
          have hask := due_ask hgp
          generalize pickO o (isP o fun (k : Nat) => decide ((k : Int) ∈ mstR o)) = w at *
          have hw8 := (goodO_all hgp).2
          have r1 := e_impl_SequenceByDue w (by omega)
          rw [hgp, dueR_eq hgp] at r1
          have r2 := e_impl_LateOrders w (dueL w) (by omega) (by rw [dueL_len]; omega) (fun x hx => by have := dueL_in w x hx; unfold inI; omega)
          rw [hask] at r2
          have hz : ((latR w (dueL w)).length : Int) = 0 := by omega
          simp -implicitDefEqProofs only [sl_zero, sl_succ, liveD_agg, liveD_ref, liveD_arr, ref0_eq, Option.bind_some, Option.map_some, callK_ret, gate_t, gate_f, gate_s, gateC_t, gateC_f, gateC_s, nrmK_some, pickD_B, ifD_B, ifN_B, if_true, if_false, Bool.false_eq_true, un_not, Bool.not_true, Bool.not_false, decide_true, decide_false, and_self, outK_ext, Nat.beq_refl, bin_lss, bin_gtr, bin_leq, bin_geq, bin_eql, bin_neq, bin_add, bin_sub, bin_mul, lenD_arr, lenD_str, List.length_map, ldD_ptr, takeD_f, chkV_v, offD_ptr, List.drop_zero, List.drop_succ_cons, atD_agg, mkArr_nil, Int.reduceLT, Int.reduceLE, Int.reduceEq, r1, r2, tpI0, tpC1, hz, Int.lt_irrefl]
          exact hj
    case refine_1 =>
      rintro _ rfl
      obtain ⟨u, w1, w2⟩ := d_DrawLeastLateness more ⟨hb2, hm⟩
      have j1 := e_fLst u (by omega)
      have j2 := e_spec_LeastLateness u (by omega)
      have jl := lst_len w2
      rcases lstW_is u with ⟨e, eu, el⟩ | e
      · rw [e] at j2
        rw [el] at j1
        subst eu
        have jq := qInts_nil
        simp -implicitDefEqProofs only [sl_zero, sl_succ, liveD_agg, liveD_ref, liveD_arr, ref0_eq, Option.bind_some, Option.map_some, callK_ret, gate_t, gate_f, gate_s, gateC_t, gateC_f, gateC_s, nrmK_some, pickD_B, ifD_B, ifN_B, if_true, if_false, Bool.false_eq_true, un_not, Bool.not_true, Bool.not_false, decide_true, decide_false, and_self, outK_ext, Nat.beq_refl, bin_lss, bin_gtr, bin_leq, bin_geq, bin_eql, bin_neq, bin_add, bin_sub, bin_mul, lenD_arr, lenD_str, List.length_map, ldD_ptr, takeD_f, chkV_v, offD_ptr, List.drop_zero, List.drop_succ_cons, atD_agg, mkArr_nil, Int.reduceLT, Int.reduceLE, Int.reduceEq, w1, j1, j2, jq, tpO0, tpI0, tpI1, tpv0, tpv1, tpv2, tpC1, tpC2, tupAt_a0, bin_neqB, beq_self_eq_true, eq_self, List.length_nil, Int.natCast_zero, Int.lt_irrefl]
        have hl0 : lenD false (ods []) = some (I 0) := rfl
        cases goodO [] <;> simp -implicitDefEqProofs only [sl_zero, sl_succ, liveD_agg, liveD_ref, liveD_arr, ref0_eq, Option.bind_some, Option.map_some, callK_ret, gate_t, gate_f, gate_s, gateC_t, gateC_f, gateC_s, nrmK_some, pickD_B, ifD_B, ifN_B, if_true, if_false, Bool.false_eq_true, un_not, Bool.not_true, Bool.not_false, decide_true, decide_false, and_self, outK_ext, Nat.beq_refl, bin_lss, bin_gtr, bin_leq, bin_geq, bin_eql, bin_neq, bin_add, bin_sub, bin_mul, lenD_arr, lenD_str, List.length_map, ldD_ptr, takeD_f, chkV_v, offD_ptr, List.drop_zero, List.drop_succ_cons, atD_agg, mkArr_nil, Int.reduceLT, Int.reduceLE, Int.reduceEq, hl0, Int.lt_irrefl]
      · rw [e] at j2
        have jq := e_laws_qInts (lstR u) (by omega)
        cases hgu : goodO u
        · rw [hgu] at j1 j2
          simp -implicitDefEqProofs only [sl_zero, sl_succ, liveD_agg, liveD_ref, liveD_arr, ref0_eq, Option.bind_some, Option.map_some, callK_ret, gate_t, gate_f, gate_s, gateC_t, gateC_f, gateC_s, nrmK_some, pickD_B, ifD_B, ifN_B, if_true, if_false, Bool.false_eq_true, un_not, Bool.not_true, Bool.not_false, decide_true, decide_false, and_self, outK_ext, Nat.beq_refl, bin_lss, bin_gtr, bin_leq, bin_geq, bin_eql, bin_neq, bin_add, bin_sub, bin_mul, lenD_arr, lenD_str, List.length_map, ldD_ptr, takeD_f, chkV_v, offD_ptr, List.drop_zero, List.drop_succ_cons, atD_agg, mkArr_nil, Int.reduceLT, Int.reduceLE, Int.reduceEq, w1, j1, j2, jq, tpO0, tpI0, tpI1, tpv0, tpv1, tpv2, tpC1, tpC2, bin_neqB, beq_self_eq_true, eq_self]
        · rw [hgu] at j1 j2
          obtain ⟨t1, t2, t3, t4⟩ := tail_fin u hgu (lstR u) rfl
          obtain ⟨g1, g2⟩ := goodO_all hgu
          have j3 := e_impl_FinishTimes u (lstR u) (by omega) (by omega) (fun x hx => by have := t2 x hx; unfold inI; omega)
          rw [t4] at j3
          have hf : finR u (lstR u) = tms u (lstR u) := by simp [finR, t4]
          rw [hf] at j3
          by_cases hu : (0 : Int) < u.length
          case neg => simp -implicitDefEqProofs only [sl_zero, sl_succ, liveD_agg, liveD_ref, liveD_arr, ref0_eq, Option.bind_some, Option.map_some, callK_ret, gate_t, gate_f, gate_s, gateC_t, gateC_f, gateC_s, nrmK_some, pickD_B, ifD_B, ifN_B, if_true, if_false, Bool.false_eq_true, un_not, Bool.not_true, Bool.not_false, decide_true, decide_false, and_self, outK_ext, Nat.beq_refl, bin_lss, bin_gtr, bin_leq, bin_geq, bin_eql, bin_neq, bin_add, bin_sub, bin_mul, lenD_arr, lenD_str, List.length_map, ldD_ptr, takeD_f, chkV_v, offD_ptr, List.drop_zero, List.drop_succ_cons, atD_agg, mkArr_nil, Int.reduceLT, Int.reduceLE, Int.reduceEq, w1, j1, j2, jq, tpO0, tpI0, tpI1, tpv0, tpv1, tpv2, tpC1, tpC2, bin_neqB, beq_self_eq_true, eq_self, hu]
          simp -implicitDefEqProofs only [sl_zero, sl_succ, liveD_agg, liveD_ref, liveD_arr, ref0_eq, Option.bind_some, Option.map_some, callK_ret, gate_t, gate_f, gate_s, gateC_t, gateC_f, gateC_s, nrmK_some, pickD_B, ifD_B, ifN_B, if_true, if_false, Bool.false_eq_true, un_not, Bool.not_true, Bool.not_false, decide_true, decide_false, and_self, outK_ext, Nat.beq_refl, bin_lss, bin_gtr, bin_leq, bin_geq, bin_eql, bin_neq, bin_add, bin_sub, bin_mul, lenD_arr, lenD_str, List.length_map, ldD_ptr, takeD_f, chkV_v, offD_ptr, List.drop_zero, List.drop_succ_cons, atD_agg, mkArr_nil, Int.reduceLT, Int.reduceLE, Int.reduceEq, w1, j1, j2, jq, tpO0, tpI0, tpI1, tpv0, tpv1, tpv2, tpC1, tpC2, bin_neqB, beq_self_eq_true, eq_self, hu, j3]
          have htl := timesO_len u (lstR u) (0, 0, 0)
          have hll := lateO_len u (lstR u) (lstR u).length
          rw [t3]
          generalize lstR u = b at *
          refine loop_bind _ (loop_for b.length (fun i => [ods u, I (mostL (lateO u b b.length)), ints (tms u b), I (((lateO u b b.length).take i).foldl max 0), ints b, I b.length, I i]) (.ext 4 [I (mostL (lateO u b b.length)), I (mostL (lateO u b b.length))]) (fun i hi => ?_) ?_ rfl rfl) ?_
          · have hw : IntKind.i64.wrap ((i : Int) + 1) = (i : Int) + 1 := wrap_id (by omega) (by omega)
            have hi' : (i : Int) < (b.length : Int) := by omega
            obtain ⟨k0, k1⟩ := t2 b[i] (List.getElem_mem hi)
            obtain ⟨kn, hk⟩ : ∃ kn : Nat, b[i] = (kn : Int) := ⟨b[i].toNat, by omega⟩
            have hkl : kn < u.length := by omega
            obtain ⟨t, m1, m2, m3⟩ := times_at g1 t2 (by omega) hi
            have d1 := due_in u g1 kn hkl
            have x1 := int_get (l := b) (i := i) hi
            rw [hk] at x1
            have htm : i < (tms u b).length := by rw [timesO_len]; exact hi
            have hti : (tms u b)[i]'htm = t := (List.getElem?_eq_some_iff.1 m1).2
            have x2 := int_get (l := tms u b) (i := i) htm
            rw [hti] at x2
            have x3 := od_get (l := u) (i := kn) hkl
            have hwd : IntKind.i64.wrap (t - u[kn].2.2.2) = t - u[kn].2.2.2 := wrap_id (by omega) (by omega)
            have hlf : lateF u b i = max 0 (t - u[kn].2.2.2) := by
              unfold lateF
              rw [List.getD_eq_getElem?_getD, m1, List.getD_eq_getElem?_getD, List.getElem?_eq_getElem hi, hk]
              simp [oAt, List.getD_eq_getElem?_getD, hkl]
            have hli : i < (lateO u b b.length).length := by rw [lateO_len]; exact hi
            have htk : (lateO u b b.length).take (i + 1) = (lateO u b b.length).take i ++ [max 0 (t - u[kn].2.2.2)] := by
              rw [List.take_succ_eq_append_getElem hli]
              congr 2
              rw [← hlf]
              simp [lateO]
            have hown : 0 ≤ ((lateO u b b.length).take i).foldl max 0 := most_le _ 0
            rw [htk, List.foldl_append, List.foldl_cons, List.foldl_nil, max_step _ _ _ hown]
            generalize ((lateO u b b.length).take i).foldl max 0 = own at *
            by_cases hlt : own < t - u[kn].2.2.2
            · rw [if_pos hlt]
              simp -implicitDefEqProofs only [sl_zero, sl_succ, liveD_agg, liveD_ref, liveD_arr, ref0_eq, Option.bind_some, Option.map_some, callK_ret, gate_t, gate_f, gate_s, gateC_t, gateC_f, gateC_s, nrmK_some, pickD_B, ifD_B, ifN_B, if_true, if_false, Bool.false_eq_true, un_not, Bool.not_true, Bool.not_false, decide_true, decide_false, and_self, outK_ext, Nat.beq_refl, bin_lss, bin_gtr, bin_leq, bin_geq, bin_eql, bin_neq, bin_add, bin_sub, bin_mul, lenD_arr, lenD_str, List.length_map, ldD_ptr, takeD_f, chkV_v, offD_ptr, List.drop_zero, List.drop_succ_cons, atD_agg, mkArr_nil, Int.reduceLT, Int.reduceLE, Int.reduceEq, hi', x1, x2, x3, hw, hwd, hlt, Int.natCast_add, Int.natCast_one]
            · rw [if_neg hlt]
              simp -implicitDefEqProofs only [sl_zero, sl_succ, liveD_agg, liveD_ref, liveD_arr, ref0_eq, Option.bind_some, Option.map_some, callK_ret, gate_t, gate_f, gate_s, gateC_t, gateC_f, gateC_s, nrmK_some, pickD_B, ifD_B, ifN_B, if_true, if_false, Bool.false_eq_true, un_not, Bool.not_true, Bool.not_false, decide_true, decide_false, and_self, outK_ext, Nat.beq_refl, bin_lss, bin_gtr, bin_leq, bin_geq, bin_eql, bin_neq, bin_add, bin_sub, bin_mul, lenD_arr, lenD_str, List.length_map, ldD_ptr, takeD_f, chkV_v, offD_ptr, List.drop_zero, List.drop_succ_cons, atD_agg, mkArr_nil, Int.reduceLT, Int.reduceLE, Int.reduceEq, hi', x1, x2, x3, hw, hwd, hlt, Int.natCast_add, Int.natCast_one]
          · have : (lateO u b b.length).take b.length = lateO u b b.length := List.take_of_length_le (by omega)
            simp -implicitDefEqProofs only [sl_zero, sl_succ, liveD_agg, liveD_ref, liveD_arr, ref0_eq, Option.bind_some, Option.map_some, callK_ret, gate_t, gate_f, gate_s, gateC_t, gateC_f, gateC_s, nrmK_some, pickD_B, ifD_B, ifN_B, if_true, if_false, Bool.false_eq_true, un_not, Bool.not_true, Bool.not_false, decide_true, decide_false, and_self, outK_ext, Nat.beq_refl, bin_lss, bin_gtr, bin_leq, bin_geq, bin_eql, bin_neq, bin_add, bin_sub, bin_mul, lenD_arr, lenD_str, List.length_map, ldD_ptr, takeD_f, chkV_v, offD_ptr, List.drop_zero, List.drop_succ_cons, atD_agg, mkArr_nil, Int.reduceLT, Int.reduceLE, Int.reduceEq, Int.lt_irrefl, this]
            rfl
          · simp -implicitDefEqProofs only [sl_zero, sl_succ, liveD_agg, liveD_ref, liveD_arr, ref0_eq, Option.bind_some, Option.map_some, callK_ret, gate_t, gate_f, gate_s, gateC_t, gateC_f, gateC_s, nrmK_some, pickD_B, ifD_B, ifN_B, if_true, if_false, Bool.false_eq_true, un_not, Bool.not_true, Bool.not_false, decide_true, decide_false, and_self, outK_ext, Nat.beq_refl, bin_lss, bin_gtr, bin_leq, bin_geq, bin_eql, bin_neq, bin_add, bin_sub, bin_mul, lenD_arr, lenD_str, List.length_map, ldD_ptr, takeD_f, chkV_v, offD_ptr, List.drop_zero, List.drop_succ_cons, atD_agg, mkArr_nil, Int.reduceLT, Int.reduceLE, Int.reduceEq, eq_self]
  · have hk := key hA hg
    rw [hA] at i1 s1 i2 s2
    rw [hg] at i3 s3 i4 s4
    rcases hk with ⟨h1, h2, h3, h4, h5⟩ | ⟨h1, h2, h3, h4⟩ | ⟨h1, h2, h3⟩
    all_goals
      first
        | simp -implicitDefEqProofs only [sl_zero, sl_succ, liveD_agg, liveD_ref, liveD_arr, ref0_eq, Option.bind_some, Option.map_some, callK_ret, gate_t, gate_f, gate_s, gateC_t, gateC_f, gateC_s, nrmK_some, pickD_B, ifD_B, ifN_B, if_true, if_false, Bool.false_eq_true, un_not, Bool.not_true, Bool.not_false, decide_true, decide_false, and_self, outK_ext, Nat.beq_refl, bin_lss, bin_gtr, bin_leq, bin_geq, bin_eql, bin_neq, bin_add, bin_sub, bin_mul, lenD_arr, lenD_str, List.length_map, ldD_ptr, takeD_f, chkV_v, offD_ptr, List.drop_zero, List.drop_succ_cons, atD_agg, mkArr_nil, Int.reduceLT, Int.reduceLE, Int.reduceEq, hbig, e1, tpO0, tpI0, tpI1, tpv0, tpv1, tpv2, tpC1, tpC2, i1, s1, i2, s2, i3, s3, i4, s4, q1, q3, q4, bin_neqB, beq_self_eq_true, eq_self, h1, h2, h3, h4, h5]
        | simp -implicitDefEqProofs only [sl_zero, sl_succ, liveD_agg, liveD_ref, liveD_arr, ref0_eq, Option.bind_some, Option.map_some, callK_ret, gate_t, gate_f, gate_s, gateC_t, gateC_f, gateC_s, nrmK_some, pickD_B, ifD_B, ifN_B, if_true, if_false, Bool.false_eq_true, un_not, Bool.not_true, Bool.not_false, decide_true, decide_false, and_self, outK_ext, Nat.beq_refl, bin_lss, bin_gtr, bin_leq, bin_geq, bin_eql, bin_neq, bin_add, bin_sub, bin_mul, lenD_arr, lenD_str, List.length_map, ldD_ptr, takeD_f, chkV_v, offD_ptr, List.drop_zero, List.drop_succ_cons, atD_agg, mkArr_nil, Int.reduceLT, Int.reduceLE, Int.reduceEq, hbig, e1, tpO0, tpI0, tpI1, tpv0, tpv1, tpv2, tpC1, tpC2, i1, s1, i2, s2, i3, s3, i4, s4, q1, q3, q4, bin_neqB, beq_self_eq_true, eq_self, h1, h2, h3, h4]
        | simp -implicitDefEqProofs only [sl_zero, sl_succ, liveD_agg, liveD_ref, liveD_arr, ref0_eq, Option.bind_some, Option.map_some, callK_ret, gate_t, gate_f, gate_s, gateC_t, gateC_f, gateC_s, nrmK_some, pickD_B, ifD_B, ifN_B, if_true, if_false, Bool.false_eq_true, un_not, Bool.not_true, Bool.not_false, decide_true, decide_false, and_self, outK_ext, Nat.beq_refl, bin_lss, bin_gtr, bin_leq, bin_geq, bin_eql, bin_neq, bin_add, bin_sub, bin_mul, lenD_arr, lenD_str, List.length_map, ldD_ptr, takeD_f, chkV_v, offD_ptr, List.drop_zero, List.drop_succ_cons, atD_agg, mkArr_nil, Int.reduceLT, Int.reduceLE, Int.reduceEq, hbig, e1, tpO0, tpI0, tpI1, tpv0, tpv1, tpv2, tpC1, tpC2, i1, s1, i2, s2, i3, s3, i4, s4, q1, q3, q4, bin_neqB, beq_self_eq_true, eq_self, h1, h2, h3]
      refine joinC_of (fun st => st = [bytesD more]) ?_ ?_
      case refine_2 =>
        intro j hj
        replace hj := hj [bytesD more] rfl
        obtain ⟨g1, g2⟩ := goodO_all hg
        have hdr : dueR o = dueL o := dueR_eq hg
        have hdl := dueL_len o
        have hdin := dueL_in o
        rw [hdr]
        refine loop_bind _ (loop_for (o.length - 1) (fun i => [bytesD more, ods o, ints (dueL o), ints (mstR o), I ((i : Int) + 1)]) (.ext 0 [bytesD more, ods o, ints (mstR o)]) (fun i hi => ?_) ?_ rfl rfl) ?_
        · have x1 := int_get (l := dueL o) (i := i) (by omega)
          have x2 := int_get (l := dueL o) (i := i + 1) (by omega)
          have up := due_up (l := o) i (by omega)
          have a1 := hdin _ (List.getElem_mem (show i < (dueL o).length by omega))
          have b1 := hdin _ (List.getElem_mem (show i + 1 < (dueL o).length by omega))
          obtain ⟨an, han⟩ : ∃ n : Nat, (dueL o)[i]'(by omega) = (n : Int) := ⟨((dueL o)[i]'(by omega)).toNat, by omega⟩
          obtain ⟨bn, hbn⟩ : ∃ n : Nat, (dueL o)[i + 1]'(by omega) = (n : Int) := ⟨((dueL o)[i + 1]'(by omega)).toNat, by omega⟩
          rw [han] at x1 up a1
          rw [hbn] at x2 up b1
          have ha : an < o.length := by omega
          have hb : bn < o.length := by omega
          have y1 := od_get (l := o) (i := an) ha
          have y2 := od_get (l := o) (i := bn) hb
          have hn : ¬ o[bn].2.2.2 < o[an].2.2.2 := by
            simp only [oAt, Int.toNat_natCast, List.getD_eq_getElem?_getD, List.getElem?_eq_getElem ha, List.getElem?_eq_getElem hb, Option.getD_some] at up
            omega
          have hw1 : IntKind.i64.wrap ((i : Int) + 1 - 1) = (i : Int) := by rw [wrap_id (by omega) (by omega)]; omega
          have hw2 : IntKind.i64.wrap ((i : Int) + 1 + 1) = (i : Int) + 1 + 1 := wrap_id (by omega) (by omega)
          have h7 : (i : Int) + 1 < ((dueL o).length : Int) := by omega
          rw [Int.natCast_add, Int.natCast_one] at x2
          simp -implicitDefEqProofs only [sl_zero, sl_succ, liveD_agg, liveD_ref, liveD_arr, ref0_eq, Option.bind_some, Option.map_some, callK_ret, gate_t, gate_f, gate_s, gateC_t, gateC_f, gateC_s, nrmK_some, pickD_B, ifD_B, ifN_B, if_true, if_false, Bool.false_eq_true, un_not, Bool.not_true, Bool.not_false, decide_true, decide_false, and_self, outK_ext, Nat.beq_refl, bin_lss, bin_gtr, bin_leq, bin_geq, bin_eql, bin_neq, bin_add, bin_sub, bin_mul, lenD_arr, lenD_str, List.length_map, ldD_ptr, takeD_f, chkV_v, offD_ptr, List.drop_zero, List.drop_succ_cons, atD_agg, mkArr_nil, Int.reduceLT, Int.reduceLE, Int.reduceEq, h7, hw1, x1, x2, y1, y2, hn, hw2, Int.natCast_add, Int.natCast_one]
        · have h7 : ¬ ((o.length - 1 : Nat) : Int) + 1 < ((dueL o).length : Int) := by omega
          simp -implicitDefEqProofs only [sl_zero, sl_succ, liveD_agg, liveD_ref, liveD_arr, ref0_eq, Option.bind_some, Option.map_some, callK_ret, gate_t, gate_f, gate_s, gateC_t, gateC_f, gateC_s, nrmK_some, pickD_B, ifD_B, ifN_B, if_true, if_false, Bool.false_eq_true, un_not, Bool.not_true, Bool.not_false, decide_true, decide_false, and_self, outK_ext, Nat.beq_refl, bin_lss, bin_gtr, bin_leq, bin_geq, bin_eql, bin_neq, bin_add, bin_sub, bin_mul, lenD_arr, lenD_str, List.length_map, ldD_ptr, takeD_f, chkV_v, offD_ptr, List.drop_zero, List.drop_succ_cons, atD_agg, mkArr_nil, Int.reduceLT, Int.reduceLE, Int.reduceEq, h7]
        · simp -implicitDefEqProofs only [sl_zero, sl_succ, liveD_agg, liveD_ref, liveD_arr, ref0_eq, Option.bind_some, Option.map_some, callK_ret, gate_t, gate_f, gate_s, gateC_t, gateC_f, gateC_s, nrmK_some, pickD_B, ifD_B, ifN_B, if_true, if_false, Bool.false_eq_true, un_not, Bool.not_true, Bool.not_false, decide_true, decide_false, and_self, outK_ext, Nat.beq_refl, bin_lss, bin_gtr, bin_leq, bin_geq, bin_eql, bin_neq, bin_add, bin_sub, bin_mul, lenD_arr, lenD_str, List.length_map, ldD_ptr, takeD_f, chkV_v, offD_ptr, List.drop_zero, List.drop_succ_cons, atD_agg, mkArr_nil, Int.reduceLT, Int.reduceLE, Int.reduceEq]
          refine loop_bind _ (loop_for o.length (fun i => [bytesD more, ints (mstR o), ods (pickO o ((List.range i).filter fun (k : Nat) => decide ((k : Int) ∈ mstR o))), ods o, I o.length, I i]) (.ext 2 [bytesD more, ods (pickO o (isP o fun (k : Nat) => decide ((k : Int) ∈ mstR o)))]) (fun i hi => ?_) ?_ rfl rfl) ?_
          · have hw : IntKind.i64.wrap ((i : Int) + 1) = (i : Int) + 1 := wrap_id (by omega) (by omega)
            have hi' : (i : Int) < (o.length : Int) := by omega
            have y1 := od_get (l := o) (i := i) hi
            have qh := e_laws_qHas (mstR o) i (by omega)
            have hol : (pickO o ((List.range i).filter fun (k : Nat) => decide ((k : Int) ∈ mstR o))).length ≤ 9 := by
              unfold pickO
              rw [List.length_map]
              refine Nat.le_trans (List.length_filter_le _ _) ?_
              rw [List.length_range]
              omega
            rw [List.range_succ, List.filter_append]
            by_cases hmm : (i : Int) ∈ mstR o
            · rw [decide_eq_true hmm] at qh
              have e2 : pickO o ((List.range i).filter (fun (k : Nat) => decide ((k : Int) ∈ mstR o)) ++ [i].filter fun (k : Nat) => decide ((k : Int) ∈ mstR o)) = pickO o ((List.range i).filter fun (k : Nat) => decide ((k : Int) ∈ mstR o)) ++ [o[i]] := by
                simp [pickO, hmm, List.getD_eq_getElem?_getD, hi]
              have hap := app_ods9 (l := pickO o ((List.range i).filter fun (k : Nat) => decide ((k : Int) ∈ mstR o))) (m := [o[i]]) (by simp; omega)
              rw [e2]
              simp -implicitDefEqProofs only [sl_zero, sl_succ, liveD_agg, liveD_ref, liveD_arr, ref0_eq, Option.bind_some, Option.map_some, callK_ret, gate_t, gate_f, gate_s, gateC_t, gateC_f, gateC_s, nrmK_some, pickD_B, ifD_B, ifN_B, if_true, if_false, Bool.false_eq_true, un_not, Bool.not_true, Bool.not_false, decide_true, decide_false, and_self, outK_ext, Nat.beq_refl, bin_lss, bin_gtr, bin_leq, bin_geq, bin_eql, bin_neq, bin_add, bin_sub, bin_mul, lenD_arr, lenD_str, List.length_map, ldD_ptr, takeD_f, chkV_v, offD_ptr, List.drop_zero, List.drop_succ_cons, atD_agg, mkArr_nil, Int.reduceLT, Int.reduceLE, Int.reduceEq, hi', y1, tk_od, st_box, fld_box, mk_od, chk_ods, qh, hap, hw, Int.natCast_add, Int.natCast_one]
            · rw [decide_eq_false hmm] at qh
              have e2 : pickO o ((List.range i).filter (fun (k : Nat) => decide ((k : Int) ∈ mstR o)) ++ [i].filter fun (k : Nat) => decide ((k : Int) ∈ mstR o)) = pickO o ((List.range i).filter fun (k : Nat) => decide ((k : Int) ∈ mstR o)) := by
                simp [hmm]
              rw [e2]
              simp -implicitDefEqProofs only [sl_zero, sl_succ, liveD_agg, liveD_ref, liveD_arr, ref0_eq, Option.bind_some, Option.map_some, callK_ret, gate_t, gate_f, gate_s, gateC_t, gateC_f, gateC_s, nrmK_some, pickD_B, ifD_B, ifN_B, if_true, if_false, Bool.false_eq_true, un_not, Bool.not_true, Bool.not_false, decide_true, decide_false, and_self, outK_ext, Nat.beq_refl, bin_lss, bin_gtr, bin_leq, bin_geq, bin_eql, bin_neq, bin_add, bin_sub, bin_mul, lenD_arr, lenD_str, List.length_map, ldD_ptr, takeD_f, chkV_v, offD_ptr, List.drop_zero, List.drop_succ_cons, atD_agg, mkArr_nil, Int.reduceLT, Int.reduceLE, Int.reduceEq, hi', y1, tk_od, st_box, fld_box, mk_od, chk_ods, qh, hw, Int.natCast_add, Int.natCast_one]
          · simp -implicitDefEqProofs only [sl_zero, sl_succ, liveD_agg, liveD_ref, liveD_arr, ref0_eq, Option.bind_some, Option.map_some, callK_ret, gate_t, gate_f, gate_s, gateC_t, gateC_f, gateC_s, nrmK_some, pickD_B, ifD_B, ifN_B, if_true, if_false, Bool.false_eq_true, un_not, Bool.not_true, Bool.not_false, decide_true, decide_false, and_self, outK_ext, Nat.beq_refl, bin_lss, bin_gtr, bin_leq, bin_geq, bin_eql, bin_neq, bin_add, bin_sub, bin_mul, lenD_arr, lenD_str, List.length_map, ldD_ptr, takeD_f, chkV_v, offD_ptr, List.drop_zero, List.drop_succ_cons, atD_agg, mkArr_nil, Int.reduceLT, Int.reduceLE, Int.reduceEq, Int.lt_irrefl]
          · have hgp := good_pick (l := o) (p := fun (k : Nat) => decide ((k : Int) ∈ mstR o)) hg
            have hnone := pick_none hg
            have hask := due_ask hgp
            generalize pickO o (isP o fun (k : Nat) => decide ((k : Int) ∈ mstR o)) = w at *
            have hw8 := (goodO_all hgp).2
            have r1 := e_impl_SequenceByDue w (by omega)
            rw [hgp, dueR_eq hgp] at r1
            have r2 := e_impl_LateOrders w (dueL w) (by omega) (by rw [dueL_len]; omega) (fun x hx => by have := dueL_in w x hx; unfold inI; omega)
            rw [hask] at r2
            have hz : ((latR w (dueL w)).length : Int) = 0 := by omega
            simp -implicitDefEqProofs only [sl_zero, sl_succ, liveD_agg, liveD_ref, liveD_arr, ref0_eq, Option.bind_some, Option.map_some, callK_ret, gate_t, gate_f, gate_s, gateC_t, gateC_f, gateC_s, nrmK_some, pickD_B, ifD_B, ifN_B, if_true, if_false, Bool.false_eq_true, un_not, Bool.not_true, Bool.not_false, decide_true, decide_false, and_self, outK_ext, Nat.beq_refl, bin_lss, bin_gtr, bin_leq, bin_geq, bin_eql, bin_neq, bin_add, bin_sub, bin_mul, lenD_arr, lenD_str, List.length_map, ldD_ptr, takeD_f, chkV_v, offD_ptr, List.drop_zero, List.drop_succ_cons, atD_agg, mkArr_nil, Int.reduceLT, Int.reduceLE, Int.reduceEq, r1, r2, tpI0, tpC1, hz, Int.lt_irrefl]
            exact hj
      case refine_1 =>
        rintro _ rfl
        obtain ⟨u, w1, w2⟩ := d_DrawLeastLateness more ⟨hb2, hm⟩
        have j1 := e_fLst u (by omega)
        have j2 := e_spec_LeastLateness u (by omega)
        have jl := lst_len w2
        rcases lstW_is u with ⟨e, eu, el⟩ | e
        · rw [e] at j2
          rw [el] at j1
          subst eu
          have jq := qInts_nil
          simp -implicitDefEqProofs only [sl_zero, sl_succ, liveD_agg, liveD_ref, liveD_arr, ref0_eq, Option.bind_some, Option.map_some, callK_ret, gate_t, gate_f, gate_s, gateC_t, gateC_f, gateC_s, nrmK_some, pickD_B, ifD_B, ifN_B, if_true, if_false, Bool.false_eq_true, un_not, Bool.not_true, Bool.not_false, decide_true, decide_false, and_self, outK_ext, Nat.beq_refl, bin_lss, bin_gtr, bin_leq, bin_geq, bin_eql, bin_neq, bin_add, bin_sub, bin_mul, lenD_arr, lenD_str, List.length_map, ldD_ptr, takeD_f, chkV_v, offD_ptr, List.drop_zero, List.drop_succ_cons, atD_agg, mkArr_nil, Int.reduceLT, Int.reduceLE, Int.reduceEq, w1, j1, j2, jq, tpO0, tpI0, tpI1, tpv0, tpv1, tpv2, tpC1, tpC2, tupAt_a0, bin_neqB, beq_self_eq_true, eq_self, List.length_nil, Int.natCast_zero, Int.lt_irrefl]
          have hl0 : lenD false (ods []) = some (I 0) := rfl
          cases goodO [] <;> simp -implicitDefEqProofs only [sl_zero, sl_succ, liveD_agg, liveD_ref, liveD_arr, ref0_eq, Option.bind_some, Option.map_some, callK_ret, gate_t, gate_f, gate_s, gateC_t, gateC_f, gateC_s, nrmK_some, pickD_B, ifD_B, ifN_B, if_true, if_false, Bool.false_eq_true, un_not, Bool.not_true, Bool.not_false, decide_true, decide_false, and_self, outK_ext, Nat.beq_refl, bin_lss, bin_gtr, bin_leq, bin_geq, bin_eql, bin_neq, bin_add, bin_sub, bin_mul, lenD_arr, lenD_str, List.length_map, ldD_ptr, takeD_f, chkV_v, offD_ptr, List.drop_zero, List.drop_succ_cons, atD_agg, mkArr_nil, Int.reduceLT, Int.reduceLE, Int.reduceEq, hl0, Int.lt_irrefl]
        · rw [e] at j2
          have jq := e_laws_qInts (lstR u) (by omega)
          cases hgu : goodO u
          · rw [hgu] at j1 j2
            simp -implicitDefEqProofs only [sl_zero, sl_succ, liveD_agg, liveD_ref, liveD_arr, ref0_eq, Option.bind_some, Option.map_some, callK_ret, gate_t, gate_f, gate_s, gateC_t, gateC_f, gateC_s, nrmK_some, pickD_B, ifD_B, ifN_B, if_true, if_false, Bool.false_eq_true, un_not, Bool.not_true, Bool.not_false, decide_true, decide_false, and_self, outK_ext, Nat.beq_refl, bin_lss, bin_gtr, bin_leq, bin_geq, bin_eql, bin_neq, bin_add, bin_sub, bin_mul, lenD_arr, lenD_str, List.length_map, ldD_ptr, takeD_f, chkV_v, offD_ptr, List.drop_zero, List.drop_succ_cons, atD_agg, mkArr_nil, Int.reduceLT, Int.reduceLE, Int.reduceEq, w1, j1, j2, jq, tpO0, tpI0, tpI1, tpv0, tpv1, tpv2, tpC1, tpC2, bin_neqB, beq_self_eq_true, eq_self]
          · rw [hgu] at j1 j2
            obtain ⟨t1, t2, t3, t4⟩ := tail_fin u hgu (lstR u) rfl
            obtain ⟨g1, g2⟩ := goodO_all hgu
            have j3 := e_impl_FinishTimes u (lstR u) (by omega) (by omega) (fun x hx => by have := t2 x hx; unfold inI; omega)
            rw [t4] at j3
            have hf : finR u (lstR u) = tms u (lstR u) := by simp [finR, t4]
            rw [hf] at j3
            by_cases hu : (0 : Int) < u.length
            case neg => simp -implicitDefEqProofs only [sl_zero, sl_succ, liveD_agg, liveD_ref, liveD_arr, ref0_eq, Option.bind_some, Option.map_some, callK_ret, gate_t, gate_f, gate_s, gateC_t, gateC_f, gateC_s, nrmK_some, pickD_B, ifD_B, ifN_B, if_true, if_false, Bool.false_eq_true, un_not, Bool.not_true, Bool.not_false, decide_true, decide_false, and_self, outK_ext, Nat.beq_refl, bin_lss, bin_gtr, bin_leq, bin_geq, bin_eql, bin_neq, bin_add, bin_sub, bin_mul, lenD_arr, lenD_str, List.length_map, ldD_ptr, takeD_f, chkV_v, offD_ptr, List.drop_zero, List.drop_succ_cons, atD_agg, mkArr_nil, Int.reduceLT, Int.reduceLE, Int.reduceEq, w1, j1, j2, jq, tpO0, tpI0, tpI1, tpv0, tpv1, tpv2, tpC1, tpC2, bin_neqB, beq_self_eq_true, eq_self, hu]
            simp -implicitDefEqProofs only [sl_zero, sl_succ, liveD_agg, liveD_ref, liveD_arr, ref0_eq, Option.bind_some, Option.map_some, callK_ret, gate_t, gate_f, gate_s, gateC_t, gateC_f, gateC_s, nrmK_some, pickD_B, ifD_B, ifN_B, if_true, if_false, Bool.false_eq_true, un_not, Bool.not_true, Bool.not_false, decide_true, decide_false, and_self, outK_ext, Nat.beq_refl, bin_lss, bin_gtr, bin_leq, bin_geq, bin_eql, bin_neq, bin_add, bin_sub, bin_mul, lenD_arr, lenD_str, List.length_map, ldD_ptr, takeD_f, chkV_v, offD_ptr, List.drop_zero, List.drop_succ_cons, atD_agg, mkArr_nil, Int.reduceLT, Int.reduceLE, Int.reduceEq, w1, j1, j2, jq, tpO0, tpI0, tpI1, tpv0, tpv1, tpv2, tpC1, tpC2, bin_neqB, beq_self_eq_true, eq_self, hu, j3]
            have htl := timesO_len u (lstR u) (0, 0, 0)
            have hll := lateO_len u (lstR u) (lstR u).length
            rw [t3]
            generalize lstR u = b at *
            refine loop_bind _ (loop_for b.length (fun i => [ods u, I (mostL (lateO u b b.length)), ints (tms u b), I (((lateO u b b.length).take i).foldl max 0), ints b, I b.length, I i]) (.ext 4 [I (mostL (lateO u b b.length)), I (mostL (lateO u b b.length))]) (fun i hi => ?_) ?_ rfl rfl) ?_
            · have hw : IntKind.i64.wrap ((i : Int) + 1) = (i : Int) + 1 := wrap_id (by omega) (by omega)
              have hi' : (i : Int) < (b.length : Int) := by omega
              obtain ⟨k0, k1⟩ := t2 b[i] (List.getElem_mem hi)
              obtain ⟨kn, hk⟩ : ∃ kn : Nat, b[i] = (kn : Int) := ⟨b[i].toNat, by omega⟩
              have hkl : kn < u.length := by omega
              obtain ⟨t, m1, m2, m3⟩ := times_at g1 t2 (by omega) hi
              have d1 := due_in u g1 kn hkl
              have x1 := int_get (l := b) (i := i) hi
              rw [hk] at x1
              have htm : i < (tms u b).length := by rw [timesO_len]; exact hi
              have hti : (tms u b)[i]'htm = t := (List.getElem?_eq_some_iff.1 m1).2
              have x2 := int_get (l := tms u b) (i := i) htm
              rw [hti] at x2
              have x3 := od_get (l := u) (i := kn) hkl
              have hwd : IntKind.i64.wrap (t - u[kn].2.2.2) = t - u[kn].2.2.2 := wrap_id (by omega) (by omega)
              have hlf : lateF u b i = max 0 (t - u[kn].2.2.2) := by
                unfold lateF
                rw [List.getD_eq_getElem?_getD, m1, List.getD_eq_getElem?_getD, List.getElem?_eq_getElem hi, hk]
                simp [oAt, List.getD_eq_getElem?_getD, hkl]
              have hli : i < (lateO u b b.length).length := by rw [lateO_len]; exact hi
              have htk : (lateO u b b.length).take (i + 1) = (lateO u b b.length).take i ++ [max 0 (t - u[kn].2.2.2)] := by
                rw [List.take_succ_eq_append_getElem hli]
                congr 2
                rw [← hlf]
                simp [lateO]
              have hown : 0 ≤ ((lateO u b b.length).take i).foldl max 0 := most_le _ 0
              rw [htk, List.foldl_append, List.foldl_cons, List.foldl_nil, max_step _ _ _ hown]
              generalize ((lateO u b b.length).take i).foldl max 0 = own at *
              by_cases hlt : own < t - u[kn].2.2.2
              · rw [if_pos hlt]
                simp -implicitDefEqProofs only [sl_zero, sl_succ, liveD_agg, liveD_ref, liveD_arr, ref0_eq, Option.bind_some, Option.map_some, callK_ret, gate_t, gate_f, gate_s, gateC_t, gateC_f, gateC_s, nrmK_some, pickD_B, ifD_B, ifN_B, if_true, if_false, Bool.false_eq_true, un_not, Bool.not_true, Bool.not_false, decide_true, decide_false, and_self, outK_ext, Nat.beq_refl, bin_lss, bin_gtr, bin_leq, bin_geq, bin_eql, bin_neq, bin_add, bin_sub, bin_mul, lenD_arr, lenD_str, List.length_map, ldD_ptr, takeD_f, chkV_v, offD_ptr, List.drop_zero, List.drop_succ_cons, atD_agg, mkArr_nil, Int.reduceLT, Int.reduceLE, Int.reduceEq, hi', x1, x2, x3, hw, hwd, hlt, Int.natCast_add, Int.natCast_one]
              · rw [if_neg hlt]
                simp -implicitDefEqProofs only [sl_zero, sl_succ, liveD_agg, liveD_ref, liveD_arr, ref0_eq, Option.bind_some, Option.map_some, callK_ret, gate_t, gate_f, gate_s, gateC_t, gateC_f, gateC_s, nrmK_some, pickD_B, ifD_B, ifN_B, if_true, if_false, Bool.false_eq_true, un_not, Bool.not_true, Bool.not_false, decide_true, decide_false, and_self, outK_ext, Nat.beq_refl, bin_lss, bin_gtr, bin_leq, bin_geq, bin_eql, bin_neq, bin_add, bin_sub, bin_mul, lenD_arr, lenD_str, List.length_map, ldD_ptr, takeD_f, chkV_v, offD_ptr, List.drop_zero, List.drop_succ_cons, atD_agg, mkArr_nil, Int.reduceLT, Int.reduceLE, Int.reduceEq, hi', x1, x2, x3, hw, hwd, hlt, Int.natCast_add, Int.natCast_one]
            · have : (lateO u b b.length).take b.length = lateO u b b.length := List.take_of_length_le (by omega)
              simp -implicitDefEqProofs only [sl_zero, sl_succ, liveD_agg, liveD_ref, liveD_arr, ref0_eq, Option.bind_some, Option.map_some, callK_ret, gate_t, gate_f, gate_s, gateC_t, gateC_f, gateC_s, nrmK_some, pickD_B, ifD_B, ifN_B, if_true, if_false, Bool.false_eq_true, un_not, Bool.not_true, Bool.not_false, decide_true, decide_false, and_self, outK_ext, Nat.beq_refl, bin_lss, bin_gtr, bin_leq, bin_geq, bin_eql, bin_neq, bin_add, bin_sub, bin_mul, lenD_arr, lenD_str, List.length_map, ldD_ptr, takeD_f, chkV_v, offD_ptr, List.drop_zero, List.drop_succ_cons, atD_agg, mkArr_nil, Int.reduceLT, Int.reduceLE, Int.reduceEq, Int.lt_irrefl, this]
              rfl
            · simp -implicitDefEqProofs only [sl_zero, sl_succ, liveD_agg, liveD_ref, liveD_arr, ref0_eq, Option.bind_some, Option.map_some, callK_ret, gate_t, gate_f, gate_s, gateC_t, gateC_f, gateC_s, nrmK_some, pickD_B, ifD_B, ifN_B, if_true, if_false, Bool.false_eq_true, un_not, Bool.not_true, Bool.not_false, decide_true, decide_false, and_self, outK_ext, Nat.beq_refl, bin_lss, bin_gtr, bin_leq, bin_geq, bin_eql, bin_neq, bin_add, bin_sub, bin_mul, lenD_arr, lenD_str, List.length_map, ldD_ptr, takeD_f, chkV_v, offD_ptr, List.drop_zero, List.drop_succ_cons, atD_agg, mkArr_nil, Int.reduceLT, Int.reduceLE, Int.reduceEq, eq_self]
end Go.Proofs.YtaphcpfkgpaefaaGreat
