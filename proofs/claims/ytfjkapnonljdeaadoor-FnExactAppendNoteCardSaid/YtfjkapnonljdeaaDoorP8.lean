/-
  The notes of a text: read by the program.
-/
import Derived.Test.YtfjkapnonljdeaaDoorP7
namespace Go.Proofs.YtfjkapnonljdeaaDoor
open Go Go.V
set_option linter.unusedSimpArgs false

theorem e_fCut (w : ByteArray) (h : w.size ≤ 1048576) : fCut [T w, T ⟨#[10]⟩] = some (.ret [T (mkT (Lib.cut (chars w) [10]).1), T (mkT (Lib.cut (chars w) [10]).2.1), B (Lib.cut (chars w) [10]).2.2] []) := by
  simp -implicitDefEqProofs only [fCut]
  rw [if_pos (by omega)]
  rfl
theorem has10 (r : List UInt8) : (10 : UInt8) ∉ r ∨ ∃ a b, r = a ++ 10 :: b ∧ (10 : UInt8) ∉ a := by
  induction r with
  | nil => left; simp
  | cons x r ih =>
    by_cases hx : x = 10
    · right
      exact ⟨[], r, by rw [hx]; rfl, by simp⟩
    · rcases ih with ih | ⟨a, b, rfl, ha⟩
      · left
        simp -implicitDefEqProofs only [List.mem_cons, not_or]
        exact ⟨fun e => hx e.symm, ih⟩
      · right
        refine ⟨x :: a, b, rfl, ?_⟩
        simp -implicitDefEqProofs only [List.mem_cons, not_or]
        exact ⟨fun e => hx e.symm, ha⟩
theorem cut3_0 (x y : ByteArray) (z : Bool) : tupAt (.tup [T x, T y, B z]) 0 = some (T x) := rfl
theorem cut3_1 (x y : ByteArray) (z : Bool) : tupAt (.tup [T x, T y, B z]) 1 = some (T y) := rfl
theorem cut3_2 (x y : ByteArray) (z : Bool) : tupAt (.tup [T x, T y, B z]) 2 = some (B z) := rfl
theorem e_impl_recovered (s : ByteArray) (h : s.size ≤ 1048576) : F_impl_recovered [T s] = some (.ret [nts (readN (splitL 10 (chars s)).dropLast [] 7 0).1, I ((readN (splitL 10 (chars s)).dropLast [] 7 0).2 : Int)] []) := by
  rw [t_impl_recovered]
  have hsz : s.size = (chars s).length := rfl
  generalize hR : readN (splitL 10 (chars s)).dropLast [] 7 0 = R
  simp -implicitDefEqProofs only [mkArr_nil, Option.bind_some]
  refine loop_wf_bind (fun r => r = _) (fun (a : List Nt × Int × Nat) => [T s, nts a.1, I a.2.1, I (a.2.2 : Int)]) (fun a => a.1.length ≤ 24 ∧ (0 ≤ a.2.1 ∧ a.2.1 ≤ 9972) ∧ a.2.2 ≤ s.size ∧ readN (splitL 10 ((chars s).drop a.2.2)).dropLast a.1 a.2.1 a.2.2 = R)
    (fun a => s.size - a.2.2) (fun o => o = .ret [nts R.1, I (R.2 : Int)] []) ?_ ([], 7, 0) ⟨Nat.zero_le _, ⟨by decide, by decide⟩, Nat.zero_le _, hR⟩ rfl ?_
  · rintro ⟨l, c, u⟩ ⟨hl, hc, hu, hr⟩
    simp only at hl hc hu hr
    have hsl := sliceHiS (s := s) (z := 0) (i := u) hu
    have hwz : (s.extract u s.size).size ≤ 1048576 := by rw [ByteArray.size_extract]; omega
    have hcut := e_fCut (s.extract u s.size) hwz
    have hch : chars (s.extract u s.size) = (chars s).drop u := by
      rw [chars_extract, hsz, List.take_length]
    have emp : (D.v (Value.string { data := { toList := [10] } })) = T ⟨#[10]⟩ := rfl
    rw [hch] at hcut
    have hlen : ((chars s).drop u).length = s.size - u := by rw [List.length_drop, hsz]
    simp -implicitDefEqProofs only [sl_zero, sl_succ, hsl, Option.bind_some, emp, hcut, callK_ret]
    generalize hdrop : (chars s).drop u = r at hcut hr hlen
    rcases has10 r with hn | ⟨a, b, rfl, ha⟩
    · right
      have hnum := e_impl_numbersIn (mkT r) (by rw [mkT_size]; omega)
      rw [splitL_miss hn] at hr
      refine ⟨_, ?_, rfl, rfl⟩
      rw [← hr, cut_miss hn]
      simp -implicitDefEqProofs only [cut3_0, cut3_1, cut3_2, Option.bind_some, hnum, callK_ret, sl_zero, un_not, Bool.not_false, gate_f, if_true, pickD_B, ifD_B]
      rfl
    · have hnum := e_impl_numbersIn (mkT a) (by rw [mkT_size]; simp at hlen; omega)
      rw [splitL_hit ha, List.dropLast_cons_of_ne_nil (splitL_ne 10 b)] at hr
      simp -implicitDefEqProofs only [readN] at hr
      rw [← acc_eq] at hr
      rw [cut_hit ha]
      simp -implicitDefEqProofs only [cut3_0, cut3_1, cut3_2, Option.bind_some, hnum, callK_ret, sl_zero, un_not, Bool.not_true, gate_f, Bool.false_eq_true, if_false, lenD_arr, List.length_map, bin_neq, pickD_B, ifD_B]
      by_cases h4 : (numsT (mkT a)).length = 4
      · obtain ⟨w0, w1, w2, w3, hws⟩ : ∃ w0 w1 w2 w3, numsT (mkT a) = [w0, w1, w2, w3] := by
          generalize numsT (mkT a) = ws at h4
          match ws, h4 with
          | [a, b, c, d], _ => exact ⟨a, b, c, d, rfl⟩
        have hacc : accI l c (mkT a) = if goodN (l ++ [(w0, w1, w2)]) = true ∧ lnT (w0, w1, w2) (ckN c (w0, w1, w2)) = mkT a ++ ⟨#[10]⟩ then some (w0, w1, w2) else none := by
          unfold accI
          rw [hws]
        rw [hacc] at hr
        rw [hws]
        have e0 : elemD 1 (ints [w0, w1, w2, w3]) (I 0) = some [I w0] := rfl
        have e1 : elemD 1 (ints [w0, w1, w2, w3]) (I 1) = some [I w1] := rfl
        have e2 : elemD 1 (ints [w0, w1, w2, w3]) (I 2) = some [I w2] := rfl
        have h4n : ((([w0, w1, w2, w3] : List Int).length : Nat) : Int) = 4 := rfl
        simp -implicitDefEqProofs only [h4n, decide_true, Bool.not_true, Bool.false_eq_true, if_false, e0, e1, e2, Option.map_some, Option.bind_some, ldD_ptr, takeD_f, chkV_v, callK_ret, sl_zero, bld_nt]
        generalize (w0, w1, w2) = y at hr ⊢
        have hap := app_nts (l := l) (m := [y]) (by simp; omega)
        have hg := e_impl_AreNotes (l ++ [y]) (by simp; omega)
        have ha0 : appD 3 24 (.arr 3 []) (nts l) = some (nts l) := app_nts (l := []) (m := l) (by simp; omega)
        simp -implicitDefEqProofs only [put_nt, Option.bind_some, mkArr_nil, liveD_ref, liveD_arr, liveD_agg, ha0, fld_nt, mk_nts, chk_nts, hap, hg, callK_ret, sl_zero, un_not]
        cases hgd : goodN (l ++ [y])
        · right
          rw [hgd] at hr
          refine ⟨_, ?_, rfl, rfl⟩
          rw [← hr]
          simp -implicitDefEqProofs
        have hy := (goodN_last hgd).1
        have hck := ckN_range c y
        have j1 := e_impl_check hc hy
        have j2 := e_impl_noteLine hy hck
        have haz : a.length + 1 ≤ s.size - u := by
          rw [List.length_append, List.length_cons] at hlen
          omega
        have hadd : bin BinOp.add false [] (T (mkT a)) (T ⟨#[10]⟩) = some (T (mkT a ++ ⟨#[10]⟩)) := by
          rw [bin_addS, if_pos (by rw [mkT_size, sz1]; omega)]
        simp -implicitDefEqProofs only [Bool.not_true, gate_f, Bool.false_eq_true, if_false, Option.bind_some, gateC_f, j1, j2, callK_ret, nrmK_some, sl_zero, hadd, bin_neqS, pickD_B, ifD_B]
        by_cases he : lnT y (ckN c y) = mkT a ++ ⟨#[10]⟩
        · left
          have hw1 : IntKind.i64.wrap ((a.length : Int) + 1) = (a.length : Int) + 1 := wrap_id (by omega) (by omega)
          have hw2 : IntKind.i64.wrap ((u : Int) + ((a.length : Int) + 1)) = ((u + (a.length + 1) : Nat) : Int) := by rw [wrap_id (by omega) (by omega)]; omega
          simp -implicitDefEqProofs only [he, decide_true, Bool.not_true, Bool.false_eq_true, if_false, hgd, and_self, if_true, j1, callK_ret, sl_zero, lenD_str, mkT_size, Option.bind_some, bin_add, hw1, hw2] at hr ⊢
          have hll : (l ++ [y]).length ≤ 24 := by
            rw [List.length_append, List.length_singleton]
            exact (goodN_last hgd).2
          have hdr : (chars s).drop (u + (a.length + 1)) = b := by
            rw [← List.drop_drop, hdrop]
            rw [← List.drop_drop]
            simp
          refine ⟨(l ++ [y], ckN c y, u + (a.length + 1)), rfl, ⟨hll, hck, by simp only; omega, ?_⟩, by simp only; omega⟩
          simp -implicitDefEqProofs only [hdr]
          exact hr
        · right
          refine ⟨_, ?_, rfl, rfl⟩
          rw [if_neg (fun g => he g.2)] at hr
          rw [← hr]
          simp -implicitDefEqProofs [he]
      · right
        have hacc : accI l c (mkT a) = none := by
          unfold accI
          split
          · rename_i hh
            exact absurd (by rw [hh]; rfl) h4
          · rfl
        rw [hacc] at hr
        have h4' : ¬ ((numsT (mkT a)).length : Int) = 4 := by omega
        refine ⟨_, ?_, rfl, rfl⟩
        rw [← hr]
        simp -implicitDefEqProofs only [h4', decide_false, Bool.not_false, if_true]
  · rintro o rfl
    rfl
end Go.Proofs.YtfjkapnonljdeaaDoor
