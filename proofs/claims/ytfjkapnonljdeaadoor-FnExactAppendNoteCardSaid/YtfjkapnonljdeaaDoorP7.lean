/-
  The notes of a text: read by the reference and by the program.
-/
import Derived.Test.YtfjkapnonljdeaaDoorP6
namespace Go.Proofs.YtfjkapnonljdeaaDoor
open Go Go.V
set_option linter.unusedSimpArgs false

abbrev mkT (l : List UInt8) : ByteArray := ⟨l.toArray⟩
theorem mkT_size (l : List UInt8) : (mkT l).size = l.length := rfl
theorem splitL_mem (c : UInt8) : ∀ (l : List UInt8), ∀ m ∈ splitL c l, m.length ≤ l.length := by
  intro l m hm
  have := splitT_size c (mkT l) (mkT m) (List.mem_map.2 ⟨m, by rw [chars_mk]; exact hm, rfl⟩)
  exact this
theorem wrap_neT {a b : ByteArray} : (decide (a = b)) = true ↔ a = b := decide_eq_true_iff

/-- One line in the reference's loop: a round's out. -/
def outR (l : List Nt) (u : Nat) (s : ByteArray) : Option Nt → (List Nt → Nat → Nt → Out) → Out
  | some x, k => k (l ++ [x]) (u + (s.size + 1)) x
  | none, _ => .ext 0 [nts l, I (u : Int)]
theorem put_nt (x : Nt) : stD 3 (.agg [I 0, I 0, I 0]) (.ref 0 0) (nt x) = some (nt x) := by simp
theorem app_nts {l : List Nt} {m : List Nt} (h : l.length + m.length ≤ 1048576) : appD 3 24 (nts l) (nts m) = some (nts (l ++ m)) := by
  have e1 : (l.map nt).length + (m.map nt).length = l.length + m.length := by simp
  have h1 : (l.length + m.length) * 24 ≤ 140737488355328 ∧ l.length + m.length ≤ 1152921504606846976 := by omega
  rw [appD_eq, e1, if_pos h1, ← List.map_append]
theorem mk_nts (x : Nt) : mkArr 3 [nt x] = some (nts [x]) := by simp [mkArr, lenOkD]
theorem fld_nt (x : Nt) : fldD true 3 0 (nt x) = some (nt x) := by simp
theorem chk_nts (l : List Nt) : chkA (nts l) = some (nts l) := chkA_map fun _ => rfl
theorem bld_nt (a b c : Int) : bldD [(0, 1), (1, 1), (2, 1)] [I 0, I 0, I 0] [I a, I b, I c] = some (nt (a, b, c)) := by
  simp [bldD, fillD]

theorem e_spec_joRead (s : ByteArray) (h : s.size ≤ 1048576) : F_spec_joRead [T s] = some (.ret [nts (readN (splitL 10 (chars s)).dropLast [] 7 0).1, I ((readN (splitL 10 (chars s)).dropLast [] 7 0).2 : Int)] []) := by
  rw [t_spec_joRead]
  have hs : F_spec_l1Split [T s, D.v (Value.int IntKind.u8 10)] = some (.ret [.arr 1 ((splitT 10 s).map T)] []) := e_spec_l1Split s 10 (by omega)
  have hll := splitL_length 10 (chars s)
  have hsz : s.size = (chars s).length := rfl
  have hne := splitL_ne 10 (chars s)
  have hmem : ∀ m ∈ (splitL 10 (chars s)).dropLast, m.length ≤ 1048576 := by
    intro m hm
    have := splitL_mem 10 (chars s) m (List.dropLast_subset _ hm)
    omega
  have hlen : (splitL 10 (chars s)).dropLast.length + 1 = (splitL 10 (chars s)).length := by
    rw [List.length_dropLast]
    have := List.length_pos_iff.2 hne
    omega
  have hpre : sliceD false 1 (.arr 1 ((splitT 10 s).map T)) (I 0) (I ((splitL 10 (chars s)).dropLast.length : Int)) = some (.arr 1 (((splitL 10 (chars s)).dropLast.map mkT).map T)) := by
    have := sliceD_nat (z := 1) (i := 0) (j := (splitL 10 (chars s)).dropLast.length) (l := (splitT 10 s).map T) (k := .i64) (k' := .i64) (Nat.zero_le _) (by simp [splitT])
    rw [show I 0 = D.v (Value.int .i64 ((0 : Nat) : Int)) from rfl, this]
    rw [List.drop_zero, List.length_dropLast, splitT]
    simp -implicitDefEqProofs only [← List.map_take, List.dropLast_eq_take]
  rw [hs]
  have e1 : ((splitT 10 s).map T).length = (splitL 10 (chars s)).length := by simp [splitT]
  have hw : IntKind.i64.wrap (((splitL 10 (chars s)).length : Int) - 1) = ((splitL 10 (chars s)).dropLast.length : Int) := by
    rw [wrap_id (by omega) (by omega)]
    omega
  simp -implicitDefEqProofs only [callK_ret, sl_zero, lenD_arr, e1, Option.bind_some, bin_sub, hw, hpre, List.length_map]
  generalize (splitL 10 (chars s)).dropLast = ms at hmem hlen
  have hms : ms.length ≤ 1048576 := by omega
  clear hpre hw hs e1 hlen hne hll hsz
  refine loop_bind _ (loop_list ms (fun i (a : List Nt × Nat × Int) => [nts a.1, I (a.2.1 : Int), I a.2.2, .arr 1 ((ms.map mkT).map T), I (ms.length : Int), I (i : Int)]) (fun i a => a.1.length ≤ 24 ∧ (0 ≤ a.2.2 ∧ a.2.2 ≤ 9972) ∧ a.2.1 ≤ i * 1048577)
    (fun _ m a => match accS a.1 a.2.2 (mkT m) with
      | some x => .inl (a.1 ++ [x], a.2.1 + (m.length + 1), ckN a.2.2 x)
      | none => .inr (.ext 0 [nts a.1, I (a.2.1 : Int)])) (fun a => .ext 0 [nts a.1, I (a.2.1 : Int)]) ?_ ?_ ([], 0, 7) ⟨Nat.zero_le _, ⟨by decide, by decide⟩, Nat.zero_le _⟩ rfl) ?_
  · rintro i m ⟨l, u, c⟩ hm ⟨hl, hc, hu⟩
    simp only at hl hc hu
    have hi : i < ms.length := (List.getElem?_eq_some_iff.1 hm).1
    have hmz : m.length ≤ 1048576 := hmem m (List.mem_of_getElem? hm)
    have hi' : (i : Int) < (ms.length : Int) := by omega
    have hel : elemD 1 (.arr 1 ((ms.map mkT).map T)) (I (i : Int)) = some [T (mkT m)] := by simp [hm]
    have hsp : F_spec_l1Split [T (mkT m), D.v (Value.int IntKind.u8 32)] = some (.ret [.arr 1 ((splitT 32 (mkT m)).map T)] []) := e_spec_l1Split (mkT m) 32 (by rw [mkT_size]; omega)
    have hz := splitT_size 32 (mkT m)
    have hll : (splitT 32 (mkT m)).length ≤ 1048577 := by
      have h1 := splitL_length 32 (chars (mkT m))
      have h2 := splitT_length 32 (mkT m)
      have h3 : (chars (mkT m)).length = m.length := rfl
      omega
    simp -implicitDefEqProofs only [mkT_size] at hz
    simp -implicitDefEqProofs only [sl_zero, sl_succ, bin_lss, hi', decide_true, Option.bind_some, ifD_B, if_true, hel, Option.map_some, ldD_ptr, takeD_f, chkV_v, hsp, callK_ret, lenD_arr, List.length_map, bin_neq]
    by_cases h4 : (splitT 32 (mkT m)).length = 4
    · obtain ⟨w0, w1, w2, w3, hws⟩ : ∃ w0 w1 w2 w3, splitT 32 (mkT m) = [w0, w1, w2, w3] := by
        generalize splitT 32 (mkT m) = ws at h4
        match ws, h4 with
        | [a, b, c, d], _ => exact ⟨a, b, c, d, rfl⟩
      rw [hws] at hz ⊢
      have q0 := e_spec_l1Read w0 (by have := hz w0 (by simp); omega)
      have q1 := e_spec_l1Read w1 (by have := hz w1 (by simp); omega)
      have q2 := e_spec_l1Read w2 (by have := hz w2 (by simp); omega)
      have e0 : elemD 1 (.arr 1 ([w0, w1, w2, w3].map T)) (I 0) = some [T w0] := rfl
      have e1 : elemD 1 (.arr 1 ([w0, w1, w2, w3].map T)) (I 1) = some [T w1] := rfl
      have e2 : elemD 1 (.arr 1 ([w0, w1, w2, w3].map T)) (I 2) = some [T w2] := rfl
      have hacc : accS l c (mkT m) = if goodN (l ++ [(readT w0, readT w1, readT w2)]) = true ∧ lnT (readT w0, readT w1, readT w2) (ckN c (readT w0, readT w1, readT w2)) = mkT m ++ ⟨#[10]⟩ then some (readT w0, readT w1, readT w2) else none := by
        unfold accS
        rw [hws]
      have h4n : ((([w0, w1, w2, w3] : List ByteArray).length : Nat) : Int) = 4 := rfl
      rw [hacc]
      simp -implicitDefEqProofs only [h4n, decide_true, Bool.not_true, Bool.false_eq_true, if_false, e0, e1, e2, Option.map_some, Option.bind_some, ldD_ptr, takeD_f, chkV_v, q0, q1, q2, callK_ret, sl_zero, bld_nt]
      generalize (readT w0, readT w1, readT w2) = y at hacc ⊢
      have hap := app_nts (l := l) (m := [y]) (by simp; omega)
      have hg := e_spec_joGood (l ++ [y]) (by simp; omega)
      have ha0 : appD 3 24 (.arr 3 []) (nts l) = some (nts l) := app_nts (l := []) (m := l) (by simp; omega)
      simp -implicitDefEqProofs only [put_nt, Option.bind_some, mkArr_nil, liveD_ref, liveD_arr, liveD_agg, ha0, fld_nt, mk_nts, chk_nts, hap, hg, callK_ret, sl_zero, un_not]
      cases hgd : goodN (l ++ [y])
      · simp -implicitDefEqProofs [hgd, Out.ends]
      have hy := (goodN_last hgd).1
      have hck := ckN_range c y
      have j1 := e_spec_joCheck hc hy
      have j2 := e_spec_joLine hy hck
      have hadd : bin BinOp.add false [] (T (mkT m)) (D.v (Value.string { data := { toList := [10] } })) = some (T (mkT m ++ ⟨#[10]⟩)) := by
        rw [show (D.v (Value.string { data := { toList := [10] } })) = T ⟨#[10]⟩ from rfl, bin_addS, if_pos (by simp [mkT_size]; omega)]
      simp -implicitDefEqProofs only [Bool.not_true, gate_f, Bool.false_eq_true, if_false, Option.bind_some, gateC_f, j1, j2, callK_ret, nrmK_some, sl_zero, hadd, bin_neqS, pickD_B, ifD_B]
      by_cases he : lnT y (ckN c y) = mkT m ++ ⟨#[10]⟩
      · have hw1 : IntKind.i64.wrap ((m.length : Int) + 1) = (m.length : Int) + 1 := wrap_id (by omega) (by omega)
        have hw2 : IntKind.i64.wrap ((u : Int) + ((m.length : Int) + 1)) = ((u + (m.length + 1) : Nat) : Int) := by rw [wrap_id (by omega) (by omega)]; omega
        have hw3 : IntKind.i64.wrap ((i : Int) + 1) = ((i + 1 : Nat) : Int) := by rw [wrap_id (by omega) (by omega)]; omega
        simp -implicitDefEqProofs only [he, decide_true, Bool.not_true, Bool.false_eq_true, if_false, hgd, and_self, if_true, j1, callK_ret, sl_zero, lenD_str, mkT_size, Option.bind_some, bin_add, hw1, hw2, hw3]
        have hll : (l ++ [y]).length ≤ 24 := by
          rw [List.length_append, List.length_singleton]
          exact (goodN_last hgd).2
        have huu : u + (m.length + 1) ≤ (i + 1) * 1048577 := by omega
        exact ⟨trivial, hll, hck, huu⟩
      · simp [he, hgd, Out.ends]
    · have hacc : accS l c (mkT m) = none := by
        unfold accS
        split
        · rename_i hh
          exact absurd (by rw [hh]; rfl) h4
        · rfl
      rw [hacc]
      have h4' : ¬ ((splitT 32 (mkT m)).length : Int) = 4 := by omega
      simp -implicitDefEqProofs only [h4', decide_false, Bool.not_false, if_true]
      simp [Out.ends]
  · rintro ⟨l, u, c⟩ _
    have hi' : ¬ (ms.length : Int) < (ms.length : Int) := by omega
    simp -implicitDefEqProofs only [sl_zero, sl_succ, bin_lss, hi', decide_false, Option.bind_some, ifD_B, Bool.false_eq_true, if_false]
    simp [Out.ends]
  · have key : ∀ (ms : List (List UInt8)) (i : Nat) (l : List Nt) (u : Nat) (c : Int), goL (fun _ m (a : List Nt × Nat × Int) => match accS a.1 a.2.2 (mkT m) with
      | some x => .inl (a.1 ++ [x], a.2.1 + (m.length + 1), ckN a.2.2 x)
      | none => .inr (.ext 0 [nts a.1, I (a.2.1 : Int)])) (fun a => .ext 0 [nts a.1, I (a.2.1 : Int)]) i ms (l, u, c) = .ext 0 [nts (readN ms l c u).1, I ((readN ms l c u).2 : Int)] := by
      intro ms
      induction ms with
      | nil => intro i l u c; rfl
      | cons m ms ih =>
        intro i l u c
        simp -implicitDefEqProofs only [goL, readN]
        cases accS l c (mkT m) with
        | some x => exact ih (i + 1) _ _ _
        | none => rfl
    rw [key]
    simp -implicitDefEqProofs only [outK_ext, Nat.beq_refl, ifN_B, if_true, sl_zero, sl_succ]
end Go.Proofs.YtfjkapnonljdeaaDoor
