/-
  The laws of journals that are read.
-/
import Derived.Test.YtfjkapnonljdeaaDoorP8
namespace Go.Proofs.YtfjkapnonljdeaaDoor
open Go Go.V
set_option linter.unusedSimpArgs false

/-! ### marks -/
def mk3 (k : Int) (j : Nat) : Nt := (k + 3 * j, k + 3 * j + 1, k + 3 * j + 2)
def marks (k : Int) (n : Nat) : List Nt := (List.range n).map (mk3 k)
theorem e_laws_markNoteS (l : List Nt) (k : Int) (h : l.length ≤ 1048577) (h1 : 0 ≤ k) (h2 : k ≤ 100000000) : F_laws_markNoteS [nts l, I k] = some (.ret [I (k + 3 * l.length)] [nts (marks k l.length)]) := by
  rw [t_laws_markNoteS]
  refine loop_bind _ (loop_for l.length (fun i => [.arr 3 (markL (fun j => nt (mk3 k j)) nt l i), I (k + 3 * i), I i]) (.ext 0 [nts (marks k l.length), I (k + 3 * l.length)]) (fun i hi => ?_) ?_ rfl ?_) ?_
  · have hw : IntKind.i64.wrap ((i : Int) + 1) = (i : Int) + 1 := wrap_id (by omega) (by omega)
    have w1 : IntKind.i64.wrap (k + 3 * (i : Int) + 1) = k + 3 * i + 1 := wrap_id (by omega) (by omega)
    have w2 : IntKind.i64.wrap (k + 3 * (i : Int) + 1 + 1) = k + 3 * i + 2 := by rw [wrap_id (by omega) (by omega)]; omega
    have w3 : IntKind.i64.wrap (k + 3 * (i : Int) + 2 + 1) = k + 3 * (i + 1) := by rw [wrap_id (by omega) (by omega)]; omega
    have hg := markL_get (g := fun j => nt (mk3 k j)) (f := nt) hi
    have hs := markL_set (g := fun j => nt (mk3 k j)) (f := nt) hi
    have hl := markL_length (g := fun j => nt (mk3 k j)) (f := nt) (Nat.le_of_lt hi)
    generalize markL (fun j => nt (mk3 k j)) nt l i = L at *
    have s1 := stD_part (z := 3) (f := 0) (v := .int .i64 (k + 3 * i)) hg (by simp)
    have s2 := stD_part (z := 3) (L := L.set i (.agg [I (k + 3 * i), I l[i].2.1, I l[i].2.2])) (i := i) (f := 1) (v := .int .i64 (k + 3 * i + 1)) (c := [I (k + 3 * i), I l[i].2.1, I l[i].2.2]) (by simp [hl, hi]) (by simp)
    have s3 := stD_part (z := 3) (L := L.set i (.agg [I (k + 3 * i), I (k + 3 * i + 1), I l[i].2.2])) (i := i) (f := 2) (v := .int .i64 (k + 3 * i + 2)) (c := [I (k + 3 * i), I (k + 3 * i + 1), I l[i].2.2]) (by simp [hl, hi]) (by simp)
    simp only [putCells_eq, List.take_zero, List.nil_append, List.length_singleton, Nat.zero_add, List.drop_succ_cons, List.drop_zero, List.singleton_append, List.take_succ_cons, List.cons_append, Nat.reduceAdd, List.set_set, List.drop_nil] at s1 s2 s3
    simp [hi, hl, hw, w1, w2, w3, s1, s2, s3]
    exact hs
  · simp [markL_full, marks, mk3]
  · simp [markL_zero (g := fun j => nt (mk3 k j)) (f := nt)]
  · simp

theorem e_laws_heldNoteS (k : Int) (n : Nat) (h : n ≤ 1048577) (h1 : 0 ≤ k) (h2 : k ≤ 100000000) : F_laws_heldNoteS [nts (marks k n), I k] = some (.ret [I (k + 3 * n)] []) := by
  rw [t_laws_heldNoteS]
  refine loop_bind _ (loop_for n (fun i => [nts (marks k n), I (k + 3 * i), I i]) (.ext 0 [I (k + 3 * n)]) (fun i hi => ?_) ?_ rfl ?_) ?_
  · have hw : IntKind.i64.wrap ((i : Int) + 1) = (i : Int) + 1 := wrap_id (by omega) (by omega)
    have w1 : IntKind.i64.wrap (k + 3 * (i : Int) + 1) = k + 3 * i + 1 := wrap_id (by omega) (by omega)
    have w2 : IntKind.i64.wrap (k + 3 * (i : Int) + 1 + 1) = k + 3 * i + 2 := by rw [wrap_id (by omega) (by omega)]; omega
    have w3 : IntKind.i64.wrap (k + 3 * (i : Int) + 2 + 1) = k + 3 * (i + 1) := by rw [wrap_id (by omega) (by omega)]; omega
    simp [marks, mk3, hi, hw, w1, w2, w3]
  · simp [marks]
  · simp
  · simp


/-! ### what is read -/
abbrev jo (s : ByteArray) : List Nt × Nat := readN (splitL 10 (chars s)).dropLast [] 7 0
theorem readN_len : ∀ (ms : List (List UInt8)) (l : List Nt) (c : Int) (u : Nat), l.length ≤ 24 → (readN ms l c u).1.length ≤ 24
  | [], _, _, _, h => h
  | m :: ms, l, c, u, h => by
    simp only [readN]
    split
    · rename_i x hx
      refine readN_len ms _ _ _ ?_
      rw [List.length_append, List.length_singleton]
      exact (goodN_last (accS_some hx).1).2
    · exact h
def lenS (ms : List (List UInt8)) : Nat := (ms.map fun m => m.length + 1).sum
theorem readN_used : ∀ (ms : List (List UInt8)) (l : List Nt) (c : Int) (u : Nat), (readN ms l c u).2 ≤ u + lenS ms
  | [], _, _, _ => Nat.le_add_right _ _
  | m :: ms, l, c, u => by
    simp only [readN]
    split
    · rename_i x hx
      refine Nat.le_trans (readN_used ms _ _ _) ?_
      simp only [lenS, List.map_cons, List.sum_cons]
      omega
    · exact Nat.le_add_right _ _
theorem lenS_split (c : UInt8) : ∀ (l : List UInt8), lenS (splitL c l).dropLast ≤ l.length
  | [] => Nat.le_refl _
  | x :: l => by
    have ih := lenS_split c l
    simp only [splitL]
    by_cases hx : x = c
    · rw [if_pos hx, List.dropLast_cons_of_ne_nil (splitL_ne c l)]
      simp only [lenS, List.map_cons, List.sum_cons, List.length_nil, List.length_cons] at ih ⊢
      omega
    · rw [if_neg hx]
      cases hs : splitL c l with
      | nil => exact absurd hs (splitL_ne c l)
      | cons h t =>
        rw [hs] at ih
        cases t with
        | nil => exact Nat.zero_le _
        | cons h2 t =>
          simp only [consH, List.dropLast_cons_cons, lenS, List.map_cons, List.sum_cons, List.length_cons] at ih ⊢
          omega
theorem jo_used (s : ByteArray) : (jo s).2 ≤ s.size := by
  have h1 := readN_used (splitL 10 (chars s)).dropLast [] 7 0
  have h2 := lenS_split 10 (chars s)
  have h3 : s.size = (chars s).length := rfl
  unfold jo
  omega
theorem jo_len (s : ByteArray) : (jo s).1.length ≤ 24 := readN_len _ _ _ _ (Nat.zero_le _)

theorem e_impl_isJournalText (s : ByteArray) : F_impl_isJournalText [T s] = some (.ret [B (decide (s.size ≤ 300))] []) := by
  rw [t_impl_isJournalText]
  have : ((s.size : Int) ≤ 300) = (s.size ≤ 300) := by simp only [eq_iff_iff]; omega
  simp [this]
theorem tp0 (l : List Nt) (ds : List D) : tupAt (.tup (nts l :: ds)) 0 = some (nts l) := rfl
theorem tp1 (a : D) (n : Int) (ds : List D) : tupAt (.tup (a :: I n :: ds)) 1 = some (I n) := rfl
theorem tpB1 (a : D) (b : Bool) (ds : List D) : tupAt (.tup (a :: B b :: ds)) 1 = some (B b) := rfl
theorem tpB2 (a c : D) (b : Bool) (ds : List D) : tupAt (.tup (a :: c :: B b :: ds)) 2 = some (B b) := rfl
theorem tc0 (a : D) (ds : List D) : tupCut (.tup (a :: ds)) 0 = .tup (.bad :: ds) := rfl

def recS (s : ByteArray) : List Nt × Nat × Bool := if s.size ≤ 300 then ((jo s).1, (jo s).2, true) else ([], 0, false)
theorem e_impl_Recovered (s : ByteArray) (h : s.size ≤ 1048576) : F_impl_Recovered [T s] = some (.ret [nts (recS s).1, I ((recS s).2.1 : Int), B (recS s).2.2] []) := by
  rw [t_impl_Recovered]
  unfold recS
  by_cases hs : s.size ≤ 300
  · rw [if_pos hs]
    simp -implicitDefEqProofs only [e_impl_isJournalText, hs, decide_true, callK_ret, sl_zero, un_not, Bool.not_true, Option.bind_some, ifD_B, Bool.false_eq_true, if_false, e_impl_recovered s h, tp0, tc0, tp1]
  · rw [if_neg hs]
    simp -implicitDefEqProofs only [e_impl_isJournalText, hs, decide_false, callK_ret, sl_zero, un_not, Bool.not_false, Option.bind_some, ifD_B, if_true, mkArr_nil]
    rfl
theorem e_spec_Recovered (s : ByteArray) (h : s.size ≤ 1048576) : F_spec_Recovered [T s] = some (.ret [nts (recS s).1, I ((recS s).2.1 : Int), B (recS s).2.2] []) := by
  rw [t_spec_Recovered]
  unfold recS
  by_cases hs : s.size ≤ 300
  · have hs' : ¬ (300 : Int) < (s.size : Int) := by omega
    rw [if_pos hs]
    simp -implicitDefEqProofs only [lenD_str, bin_gtr, hs', decide_false, Bool.false_eq_true, if_false, callK_ret, sl_zero, Option.bind_some, ifD_B, e_spec_joRead s h, tp0, tc0, tp1]
  · have hs' : (300 : Int) < (s.size : Int) := by omega
    rw [if_neg hs]
    simp -implicitDefEqProofs only [lenD_str, bin_gtr, hs', decide_true, if_true, callK_ret, sl_zero, Option.bind_some, ifD_B]
    rfl

def jrS (s : ByteArray) : List Nt × Bool := if s.size ≤ 300 ∧ (jo s).2 = s.size then ((jo s).1, true) else ([], false)
theorem e_impl_readJournal (s : ByteArray) (h : s.size ≤ 1048576) : F_impl_readJournal [T s] = some (.ret [nts (jrS s).1, B (jrS s).2] []) := by
  rw [t_impl_readJournal]
  have hu := jo_used s
  unfold jrS
  by_cases hs : s.size ≤ 300
  · by_cases h2 : (jo s).2 = s.size
    · have h2' : ¬ ((jo s).2 : Int) < (s.size : Int) := by omega
      rw [if_pos ⟨hs, h2⟩]
      simp -implicitDefEqProofs only [e_impl_isJournalText, hs, decide_true, callK_ret, sl_zero, un_not, Bool.not_true, Option.bind_some, ifD_B, Bool.false_eq_true, if_false, e_impl_recovered s h, tp0, tc0, tp1, lenD_str, bin_lss, h2', decide_false]
    · have h2' : ((jo s).2 : Int) < (s.size : Int) := by omega
      rw [if_neg (fun g => h2 g.2)]
      simp -implicitDefEqProofs only [e_impl_isJournalText, hs, decide_true, callK_ret, sl_zero, un_not, Bool.not_true, Option.bind_some, ifD_B, Bool.false_eq_true, if_false, e_impl_recovered s h, tp0, tc0, tp1, lenD_str, bin_lss, h2', if_true, mkArr_nil]
      rfl
  · rw [if_neg (fun g => hs g.1)]
    simp -implicitDefEqProofs only [e_impl_isJournalText, hs, decide_false, callK_ret, sl_zero, un_not, Bool.not_false, Option.bind_some, ifD_B, if_true, mkArr_nil]
    rfl
theorem e_impl_ReadJournal (s : ByteArray) (h : s.size ≤ 1048576) : F_impl_ReadJournal [T s] = some (.ret [nts (jrS s).1, B (jrS s).2] []) := by
  rw [t_impl_ReadJournal]
  simp -implicitDefEqProofs only [e_impl_readJournal s h, callK_ret, tp0, tc0, tpB1, Option.bind_some]
theorem e_spec_ReadJournal (s : ByteArray) (h : s.size ≤ 1048576) : F_spec_ReadJournal [T s] = some (.ret [nts (jrS s).1, B (jrS s).2] []) := by
  rw [t_spec_ReadJournal]
  have hu := jo_used s
  unfold jrS
  by_cases hs : s.size ≤ 300
  · have hs' : ¬ (300 : Int) < (s.size : Int) := by omega
    by_cases h2 : (jo s).2 = s.size
    · have h2' : ((jo s).2 : Int) = (s.size : Int) := by omega
      rw [if_pos ⟨hs, h2⟩]
      simp -implicitDefEqProofs only [callK_ret, sl_zero, Option.bind_some, ifD_B, Bool.false_eq_true, if_false, e_spec_joRead s h, tp0, tc0, tp1, lenD_str, bin_gtr, hs', gate_f, decide_false, bin_neq, h2', decide_true, Bool.not_true, pickD_B]
    · have h2' : ¬ ((jo s).2 : Int) = (s.size : Int) := by omega
      rw [if_neg (fun g => h2 g.2)]
      simp -implicitDefEqProofs only [callK_ret, sl_zero, Option.bind_some, ifD_B, Bool.false_eq_true, if_false, e_spec_joRead s h, tp0, tc0, tp1, lenD_str, bin_gtr, hs', gate_f, decide_false, bin_neq, h2', Bool.not_false, if_true, pickD_B]
      rfl
  · have hs' : (300 : Int) < (s.size : Int) := by omega
    rw [if_neg (fun g => hs g.1)]
    simp -implicitDefEqProofs only [callK_ret, sl_zero, Option.bind_some, ifD_B, e_spec_joRead s h, tp0, tc0, tp1, lenD_str, bin_gtr, hs', gate_f, gate_s, decide_true, if_true, pickD_B]
    rfl

/-! ### the laws -/
theorem law_Recovered (s : ByteArray) : F_laws_FnExactRecovered [T s] = some (.ret [B true] []) := by
  rw [t_laws_FnExactRecovered]
  by_cases hm : (1048576 : Int) < (s.size : Int)
  · simp -implicitDefEqProofs [hm]
  · have hs : s.size ≤ 1048576 := by omega
    have e1 := e_impl_Recovered s hs
    have e2 := e_spec_Recovered s hs
    have hl : (recS s).1.length ≤ 24 := by
      unfold recS
      split
      · exact jo_len s
      · exact Nat.zero_le _
    generalize recS s = R at *
    have k2 := e_laws_markNoteS R.1 1 (by omega) (by omega) (by omega)
    have k3 := e_laws_heldNoteS 1 R.1.length (by omega) (by omega) (by omega)
    have k4 := e_laws_eqNoteS R.1 (by omega)
    have p2 : ¬ (1 + 3 * (R.1.length : Int) < 0) := by omega
    simp -implicitDefEqProofs [hm, e1, e2, k2, k3, k4, p2]
theorem law_ReadJournal (s : ByteArray) : F_laws_FnExactReadJournal [T s] = some (.ret [B true] []) := by
  rw [t_laws_FnExactReadJournal]
  by_cases hm : (1048576 : Int) < (s.size : Int)
  · simp -implicitDefEqProofs [hm]
  · have hs : s.size ≤ 1048576 := by omega
    have e1 := e_impl_ReadJournal s hs
    have e2 := e_spec_ReadJournal s hs
    have hl : (jrS s).1.length ≤ 24 := by
      unfold jrS
      split
      · exact jo_len s
      · exact Nat.zero_le _
    generalize jrS s = R at *
    have k2 := e_laws_markNoteS R.1 1 (by omega) (by omega) (by omega)
    have k3 := e_laws_heldNoteS 1 R.1.length (by omega) (by omega) (by omega)
    have k4 := e_laws_eqNoteS R.1 (by omega)
    have p2 : ¬ (1 + 3 * (R.1.length : Int) < 0) := by omega
    simp -implicitDefEqProofs [hm, e1, e2, k2, k3, k4, p2]

def badS (s : ByteArray) : Int × Bool := if s.size ≤ 300 ∧ (jo s).2 ≠ s.size then (((jo s).1.length : Int), true) else (0, false)
theorem e_impl_FirstBadLine (s : ByteArray) (h : s.size ≤ 1048576) : F_impl_FirstBadLine [T s] = some (.ret [I (badS s).1, B (badS s).2] []) := by
  rw [t_impl_FirstBadLine]
  have e1 := e_impl_Recovered s h
  unfold recS at e1
  unfold badS
  by_cases hs : s.size ≤ 300
  · rw [if_pos hs] at e1
    by_cases h2 : (jo s).2 = s.size
    · have h2' : ((jo s).2 : Int) = (s.size : Int) := by omega
      rw [if_neg (fun g => g.2 h2)]
      simp -implicitDefEqProofs only [e1, callK_ret, tp0, tc0, tp1, tpB2, Option.bind_some, un_not, Bool.not_true, gate_f, Bool.false_eq_true, if_false, lenD_str, bin_eql, h2', decide_true, pickD_B, ifD_B, if_true]
    · have h2' : ¬ ((jo s).2 : Int) = (s.size : Int) := by omega
      rw [if_pos ⟨hs, h2⟩]
      simp -implicitDefEqProofs only [e1, callK_ret, tp0, tc0, tp1, tpB2, Option.bind_some, un_not, Bool.not_true, gate_f, Bool.false_eq_true, if_false, lenD_str, bin_eql, h2', decide_false, pickD_B, ifD_B, lenD_arr, List.length_map]
  · rw [if_neg hs] at e1
    rw [if_neg (fun g => hs g.1)]
    have e1' : F_impl_Recovered [T s] = some (.ret [nts [], I 0, B false] []) := e1
    simp -implicitDefEqProofs only [e1', callK_ret, tp0, tc0, tp1, tpB2, Option.bind_some, un_not, Bool.not_false, gate_f, gate_s, if_true, pickD_B, ifD_B]
theorem e_spec_FirstBadLine (s : ByteArray) (h : s.size ≤ 1048576) : F_spec_FirstBadLine [T s] = some (.ret [I (badS s).1, B (badS s).2] []) := by
  rw [t_spec_FirstBadLine]
  have e1 := e_spec_joRead s h
  unfold badS
  by_cases hs : s.size ≤ 300
  · have hs' : ¬ (300 : Int) < (s.size : Int) := by omega
    by_cases h2 : (jo s).2 = s.size
    · have h2' : ((jo s).2 : Int) = (s.size : Int) := by omega
      rw [if_neg (fun g => g.2 h2)]
      simp -implicitDefEqProofs only [e1, callK_ret, tp0, tc0, tp1, Option.bind_some, bin_gtr, hs', decide_false, gate_f, Bool.false_eq_true, if_false, lenD_str, bin_eql, h2', decide_true, pickD_B, ifD_B, if_true]
    · have h2' : ¬ ((jo s).2 : Int) = (s.size : Int) := by omega
      rw [if_pos ⟨hs, h2⟩]
      simp -implicitDefEqProofs only [e1, callK_ret, tp0, tc0, tp1, Option.bind_some, bin_gtr, hs', decide_false, gate_f, Bool.false_eq_true, if_false, lenD_str, bin_eql, h2', pickD_B, ifD_B, lenD_arr, List.length_map]
  · have hs' : (300 : Int) < (s.size : Int) := by omega
    rw [if_neg (fun g => hs g.1)]
    simp -implicitDefEqProofs only [e1, callK_ret, tp0, tc0, tp1, Option.bind_some, lenD_str, bin_gtr, hs', decide_true, gate_f, gate_s, if_true, pickD_B, ifD_B]
theorem law_FirstBadLine (s : ByteArray) : F_laws_FnExactFirstBadLine [T s] = some (.ret [B true] []) := by
  rw [t_laws_FnExactFirstBadLine]
  by_cases hm : (1048576 : Int) < (s.size : Int)
  · simp -implicitDefEqProofs [hm]
  · have hs : s.size ≤ 1048576 := by omega
    have e1 := e_impl_FirstBadLine s hs
    have e2 := e_spec_FirstBadLine s hs
    generalize badS s = R at *
    simp -implicitDefEqProofs [hm, e1, e2]

/-- How many notes two lists begin with alike. -/
def cmn : List Nt → List Nt → Nat
  | x :: l, y :: m => if x = y then cmn l m + 1 else 0
  | _, _ => 0
theorem bin_eqlN (x y : Nt) : bin .eql false [1, 1, 1] (nt x) (nt y) = some (B (decide (x = y))) := by
  obtain ⟨a, b, c⟩ := x
  obtain ⟨d, e, f⟩ := y
  show ((allEq [1, 1, 1] [I a, I b, I c] [I d, I e, I f]).map B) = _
  have : allEq [1, 1, 1] [I a, I b, I c] [I d, I e, I f] = some (a == d && (b == e && (c == f && true))) := rfl
  rw [this]
  simp only [Option.map_some, Bool.and_true, Prod.mk.injEq, Option.some.injEq, D.v.injEq, Value.bool.injEq]
  rw [Bool.eq_iff_iff]
  simp
def sameS (s t : ByteArray) : Int × Bool := if ((jrS s).2 && (jrS t).2) = true then ((cmn (jrS s).1 (jrS t).1 : Int), true) else (0, false)
theorem e_spec_SameStart (s t : ByteArray) (hs : s.size ≤ 1048576) (ht : t.size ≤ 1048576) : F_spec_SameStart [T s, T t] = some (.ret [I (sameS s t).1, B (sameS s t).2] []) := by
  rw [t_spec_SameStart]
  have e1 := e_spec_ReadJournal s hs
  have e2 := e_spec_ReadJournal t ht
  have hl1 : (jrS s).1.length ≤ 24 := by
    unfold jrS
    split
    · exact jo_len s
    · exact Nat.zero_le _
  unfold sameS
  generalize jrS s = R at *
  generalize jrS t = Q at *
  obtain ⟨l, p⟩ := R
  obtain ⟨m, q⟩ := Q
  simp only at e1 e2 hl1
  cases p
  · simp -implicitDefEqProofs only [e1, e2, callK_ret, tp0, tc0, tpB1, Option.bind_some, un_not, Bool.not_false, gate_f, gate_s, if_true, pickD_B, ifD_B, Bool.false_and, Bool.false_eq_true, if_false]
  cases q
  · simp -implicitDefEqProofs only [e1, e2, callK_ret, tp0, tc0, tpB1, Option.bind_some, un_not, Bool.not_false, Bool.not_true, gate_f, gate_s, if_true, pickD_B, ifD_B, Bool.and_false, Bool.false_eq_true, if_false]
  simp -implicitDefEqProofs only [e1, e2, callK_ret, tp0, tc0, tpB1, Option.bind_some, un_not, Bool.not_true, gate_f, gate_s, if_true, pickD_B, ifD_B, Bool.and_self, Bool.false_eq_true, if_false]
  refine loop_wf_bind (fun r => r = _) (fun (i : Nat) => [nts l, nts m, I (i : Int)]) (fun i => i ≤ l.length ∧ i ≤ m.length ∧ i + cmn (l.drop i) (m.drop i) = cmn l m) (fun i => l.length - i) (fun o => o = .ext 0 [I (cmn l m : Int)]) ?_ 0 ⟨Nat.zero_le _, Nat.zero_le _, by simp⟩ rfl ?_
  · rintro i ⟨h1, h2, h3⟩
    by_cases g1 : i < l.length
    · have g1' : (i : Int) < (l.length : Int) := by omega
      by_cases g2 : i < m.length
      · have g2' : (i : Int) < (m.length : Int) := by omega
        have hx : elemD 3 (nts l) (I (i : Int)) = some (nt l[i]).cells := by simp [g1]
        have hy : elemD 3 (nts m) (I (i : Int)) = some (nt m[i]).cells := by simp [g2]
        have lx : ∀ x : Nt, (ldD true 3 (.ptr (nt x).cells)).bind chkV = some (nt x) := fun x => by simp
        have hw : IntKind.i64.wrap ((i : Int) + 1) = ((i + 1 : Nat) : Int) := by rw [wrap_id (by omega) (by omega)]; omega
        rw [List.drop_eq_getElem_cons g1, List.drop_eq_getElem_cons g2] at h3
        simp only [cmn] at h3
        by_cases g3 : l[i] = m[i]
        · left
          rw [if_pos g3] at h3
          refine ⟨i + 1, ?_, ⟨by omega, by omega, by omega⟩, by omega⟩
          simp -implicitDefEqProofs only [sl_zero, sl_succ, lenD_arr, List.length_map, Option.bind_some, bin_lss, g1', g2', decide_true, gate_t, if_true, pickD_B, hx, hy, Option.map_some, lx, bin_eqlN, g3, ifD_B, bin_add, hw]
        · right
          rw [if_neg g3] at h3
          refine ⟨_, ?_, rfl, rfl⟩
          simp -implicitDefEqProofs only [sl_zero, sl_succ, lenD_arr, List.length_map, Option.bind_some, bin_lss, g1', g2', decide_true, gate_t, if_true, pickD_B, hx, hy, Option.map_some, lx, bin_eqlN, g3, decide_false, ifD_B, Bool.false_eq_true, if_false, ← h3, Nat.add_zero]
      · right
        have g2' : ¬ (i : Int) < (m.length : Int) := by omega
        rw [show List.drop i m = [] from List.drop_eq_nil_of_le (by omega)] at h3
        have h4 : cmn (l.drop i) [] = 0 := by cases l.drop i <;> rfl
        refine ⟨_, ?_, rfl, rfl⟩
        simp -implicitDefEqProofs only [sl_zero, sl_succ, lenD_arr, List.length_map, Option.bind_some, bin_lss, g1', g2', decide_true, decide_false, gate_t, gate_s, if_true, pickD_B, ifD_B, Bool.false_eq_true, if_false, ← h3, h4, Nat.add_zero]
    · right
      have g1' : ¬ (i : Int) < (l.length : Int) := by omega
      rw [show List.drop i l = [] from List.drop_eq_nil_of_le (by omega)] at h3
      have h4 : cmn [] (m.drop i) = 0 := by cases m.drop i <;> rfl
      refine ⟨_, ?_, rfl, rfl⟩
      simp -implicitDefEqProofs only [sl_zero, sl_succ, lenD_arr, List.length_map, Option.bind_some, bin_lss, g1', decide_false, gate_t, gate_s, if_true, pickD_B, ifD_B, Bool.false_eq_true, if_false, ← h3, h4, Nat.add_zero]
  · rintro o rfl
    simp -implicitDefEqProofs only [outK_ext, Nat.beq_refl, ifN_B, if_true, sl_zero]
theorem e_impl_SameStart (s t : ByteArray) (hs : s.size ≤ 1048576) (ht : t.size ≤ 1048576) : F_impl_SameStart [T s, T t] = some (.ret [I (sameS s t).1, B (sameS s t).2] []) := by
  rw [t_impl_SameStart]
  have e1 := e_impl_readJournal s hs
  have e2 := e_impl_readJournal t ht
  have hl1 : (jrS s).1.length ≤ 24 := by
    unfold jrS
    split
    · exact jo_len s
    · exact Nat.zero_le _
  unfold sameS
  generalize jrS s = R at *
  generalize jrS t = Q at *
  obtain ⟨l, p⟩ := R
  obtain ⟨m, q⟩ := Q
  simp only at e1 e2 hl1
  cases p
  · simp -implicitDefEqProofs only [e1, e2, callK_ret, tp0, tc0, tpB1, Option.bind_some, un_not, Bool.not_false, gate_f, gate_s, if_true, pickD_B, ifD_B, Bool.false_and, Bool.false_eq_true, if_false]
  cases q
  · simp -implicitDefEqProofs only [e1, e2, callK_ret, tp0, tc0, tpB1, Option.bind_some, un_not, Bool.not_false, Bool.not_true, gate_f, gate_s, if_true, pickD_B, ifD_B, Bool.and_false, Bool.false_eq_true, if_false]
  simp -implicitDefEqProofs only [e1, e2, callK_ret, tp0, tc0, tpB1, Option.bind_some, un_not, Bool.not_true, gate_f, gate_s, if_true, pickD_B, ifD_B, Bool.and_self, Bool.false_eq_true, if_false]
  refine loop_wf_bind (fun r => r = _) (fun (i : Nat) => [nts l, nts m, I (i : Int)]) (fun i => i ≤ l.length ∧ i ≤ m.length ∧ i + cmn (l.drop i) (m.drop i) = cmn l m) (fun i => l.length - i) (fun o => o = .ext 0 [I (cmn l m : Int)]) ?_ 0 ⟨Nat.zero_le _, Nat.zero_le _, by simp⟩ rfl ?_
  · rintro i ⟨h1, h2, h3⟩
    by_cases g1 : i < l.length
    · have g1' : (i : Int) < (l.length : Int) := by omega
      by_cases g2 : i < m.length
      · have g2' : (i : Int) < (m.length : Int) := by omega
        have hx : elemD 3 (nts l) (I (i : Int)) = some (nt l[i]).cells := by simp [g1]
        have hy : elemD 3 (nts m) (I (i : Int)) = some (nt m[i]).cells := by simp [g2]
        have lx : ∀ x : Nt, (ldD true 3 (.ptr (nt x).cells)).bind chkV = some (nt x) := fun x => by simp
        have hw : IntKind.i64.wrap ((i : Int) + 1) = ((i + 1 : Nat) : Int) := by rw [wrap_id (by omega) (by omega)]; omega
        rw [List.drop_eq_getElem_cons g1, List.drop_eq_getElem_cons g2] at h3
        simp only [cmn] at h3
        by_cases g3 : l[i] = m[i]
        · left
          rw [if_pos g3] at h3
          refine ⟨i + 1, ?_, ⟨by omega, by omega, by omega⟩, by omega⟩
          simp -implicitDefEqProofs only [sl_zero, sl_succ, lenD_arr, List.length_map, Option.bind_some, bin_lss, g1', g2', decide_true, gate_t, if_true, pickD_B, hx, hy, Option.map_some, lx, bin_eqlN, g3, ifD_B, bin_add, hw]
        · right
          rw [if_neg g3] at h3
          refine ⟨_, ?_, rfl, rfl⟩
          simp -implicitDefEqProofs only [sl_zero, sl_succ, lenD_arr, List.length_map, Option.bind_some, bin_lss, g1', g2', decide_true, gate_t, if_true, pickD_B, hx, hy, Option.map_some, lx, bin_eqlN, g3, decide_false, ifD_B, Bool.false_eq_true, if_false, ← h3, Nat.add_zero]
      · right
        have g2' : ¬ (i : Int) < (m.length : Int) := by omega
        rw [show List.drop i m = [] from List.drop_eq_nil_of_le (by omega)] at h3
        have h4 : cmn (l.drop i) [] = 0 := by cases l.drop i <;> rfl
        refine ⟨_, ?_, rfl, rfl⟩
        simp -implicitDefEqProofs only [sl_zero, sl_succ, lenD_arr, List.length_map, Option.bind_some, bin_lss, g1', g2', decide_true, decide_false, gate_t, gate_s, if_true, pickD_B, ifD_B, Bool.false_eq_true, if_false, ← h3, h4, Nat.add_zero]
    · right
      have g1' : ¬ (i : Int) < (l.length : Int) := by omega
      rw [show List.drop i l = [] from List.drop_eq_nil_of_le (by omega)] at h3
      have h4 : cmn [] (m.drop i) = 0 := by cases m.drop i <;> rfl
      refine ⟨_, ?_, rfl, rfl⟩
      simp -implicitDefEqProofs only [sl_zero, sl_succ, lenD_arr, List.length_map, Option.bind_some, bin_lss, g1', decide_false, gate_t, gate_s, if_true, pickD_B, ifD_B, Bool.false_eq_true, if_false, ← h3, h4, Nat.add_zero]
  · rintro o rfl
    simp -implicitDefEqProofs only [outK_ext, Nat.beq_refl, ifN_B, if_true, sl_zero]
theorem law_SameStart (s t : ByteArray) : F_laws_FnExactSameStart [T s, T t] = some (.ret [B true] []) := by
  rw [t_laws_FnExactSameStart]
  by_cases hm : (1048576 : Int) < (s.size : Int)
  · simp -implicitDefEqProofs [hm]
  by_cases hm2 : (1048576 : Int) < (t.size : Int)
  · simp -implicitDefEqProofs [hm, hm2]
  · have e1 := e_impl_SameStart s t (by omega) (by omega)
    have e2 := e_spec_SameStart s t (by omega) (by omega)
    generalize sameS s t = R at *
    simp -implicitDefEqProofs [hm, hm2, e1, e2]
end Go.Proofs.YtfjkapnonljdeaaDoor
