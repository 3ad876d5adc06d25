/-
  Notes of days; notes without one; the laws of these.
-/
import Derived.Test.YtkhggkbmjdopcaaN3
namespace Go.Proofs.Ytkhggkbmjdopcaa
open Go Go.V
set_option linter.unusedSimpArgs false

theorem isV_nt (x : Nt) : (nt x).isV = true := rfl
def onDay (a b : Int) (x : Nt) : Bool := decide (a ≤ x.1 ∧ x.1 ≤ b)
def okDays (l : List Nt) (a b : Int) : Bool := goodN l && decide (0 ≤ a ∧ a ≤ 9999) && decide (0 ≤ b ∧ b ≤ 9999)
def notesOn (l : List Nt) (a b : Int) : List Nt := if okDays l a b then l.filter (onDay a b) else []
theorem notesOn_len (l : List Nt) (a b : Int) : (notesOn l a b).length ≤ l.length := by
  unfold notesOn
  split
  · exact List.length_filter_le _ _
  · simp
theorem filter_take {l : List Nt} {i : Nat} (hi : i < l.length) (p : Nt → Bool) : (l.take (i + 1)).filter p = (l.take i).filter p ++ if p l[i] = true then [l[i]] else [] := by
  rw [List.take_succ_eq_append_getElem hi, List.filter_append, List.filter_cons]
  rfl
theorem nts_nil : nts [] = .arr 3 [] := rfl
theorem nts_app (l m : List Nt) (h : l.length + m.length ≤ 1048577) : appD 3 24 (nts l) (nts m) = some (nts (l ++ m)) := by
  rw [appD_eq, if_pos (by simp only [List.length_map]; omega)]
  simp
theorem e_spec_NotesOn (l : List Nt) (a b : Int) (h : l.length ≤ 1048576) : F_spec_NotesOn [nts l, I a, I b] = some (.ret [nts (notesOn l a b), B (okDays l a b)] []) := by
  rw [t_spec_NotesOn]
  cases h1 : goodN l
  · simp [e_spec_joGood l h, h1, okDays, notesOn]
  by_cases h2 : 0 ≤ a ∧ a ≤ 9999
  case neg => simp [e_spec_joGood l h, e_spec_joDay, h1, h2, okDays, notesOn]
  by_cases h3 : 0 ≤ b ∧ b ≤ 9999
  case neg => simp [e_spec_joGood l h, e_spec_joDay, h1, h2, h3, okDays, notesOn]
  have hok : okDays l a b = true := by simp [h1, h2, h3, okDays]
  have hn : notesOn l a b = l.filter (onDay a b) := by simp [notesOn, hok]
  rw [hok, hn]
  simp only [e_spec_joGood l h, e_spec_joDay, h1, h2, h3, callK_ret, sl_zero, un_not, Option.bind_some, gate_f, gateC_f, pickD_B, ifD_B, nrmK_some, Bool.not_true, Bool.false_eq_true, if_false, decide_true, lenD_arr, List.length_map, and_self, Bool.and_self, if_true]
  refine loop_bind _ (loop_for l.length (fun i => [I a, I b, nts ((l.take i).filter (onDay a b)), nts l, I l.length, I i]) (.ext 0 [nts (l.filter (onDay a b))]) (fun i hi => ?_) ?_ rfl rfl) ?_
  · have hw : IntKind.i64.wrap ((i : Int) + 1) = (i : Int) + 1 := wrap_id (by omega) (by omega)
    have hlen : ((l.take i).filter (onDay a b)).length ≤ i := Nat.le_trans (List.length_filter_le _ _) (by simp; omega)
    have ha := nts_app ((l.take i).filter (onDay a b)) [l[i]] (by simp only [List.length_singleton]; omega)
    have hm : mkArr 3 [nt l[i]] = some (nts [l[i]]) := by simp [mkArr, lenOkD]
    have hc : chkA (nts [l[i]]) = some (nts [l[i]]) := chkA_map isV_nt
    rw [filter_take hi]
    by_cases h4 : a ≤ l[i].1 ∧ l[i].1 ≤ b
    · have h5 : onDay a b l[i] = true := by simp [onDay, h4]
      simp [hi, h4, h5, hw, e_spec_l1In, hm, hc, ha, -appD_eq]
    · have h5 : onDay a b l[i] = false := by simp only [onDay, h4, decide_false]
      simp [hi, h4, h5, hw, e_spec_l1In]
  · simp
  · simp
theorem e_impl_NotesOn (l : List Nt) (a b : Int) (h : l.length ≤ 1048576) : F_impl_NotesOn [nts l, I a, I b] = some (.ret [nts (notesOn l a b), B (okDays l a b)] []) := by
  rw [t_impl_NotesOn]
  cases h1 : goodN l
  · simp [mkArr_nil, e_impl_AreNotes l h, h1, okDays, notesOn]
  by_cases h2 : 0 ≤ a ∧ a ≤ 9999
  case neg => simp [mkArr_nil, e_impl_AreNotes l h, e_impl_isNoteDay, h1, h2, okDays, notesOn]
  by_cases h3 : 0 ≤ b ∧ b ≤ 9999
  case neg => simp [mkArr_nil, e_impl_AreNotes l h, e_impl_isNoteDay, h1, h2, h3, okDays, notesOn]
  have hok : okDays l a b = true := by simp [h1, h2, h3, okDays]
  have hn : notesOn l a b = l.filter (onDay a b) := by simp [notesOn, hok]
  rw [hok, hn]
  simp only [mkArr_nil, e_impl_AreNotes l h, e_impl_isNoteDay, h1, h2, h3, callK_ret, sl_zero, un_not, Option.bind_some, gate_f, gateC_f, pickD_B, ifD_B, nrmK_some, Bool.not_true, Bool.false_eq_true, if_false, decide_true, lenD_arr, List.length_map, and_self, Bool.and_self, if_true]
  refine loop_bind _ (loop_for l.length (fun i => [I a, I b, nts ((l.take i).filter (onDay a b)), nts l, I l.length, I i]) (.ext 0 [nts (l.filter (onDay a b))]) (fun i hi => ?_) ?_ rfl rfl) ?_
  · have hw : IntKind.i64.wrap ((i : Int) + 1) = (i : Int) + 1 := wrap_id (by omega) (by omega)
    have hlen : ((l.take i).filter (onDay a b)).length ≤ i := Nat.le_trans (List.length_filter_le _ _) (by simp; omega)
    have ha := nts_app ((l.take i).filter (onDay a b)) [l[i]] (by simp only [List.length_singleton]; omega)
    have hm : mkArr 3 [nt l[i]] = some (nts [l[i]]) := by simp [mkArr, lenOkD]
    have hc : chkA (nts [l[i]]) = some (nts [l[i]]) := chkA_map isV_nt
    rw [filter_take hi]
    by_cases h4 : a ≤ l[i].1 ∧ l[i].1 ≤ b
    · have h5 : onDay a b l[i] = true := by simp [onDay, h4]
      simp [hi, h4, h5, hw, e_impl_within, hm, hc, ha, -appD_eq]
    · have h5 : onDay a b l[i] = false := by simp only [onDay, h4, decide_false]
      simp [hi, h4, h5, hw, e_impl_within]
  · simp
  · simp
/-! ### marks -/
def mk3 (k : Int) (j : Nat) : Nt := (k + 3 * j, k + 3 * j + 1, k + 3 * j + 2)
def marks (k : Int) (n : Nat) : List Nt := (List.range n).map (mk3 k)
theorem e_laws_markNoteS (l : List Nt) (k : Int) (h : l.length ≤ 1048577) (h1 : 0 ≤ k) (h2 : k ≤ 100000000) : F_laws_markNoteS [nts l, I k] = some (.ret [I (k + 3 * l.length)] [nts (marks k l.length)]) := by
  rw [t_laws_markNoteS]
  refine loop_bind _ (loop_for l.length (fun i => [.arr 3 (markL (fun j => nt (mk3 k j)) nt l i), I (k + 3 * i), I i]) (.ext 0 [nts (marks k l.length), I (k + 3 * l.length)]) (fun i hi => ?_) ?_ rfl ?_) ?_
  · have hw : IntKind.i64.wrap ((i : Int) + 1) = (i : Int) + 1 := wrap_id (by omega) (by omega)
    have w1 : IntKind.i64.wrap (k + 3 * (i : Int) + 1) = k + 3 * i + 1 := wrap_id (by omega) (by omega)
    have w2 : IntKind.i64.wrap (k + 3 * (i : Int) + 1 + 1) = k + 3 * i + 2 := by rw [wrap_id (by omega) (by omega)]; omega
    have w3 : IntKind.i64.wrap (k + 3 * (i : Int) + 2 + 1) = k + 3 * (i + 1) := by rw [wrap_id (by omega) (by omega)]; omega
    have hg := markL_get (g := fun j => nt (mk3 k j)) (f := nt) hi
    have hs := markL_set (g := fun j => nt (mk3 k j)) (f := nt) hi
    have hl := markL_length (g := fun j => nt (mk3 k j)) (f := nt) (Nat.le_of_lt hi)
    generalize markL (fun j => nt (mk3 k j)) nt l i = L at *
    have s1 := stD_part (z := 3) (f := 0) (v := .int .i64 (k + 3 * i)) hg (by simp)
    have s2 := stD_part (z := 3) (L := L.set i (.agg [I (k + 3 * i), I l[i].2.1, I l[i].2.2])) (i := i) (f := 1) (v := .int .i64 (k + 3 * i + 1)) (c := [I (k + 3 * i), I l[i].2.1, I l[i].2.2]) (by simp [hl, hi]) (by simp)
    have s3 := stD_part (z := 3) (L := L.set i (.agg [I (k + 3 * i), I (k + 3 * i + 1), I l[i].2.2])) (i := i) (f := 2) (v := .int .i64 (k + 3 * i + 2)) (c := [I (k + 3 * i), I (k + 3 * i + 1), I l[i].2.2]) (by simp [hl, hi]) (by simp)
    simp only [putCells_eq, List.take_zero, List.nil_append, List.length_singleton, Nat.zero_add, List.drop_succ_cons, List.drop_zero, List.singleton_append, List.take_succ_cons, List.cons_append, Nat.reduceAdd, List.set_set, List.drop_nil] at s1 s2 s3
    simp [hi, hl, hw, w1, w2, w3, s1, s2, s3]
    exact hs
  · simp [markL_full, marks, mk3]
  · simp [markL_zero (g := fun j => nt (mk3 k j)) (f := nt)]
  · simp

theorem e_laws_heldNoteS (k : Int) (n : Nat) (h : n ≤ 1048577) (h1 : 0 ≤ k) (h2 : k ≤ 100000000) : F_laws_heldNoteS [nts (marks k n), I k] = some (.ret [I (k + 3 * n)] []) := by
  rw [t_laws_heldNoteS]
  refine loop_bind _ (loop_for n (fun i => [nts (marks k n), I (k + 3 * i), I i]) (.ext 0 [I (k + 3 * n)]) (fun i hi => ?_) ?_ rfl ?_) ?_
  · have hw : IntKind.i64.wrap ((i : Int) + 1) = (i : Int) + 1 := wrap_id (by omega) (by omega)
    have w1 : IntKind.i64.wrap (k + 3 * (i : Int) + 1) = k + 3 * i + 1 := wrap_id (by omega) (by omega)
    have w2 : IntKind.i64.wrap (k + 3 * (i : Int) + 1 + 1) = k + 3 * i + 2 := by rw [wrap_id (by omega) (by omega)]; omega
    have w3 : IntKind.i64.wrap (k + 3 * (i : Int) + 2 + 1) = k + 3 * (i + 1) := by rw [wrap_id (by omega) (by omega)]; omega
    simp [marks, mk3, hi, hw, w1, w2, w3]
  · simp [marks]
  · simp
  · simp

theorem law_NotesOn (l : List Nt) (a b : Int) (_h : l.length ≤ 9223372036854775807) : F_laws_FnExactNotesOn [nts l, I a, I b] = some (.ret [B true] []) := by
  rw [t_laws_FnExactNotesOn]
  obtain ⟨m, h1, h2⟩ := e_laws_szNoteS l 1048576
  by_cases hm : m < 0
  · simp [h1, hm]
  · have h3 := h2 (by omega)
    rw [wrap_id (by omega) (by omega)] at h3
    have hl : l.length ≤ 1048576 := by omega
    have hn := notesOn_len l a b
    have k1 := e_laws_markNoteS l 1 (by omega) (by omega) (by omega)
    have k2 := e_laws_markNoteS (notesOn l a b) 1 (by omega) (by omega) (by omega)
    have k3 := e_laws_heldNoteS 1 (notesOn l a b).length (by omega) (by omega) (by omega)
    have p1 : ¬ (1 + 3 * (l.length : Int) < 0) := by omega
    have p2 : ¬ (1 + 3 * ((notesOn l a b).length : Int) < 0) := by omega
    simp [h1, hm, e_laws_toNoteS l hl, e_spec_NotesOn l a b hl, e_impl_NotesOn l a b hl, e_laws_eqNoteS l (by omega), e_laws_eqNoteS (notesOn l a b) (by omega), k1, k2, k3, p1, p2]

def okDrop (l : List Nt) (i : Int) : Bool := goodN l && decide (0 ≤ i ∧ i ≤ (l.length : Int) - 1)
def dropN (l : List Nt) (i : Int) : List Nt := if okDrop l i then l.take i.toNat ++ l.drop (i.toNat + 1) else []
theorem dropN_len (l : List Nt) (i : Int) : (dropN l i).length ≤ l.length := by
  unfold dropN
  split
  · simp; omega
  · simp
theorem e_spec_DropNote (l : List Nt) (n : Int) (h : l.length ≤ 1048576) : F_spec_DropNote [nts l, I n] = some (.ret [nts (dropN l n), B (okDrop l n)] []) := by
  rw [t_spec_DropNote]
  cases h1 : goodN l
  · simp [e_spec_joGood l h, h1, okDrop, dropN]
  have hw : IntKind.i64.wrap ((l.length : Int) - 1) = (l.length : Int) - 1 := wrap_id (by omega) (by omega)
  by_cases h2 : 0 ≤ n ∧ n ≤ (l.length : Int) - 1
  case neg => simp [e_spec_joGood l h, e_spec_l1In, h1, h2, hw, okDrop, dropN]
  obtain ⟨i, rfl⟩ := Int.eq_ofNat_of_zero_le h2.1
  have hi : i < l.length := by omega
  have hw2 : IntKind.i64.wrap ((i : Int) + 1) = ((i + 1 : Nat) : Int) := wrap_id (by omega) (by omega)
  have a1 := nts_app [] (l.take i) (by simp; omega)
  have a2 := nts_app (l.take i) (l.drop (i + 1)) (by simp; omega)
  have s1 : sliceD false 3 (nts l) (I ((0 : Nat) : Int)) (I (i : Int)) = _ := sliceD_nat (z := 3) (l := l.map nt) (Nat.zero_le i) (by simp; omega)
  have s2 : sliceHi false 3 (nts l) (I ((i + 1 : Nat) : Int)) = _ := sliceHi_nat (z := 3) (l := l.map nt) (by simp; omega)
  rw [List.drop_zero, ← List.map_take] at s1
  rw [← List.map_drop] at s2
  have c1 : chkA (nts (l.take i)) = some (nts (l.take i)) := chkA_map isV_nt
  have c2 : chkA (nts (l.drop (i + 1))) = some (nts (l.drop (i + 1))) := chkA_map isV_nt
  rw [nts_nil, List.nil_append] at a1
  have hok : okDrop l i = true := by simp [okDrop, h1, h2]
  have hd : dropN l i = l.take i ++ l.drop (i + 1) := by simp [dropN, hok]
  rw [hok, hd]
  simp only [e_spec_joGood l h, e_spec_l1In, h1, h2, hw, hw2, mkArr_nil, callK_ret, sl_zero, un_not, Option.bind_some, gate_f, gateC_f, pickD_B, ifD_B, nrmK_some, Bool.not_true, Bool.false_eq_true, if_false, decide_true, lenD_arr, List.length_map, bin_sub, bin_add, and_self, Bool.and_self, if_true]
  rw [show (D.v (Value.int IntKind.i64 0)) = I ((0 : Nat) : Int) from rfl, s1]
  simp only [Option.bind_some, c1, a1, s2, c2, a2]

theorem e_impl_DropNote (l : List Nt) (n : Int) (h : l.length ≤ 1048576) : F_impl_DropNote [nts l, I n] = some (.ret [nts (dropN l n), B (okDrop l n)] []) := by
  rw [t_impl_DropNote]
  cases h1 : goodN l
  · simp [mkArr_nil, e_impl_AreNotes l h, h1, okDrop, dropN]
  have hw : IntKind.i64.wrap ((l.length : Int) - 1) = (l.length : Int) - 1 := wrap_id (by omega) (by omega)
  by_cases h2 : 0 ≤ n ∧ n ≤ (l.length : Int) - 1
  case neg => simp [mkArr_nil, e_impl_AreNotes l h, e_impl_within, h1, h2, hw, okDrop, dropN]
  obtain ⟨i, rfl⟩ := Int.eq_ofNat_of_zero_le h2.1
  have hi : i < l.length := by omega
  have hw2 : IntKind.i64.wrap ((i : Int) + 1) = ((i + 1 : Nat) : Int) := wrap_id (by omega) (by omega)
  have a1 := nts_app [] (l.take i) (by simp; omega)
  have a2 := nts_app (l.take i) (l.drop (i + 1)) (by simp; omega)
  have s1 : sliceD false 3 (nts l) (I ((0 : Nat) : Int)) (I (i : Int)) = _ := sliceD_nat (z := 3) (l := l.map nt) (Nat.zero_le i) (by simp; omega)
  have s2 : sliceHi false 3 (nts l) (I ((i + 1 : Nat) : Int)) = _ := sliceHi_nat (z := 3) (l := l.map nt) (by simp; omega)
  rw [List.drop_zero, ← List.map_take] at s1
  rw [← List.map_drop] at s2
  have c1 : chkA (nts (l.take i)) = some (nts (l.take i)) := chkA_map isV_nt
  have c2 : chkA (nts (l.drop (i + 1))) = some (nts (l.drop (i + 1))) := chkA_map isV_nt
  rw [nts_nil, List.nil_append] at a1
  have hok : okDrop l i = true := by simp [okDrop, h1, h2]
  have hd : dropN l i = l.take i ++ l.drop (i + 1) := by simp [dropN, hok]
  rw [hok, hd]
  simp only [e_impl_AreNotes l h, e_impl_within, h1, h2, hw, hw2, mkArr_nil, callK_ret, sl_zero, un_not, Option.bind_some, gate_f, gateC_f, pickD_B, ifD_B, nrmK_some, Bool.not_true, Bool.false_eq_true, if_false, decide_true, lenD_arr, List.length_map, bin_sub, bin_add, and_self, Bool.and_self, if_true]
  rw [show (D.v (Value.int IntKind.i64 0)) = I ((0 : Nat) : Int) from rfl, s1]
  simp only [Option.bind_some, c1, a1, s2, c2, a2]

theorem law_DropNote (l : List Nt) (n : Int) (_h : l.length ≤ 9223372036854775807) : F_laws_FnExactDropNote [nts l, I n] = some (.ret [B true] []) := by
  rw [t_laws_FnExactDropNote]
  obtain ⟨m, h1, h2⟩ := e_laws_szNoteS l 1048576
  by_cases hm : m < 0
  · simp [h1, hm]
  · have h3 := h2 (by omega)
    rw [wrap_id (by omega) (by omega)] at h3
    have hl : l.length ≤ 1048576 := by omega
    have hn := dropN_len l n
    have k1 := e_laws_markNoteS l 1 (by omega) (by omega) (by omega)
    have k2 := e_laws_markNoteS (dropN l n) 1 (by omega) (by omega) (by omega)
    have k3 := e_laws_heldNoteS 1 (dropN l n).length (by omega) (by omega) (by omega)
    have p1 : ¬ (1 + 3 * (l.length : Int) < 0) := by omega
    have p2 : ¬ (1 + 3 * ((dropN l n).length : Int) < 0) := by omega
    simp [h1, hm, e_laws_toNoteS l hl, e_spec_DropNote l n hl, e_impl_DropNote l n hl, e_laws_eqNoteS l (by omega), e_laws_eqNoteS (dropN l n) (by omega), k1, k2, k3, p1, p2]

end Go.Proofs.Ytkhggkbmjdopcaa
