/-
  Draws of metal, of notes of days, of checks; the law of metals.
-/
import Derived.Test.YtkhggkbmjdopcaaN7
namespace Go.Proofs.Ytkhggkbmjdopcaa
open Go Go.V
set_option linter.unusedSimpArgs false

def ckN (b : Int) (x : Nt) : Int := (IntKind.i64.wrap (IntKind.i64.wrap (IntKind.i64.wrap (IntKind.i64.wrap (31 * b) + IntKind.i64.wrap (17 * x.1)) + IntKind.i64.wrap (5 * x.2.1)) + x.2.2)).tmod 9973
theorem e_spec_joCheck (b : Int) (x : Nt) : F_spec_joCheck [I b, nt x] = some (.ret [I (ckN b x)] []) := by
  rw [t_spec_joCheck]
  simp -implicitDefEqProofs [ckN]
theorem e_impl_check (b : Int) (x : Nt) : F_impl_check [I b, nt x] = some (.ret [I (ckN b x)] []) := by
  rw [t_impl_check]
  simp -implicitDefEqProofs [ckN]
def okCheck (b : Int) (x : Nt) : Bool := decide (0 ≤ b ∧ b ≤ 9972) && isNt x
theorem e_spec_NoteCheck (b : Int) (x : Nt) : F_spec_NoteCheck [I b, nt x] = some (.ret [I (if okCheck b x then ckN b x else 0), B (okCheck b x)] []) := by
  rw [t_spec_NoteCheck]
  by_cases h1 : 0 ≤ b ∧ b ≤ 9972
  · cases h2 : isNt x <;> simp -implicitDefEqProofs [e_spec_l1In, e_spec_joNote, e_spec_joCheck, okCheck, h1, h2]
  · simp -implicitDefEqProofs [e_spec_l1In, okCheck, h1]
theorem e_impl_NoteCheck (b : Int) (x : Nt) : F_impl_NoteCheck [I b, nt x] = some (.ret [I (if okCheck b x then ckN b x else 0), B (okCheck b x)] []) := by
  rw [t_impl_NoteCheck]
  by_cases h1 : 0 ≤ b ∧ b ≤ 9972
  · cases h2 : isNt x <;> simp -implicitDefEqProofs [e_impl_within, e_impl_isNote, e_impl_check, okCheck, h1, h2]
  · simp -implicitDefEqProofs [e_impl_within, okCheck, h1]
theorem ckN_in {b : Int} {x : Nt} (h : okCheck b x = true) : 0 ≤ ckN b x ∧ ckN b x < 9973 := by
  simp only [okCheck, isNt, Bool.and_eq_true, decide_eq_true_eq] at h
  unfold ckN
  rw [wrap_id (a := 31 * b) (by omega) (by omega), wrap_id (a := 17 * x.1) (by omega) (by omega), wrap_id (a := 5 * x.2.1) (by omega) (by omega), wrap_id (a := 31 * b + 17 * x.1) (by omega) (by omega),
    wrap_id (a := 31 * b + 17 * x.1 + 5 * x.2.1) (by omega) (by omega), wrap_id (by omega) (by omega)]
  exact ⟨Int.tmod_nonneg _ (by omega), Int.tmod_lt_of_pos _ (by omega)⟩

theorem bin_neq_nt (x : Nt) : bin .neq false [1, 1, 1] (nt x) (nt x) = some (B false) := by
  simp [bin, allEq]
theorem e_laws_pSameNotes (l : List Nt) (h : l.length ≤ 1048577) : F_laws_pSameNotes [nts l, nts l] = some (.ret [B true] []) := by
  rw [t_laws_pSameNotes]
  simp only [lenD_arr, List.length_map, Option.bind_some, bin_neq, decide_true, Bool.not_true, ifD_B, Bool.false_eq_true, if_false]
  refine loop_bind _ (loop_for l.length (fun i => [nts l, nts l, I l.length, I i]) (.ext 0 []) (fun i hi => ?_) ?_ rfl rfl) ?_
  · have hw : IntKind.i64.wrap ((i : Int) + 1) = (i : Int) + 1 := wrap_id (by omega) (by omega)
    have hb := bin_neq_nt l[i]
    simp -implicitDefEqProofs [hi, hb, hw]
  · simp
  · simp

theorem e_laws_big (a b : List Int) : ∃ p : Bool, F_laws_big [bytesD a, bytesD b] = some (.ret [B p] []) ∧ (p = false → a.length ≤ 1048576 ∧ b.length ≤ 1048576) := by
  rw [t_laws_big]
  by_cases h1 : 1048576 < (a.length : Int)
  · exact ⟨true, by simp [h1], fun h => by cases h⟩
  have hw : IntKind.i64.wrap (1048576 - (a.length : Int)) = 1048576 - (a.length : Int) := wrap_id (by omega) (by omega)
  by_cases h2 : 1048576 - (a.length : Int) < (b.length : Int)
  · exact ⟨true, by simp [h1, h2, hw], fun h => by cases h⟩
  · exact ⟨false, by simp [h1, h2, hw], fun _ => by omega⟩

theorem bldCur (l : List Int) : bldD [(0, 1)] [D.arr 1 [], I 0, D.v (.int .u64 0)] [bytesD l] = some (.agg [bytesD l, I 0, D.v (.int .u64 0)]) := by
  simp [bldD, fillD]
structure Bytes (l : List Int) : Prop where
  by_ : ∀ n ∈ l, 0 ≤ n ∧ n ≤ 255
  len : l.length ≤ 1048576
theorem cur0 {l : List Int} (h : Bytes l) : Cur.ok ⟨l, 0, 0⟩ 0 := ⟨h.by_, h.len, Nat.le_refl _, Int.le_refl 0, show (0 : Int) < 18446744073709551616 by decide⟩

abbrev curZ (l : List Int) : D := .agg [bytesD l, I 0, .v (.int .u64 0)]
theorem d_notes0 (l : List Int) (h : Bytes l) : ∃ (m : List Nt) (c' : Cur), F_spec_l1Cur_notes [curZ l] = some (.ret [nts m] [curD c']) ∧ m.length ≤ 25 ∧ c'.ok 500 := d_notes ⟨l, 0, 0⟩ 0 (cur0 h) (by omega)
theorem d_pick0 (l : List Int) (h : Bytes l) (n : Int) (hn : n ≤ 1000000000) : ∃ (v : Int) (c' : Cur), F_spec_l1Cur_pick [curZ l, I n] = some (.ret [I v] [curD c']) ∧ 0 ≤ v ∧ (v < n ∨ v = 0) ∧ c'.ok 2 := d_pick ⟨l, 0, 0⟩ n 0 (cur0 h) (by omega) hn
theorem d_DrawLeastMetal (l : List Int) (h : Bytes l) : ∃ (m : List Nt) (s : Int), F_spec_DrawLeastMetal [bytesD l] = some (.ret [nts m, I s] []) ∧ m.length ≤ 25 := by
  obtain ⟨m, c1, e1, l1, k1⟩ := d_notes0 l h
  obtain ⟨v2, c2, e2, l2, k2⟩ := d_among c1 [1000000, 1000001, -1] _ k1 (by omega) (by simp) (by simp)
  obtain ⟨v3, c3, e3, l3, k3⟩ := d_among c2 [0, 100, 500, v2] _ k2 (by omega) (by simp) (by simp)
  have m1 := mkInts (l := [1000000, 1000001, -1])
  have m2 := mkInts (l := [0, 100, 500, v2])
  simp only [List.map_cons, List.map_nil] at m1 m2
  rw [t_spec_DrawLeastMetal]
  exact ⟨m, v3, by simp -implicitDefEqProofs [bldCur, e1, e2, e3, m1, m2, -List.map_cons], l1⟩
theorem d_DrawNotesOn (l : List Int) (h : Bytes l) : ∃ (m : List Nt) (a b : Int), F_spec_DrawNotesOn [bytesD l] = some (.ret [nts m, I a, I b] []) ∧ m.length ≤ 25 := by
  obtain ⟨m, c1, e1, l1, k1⟩ := d_notes0 l h
  obtain ⟨v2, c2, e2, l2, k2⟩ := d_among c1 [9999, 10000, -1] _ k1 (by omega) (by simp) (by simp)
  obtain ⟨v3, c3, e3, l3, k3⟩ := d_among c2 [0, 1, 3, 6, v2] _ k2 (by omega) (by simp) (by simp)
  obtain ⟨v4, c4, e4, l4, k4⟩ := d_among c3 [9999, 10000, -1, 0] _ k3 (by omega) (by simp) (by simp)
  obtain ⟨v5, c5, e5, l5, k5⟩ := d_among c4 [2, 4, 8, v4] _ k4 (by omega) (by simp) (by simp)
  have m1 := mkInts (l := [9999, 10000, -1])
  have m2 := mkInts (l := [0, 1, 3, 6, v2])
  have m3 := mkInts (l := [9999, 10000, -1, 0])
  have m4 := mkInts (l := [2, 4, 8, v4])
  simp only [List.map_cons, List.map_nil] at m1 m2 m3 m4
  rw [t_spec_DrawNotesOn]
  exact ⟨m, v3, v5, by simp -implicitDefEqProofs [bldCur, e1, e2, e3, e4, e5, m1, m2, m3, m4, -List.map_cons], l1⟩
theorem d_DrawMetalAfter (l : List Int) (h : Bytes l) : ∃ (m : List Nt) (a b : Int), F_spec_DrawMetalAfter [bytesD l] = some (.ret [nts m, I a, I b] []) ∧ m.length ≤ 25 := by
  obtain ⟨m, c1, e1, l1, k1⟩ := d_notes0 l h
  obtain ⟨v2, c2, e2, l2, k2⟩ := d_among c1 [1000000, 1000001, -1] _ k1 (by omega) (by simp) (by simp)
  obtain ⟨v3, c3, e3, l3, k3⟩ := d_among c2 [0, 100, 500, v2] _ k2 (by omega) (by simp) (by simp)
  obtain ⟨v4, c4, e4, l4, k4⟩ := d_among c3 [9999, 10000, -1] _ k3 (by omega) (by simp) (by simp)
  obtain ⟨v5, c5, e5, l5, k5⟩ := d_among c4 [0, 2, 5, 9, v4] _ k4 (by omega) (by simp) (by simp)
  have m1 := mkInts (l := [1000000, 1000001, -1])
  have m2 := mkInts (l := [0, 100, 500, v2])
  have m3 := mkInts (l := [9999, 10000, -1])
  have m4 := mkInts (l := [0, 2, 5, 9, v4])
  simp only [List.map_cons, List.map_nil] at m1 m2 m3 m4
  rw [t_spec_DrawMetalAfter]
  exact ⟨m, v3, v5, by simp -implicitDefEqProofs [bldCur, e1, e2, e3, e4, e5, m1, m2, m3, m4, -List.map_cons], l1⟩
theorem d_DrawDropNote (l : List Int) (h : Bytes l) : ∃ (m : List Nt) (a : Int), F_spec_DrawDropNote [bytesD l] = some (.ret [nts m, I a] []) ∧ m.length ≤ 25 := by
  obtain ⟨m, c1, e1, l1, k1⟩ := d_notes0 l h
  obtain ⟨v2, c2, e2, l2, u2, k2⟩ := d_pick c1 ((m.length : Int) + 1) _ k1 (by omega) (by omega)
  obtain ⟨v3, c3, e3, l3, k3⟩ := d_among c2 [(m.length : Int), -1, -9223372036854775808] _ k2 (by omega) (by simp) (by simp)
  obtain ⟨v4, c4, e4, l4, k4⟩ := d_among c3 [0, v2, (m.length : Int) - 1, v3] _ k3 (by omega) (by simp) (by simp)
  have m1 := mkInts (l := [(m.length : Int), -1, -9223372036854775808])
  have m2 := mkInts (l := [0, v2, (m.length : Int) - 1, v3])
  simp only [List.map_cons, List.map_nil] at m1 m2
  have w1 : IntKind.i64.wrap ((m.length : Int) + 1) = (m.length : Int) + 1 := wrap_id (by omega) (by omega)
  have w2 : IntKind.i64.wrap ((m.length : Int) - 1) = (m.length : Int) - 1 := wrap_id (by omega) (by omega)
  rw [t_spec_DrawDropNote]
  exact ⟨m, v4, by simp -implicitDefEqProofs [bldCur, e1, e2, e3, e4, m1, m2, w1, w2, -List.map_cons], l1⟩
theorem d_DrawNoteCheck (l : List Int) (h : Bytes l) : ∃ (a : Int) (x : Nt), F_spec_DrawNoteCheck [bytesD l] = some (.ret [I a, nt x] []) := by
  obtain ⟨v1, c1, e1, l1, u1, k1⟩ := d_pick0 l h 9973 (by omega)
  obtain ⟨v2, c2, e2, l2, k2⟩ := d_among c1 [9973, -1] _ k1 (by omega) (by simp) (by simp)
  obtain ⟨v3, c3, e3, l3, k3⟩ := d_among c2 [7, 0, 9972, v1, v2] _ k2 (by omega) (by simp) (by simp)
  obtain ⟨v4, c4, e4, l4, u4, k4⟩ := d_pick c3 9 _ k3 (by omega) (by omega)
  obtain ⟨x, c5, e5, k5⟩ := d_note c4 v4 _ k4 (by omega)
  have m1 := mkInts (l := [9973, -1])
  have m2 := mkInts (l := [7, 0, 9972, v1, v2])
  simp only [List.map_cons, List.map_nil] at m1 m2
  rw [t_spec_DrawNoteCheck]
  exact ⟨v3, x, by simp -implicitDefEqProofs [bldCur, e1, e2, e3, e4, e5, m1, m2, -List.map_cons]⟩

end Go.Proofs.Ytkhggkbmjdopcaa
