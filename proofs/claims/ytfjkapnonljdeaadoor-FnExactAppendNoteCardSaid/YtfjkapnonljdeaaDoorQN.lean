/-
  What the functions of notes compute: said plainly.
-/
import Derived.Test.YtfjkapnonljdeaaDoorP1
namespace Go.Proofs.YtfjkapnonljdeaaDoor
open Go Go.V
set_option linter.unusedSimpArgs false

abbrev Nt := Int × Int × Int
abbrev nt (x : Nt) : D := .agg [I x.1, I x.2.1, I x.2.2]
abbrev nts (l : List Nt) : D := .arr 3 (l.map nt)

def isNt (x : Nt) : Bool := decide (0 ≤ x.1 ∧ x.1 ≤ 9999) && decide (0 ≤ x.2.1 ∧ x.2.1 ≤ 3) && decide (1 ≤ x.2.2 ∧ x.2.2 ≤ 99999)
theorem e_spec_joNote (x : Nt) : F_spec_joNote [nt x] = some (.ret [B (isNt x)] []) := by
  rw [t_spec_joNote]
  by_cases h1 : 0 ≤ x.1 ∧ x.1 ≤ 9999 <;> by_cases h2 : 0 ≤ x.2.1 ∧ x.2.1 ≤ 3 <;> simp [e_spec_l1In, isNt, h1, h2]
theorem e_impl_isNoteDay (a : Int) : F_impl_isNoteDay [I a] = some (.ret [B (decide (0 ≤ a ∧ a ≤ 9999))] []) := by
  rw [t_impl_isNoteDay]
  simp [e_impl_within]
theorem e_impl_isNote (x : Nt) : F_impl_isNote [nt x] = some (.ret [B (isNt x)] []) := by
  rw [t_impl_isNote]
  by_cases h1 : 0 ≤ x.1 ∧ x.1 ≤ 9999 <;> by_cases h2 : 0 ≤ x.2.1 ∧ x.2.1 ≤ 3 <;> simp [e_impl_within, e_impl_isNoteDay, isNt, h1, h2]

/-- Are a list notes? -/
def pNt (l : List Nt) (i : Nat) (x : Nt) : Bool := isNt x && !(decide (0 < i) && decide (x.1 < (l.getD (i - 1) (0, 0, 0)).1))
def goodN (l : List Nt) : Bool := allI (pNt l) 0 l && decide (l.length ≤ 24)

theorem e_spec_joGood (l : List Nt) (h : l.length ≤ 1048576) : F_spec_joGood [nts l] = some (.ret [B (goodN l)] []) := by
  rw [t_spec_joGood]
  simp only [lenD_arr, List.length_map, Option.bind_some]
  refine loop_bind _ (loop_all l (fun i => [nts l, nts l, I l.length, I i]) (pNt l) (.ret [B false] []) (.ext 0 [nts l]) (fun i hi => ?_) ?_ rfl rfl rfl) ?_
  · have hw : IntKind.i64.wrap ((i : Int) + 1) = (i : Int) + 1 := wrap_id (by omega) (by omega)
    cases h1 : isNt l[i]
    · simp [hi, e_spec_joNote, h1, pNt]
    · by_cases h0 : 0 < i
      · have hw2 : IntKind.i64.wrap ((i : Int) - 1) = ((i - 1 : Nat) : Int) := by rw [wrap_id (by omega) (by omega)]; omega
        have hy : i - 1 < l.length := by omega
        by_cases h2 : l[i].1 < l[i - 1].1 <;> simp [hi, hy, e_spec_joNote, h1, pNt, hw, hw2, h0, h2]
      · simp [hi, e_spec_joNote, h1, pNt, hw, h0]
  · simp
  · by_cases hg : allI (pNt l) 0 l = true <;> simp [hg, goodN]
    omega

theorem e_impl_AreNotes (l : List Nt) (h : l.length ≤ 1048576) : F_impl_AreNotes [nts l] = some (.ret [B (goodN l)] []) := by
  rw [t_impl_AreNotes]
  simp only [lenD_arr, List.length_map, Option.bind_some]
  refine loop_bind _ (loop_all l (fun i => [nts l, nts l, I l.length, I i]) (pNt l) (.ret [B false] []) (.ext 0 [nts l]) (fun i hi => ?_) ?_ rfl rfl rfl) ?_
  · have hw : IntKind.i64.wrap ((i : Int) + 1) = (i : Int) + 1 := wrap_id (by omega) (by omega)
    cases h1 : isNt l[i]
    · simp [hi, e_impl_isNote, h1, pNt]
    · by_cases h0 : 0 < i
      · have hw2 : IntKind.i64.wrap ((i : Int) - 1) = ((i - 1 : Nat) : Int) := by rw [wrap_id (by omega) (by omega)]; omega
        have hy : i - 1 < l.length := by omega
        by_cases h2 : l[i].1 < l[i - 1].1 <;> simp [hi, hy, e_impl_isNote, h1, pNt, hw, hw2, h0, h2]
      · simp [hi, e_impl_isNote, h1, pNt, hw, h0]
  · simp
  · by_cases hg : allI (pNt l) 0 l = true <;> simp [hg, goodN]
    omega

theorem e_laws_eqNote (x : Nt) : F_laws_eqNote [nt x, nt x] = some (.ret [B true] []) := by
  rw [t_laws_eqNote]
  simp
theorem e_laws_eqNoteS (l : List Nt) (h : l.length ≤ 1048577) : F_laws_eqNoteS [nts l, nts l] = some (.ret [B true] []) := by
  rw [t_laws_eqNoteS]
  simp only [lenD_arr, List.length_map, Option.bind_some, bin_neq, decide_true, Bool.not_true, ifD_B, Bool.false_eq_true, if_false]
  refine loop_bind _ (loop_for l.length (fun i => [nts l, nts l, I i]) (.ext 0 []) (fun i hi => ?_) ?_ rfl rfl) ?_
  · have hw : IntKind.i64.wrap ((i : Int) + 1) = (i : Int) + 1 := wrap_id (by omega) (by omega)
    simp [hi, e_laws_eqNote, hw]
  · simp
  · simp

end Go.Proofs.YtfjkapnonljdeaaDoor
