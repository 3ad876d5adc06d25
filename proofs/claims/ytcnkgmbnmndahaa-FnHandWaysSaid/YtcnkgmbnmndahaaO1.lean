/-
  Orders: what the functions compute, said plainly.
-/
import Derived.Test.YtcnkgmbnmndahaaT3
import Derived.Test.YtcnkgmbnmndahaaVz
namespace Go.Proofs.Ytcnkgmbnmndahaa
open Go Go.V
set_option linter.unusedSimpArgs false

abbrev Od := Int × Int × Int × Int
abbrev od (x : Od) : D := .agg [I x.1, I x.2.1, I x.2.2.1, I x.2.2.2]
abbrev ods (l : List Od) : D := .arr 4 (l.map od)

theorem e_spec_l1In (a b c : Int) : F_spec_l1In [I a, I b, I c] = some (.ret [B (decide (b ≤ a ∧ a ≤ c))] []) := by
  rw [t_spec_l1In]
  by_cases h : b ≤ a <;> simp [h]
theorem e_impl_within (a b c : Int) : F_impl_within [I a, I b, I c] = some (.ret [B (decide (b ≤ a ∧ a ≤ c))] []) := by
  rw [t_impl_within]
  by_cases h : b ≤ a <;> simp [h]
theorem e_laws_toOrder (x : Od) : F_laws_toOrder [od x] = some (.ret [od x] []) := by
  rw [t_laws_toOrder]
  simp -implicitDefEqProofs
def isOd (x : Od) : Bool := decide (1 ≤ x.1 ∧ x.1 ≤ 99) && decide (0 ≤ x.2.1 ∧ x.2.1 ≤ 500) && decide (0 ≤ x.2.2.1 ∧ x.2.2.1 ≤ 500) && decide (0 ≤ x.2.2.2 ∧ x.2.2.2 ≤ 10000)
theorem e_spec_orOne (x : Od) : F_spec_orOne [od x] = some (.ret [B (isOd x)] []) := by
  rw [t_spec_orOne]
  by_cases h1 : 1 ≤ x.1 ∧ x.1 ≤ 99 <;> by_cases h2 : 0 ≤ x.2.1 ∧ x.2.1 ≤ 500 <;> by_cases h3 : 0 ≤ x.2.2.1 ∧ x.2.2.1 ≤ 500 <;> simp -implicitDefEqProofs [e_spec_l1In, isOd, h1, h2, h3]
theorem e_impl_isOrder (x : Od) : F_impl_isOrder [od x] = some (.ret [B (isOd x)] []) := by
  rw [t_impl_isOrder]
  by_cases h1 : 1 ≤ x.1 ∧ x.1 ≤ 99 <;> by_cases h2 : 0 ≤ x.2.1 ∧ x.2.1 ≤ 500 <;> by_cases h3 : 0 ≤ x.2.2.1 ∧ x.2.2.1 ≤ 500 <;> simp -implicitDefEqProofs [e_impl_within, isOd, h1, h2, h3]
theorem e_laws_szOrderS (l : List Od) (n : Int) : ∃ m, F_laws_szOrderS [ods l, I n] = some (.ret [I m] []) ∧ (0 ≤ m → m = IntKind.i64.wrap (n - l.length)) := by
  rw [t_laws_szOrderS]
  by_cases h : IntKind.i64.wrap (n - l.length) < 0
  · exact ⟨-1, by simp [h], by omega⟩
  · exact ⟨_, by simp [h], fun _ => rfl⟩
theorem e_laws_toOrderS (l : List Od) (h : l.length ≤ 1048576) : F_laws_toOrderS [ods l] = some (.ret [ods l] []) := by
  rw [t_laws_toOrderS]
  have h1 : l.length * 32 ≤ 140737488355328 := by omega
  have h2 : l.length ≤ 140737488355328 := by omega
  simp only [lenD_arr, List.length_map, Option.bind_some, makD_nat, Nat.le_refl, h1, h2, and_self, if_true]
  rw [fillL_zero (f := od) (l := l)]
  refine loop_bind (.ext 0 [ods l]) (loop_for l.length (fun i => [ods l, .arr 4 (fillL od (od (0, 0, 0, 0)) l i), I i]) _ (fun i hi => ?_) ?_ rfl rfl) ?_
  · have hx := List.getElem?_eq_getElem hi
    have hg := fillL_get (f := od) (z := od (0, 0, 0, 0)) hi
    have hs := fillL_set (f := od) (z := od (0, 0, 0, 0)) hx
    have hw : IntKind.i64.wrap ((i : Int) + 1) = (i : Int) + 1 := wrap_id (by omega) (by omega)
    simp -implicitDefEqProofs [hi, e_laws_toOrder, Nat.le_of_lt hi, stD_arr hg, hs, hw]
  · simp [fillL_full]
  · simp
/-- Are a list orders? -/
def pOd (l : List Od) (i : Nat) (x : Od) : Bool := isOd x && !(decide (0 < i) && decide (x.1 ≤ (l.getD (i - 1) (0, 0, 0, 0)).1))
def goodO (l : List Od) : Bool := allI (pOd l) 0 l && decide (l.length ≤ 8)
theorem e_spec_orGood (l : List Od) (h : l.length ≤ 1048576) : F_spec_orGood [ods l] = some (.ret [B (goodO l)] []) := by
  rw [t_spec_orGood]
  simp only [lenD_arr, List.length_map, Option.bind_some]
  refine loop_bind _ (loop_all l (fun i => [ods l, ods l, I l.length, I i]) (pOd l) (.ret [B false] []) (.ext 0 [ods l]) (fun i hi => ?_) ?_ rfl rfl rfl) ?_
  · have hw : IntKind.i64.wrap ((i : Int) + 1) = (i : Int) + 1 := wrap_id (by omega) (by omega)
    cases h1 : isOd l[i]
    · simp -implicitDefEqProofs [hi, e_spec_orOne, h1, pOd]
    · by_cases h0 : 0 < i
      · have hw2 : IntKind.i64.wrap ((i : Int) - 1) = ((i - 1 : Nat) : Int) := by rw [wrap_id (by omega) (by omega)]; omega
        have hy : i - 1 < l.length := by omega
        by_cases h2 : l[i].1 ≤ l[i - 1].1 <;> simp -implicitDefEqProofs [hi, hy, e_spec_orOne, h1, pOd, hw, hw2, h0, h2]
      · simp -implicitDefEqProofs [hi, e_spec_orOne, h1, pOd, hw, h0]
  · simp
  · by_cases hg : allI (pOd l) 0 l = true <;> simp [hg, goodO]
    omega
theorem e_spec_AreOrders (l : List Od) (h : l.length ≤ 1048576) : F_spec_AreOrders [ods l] = some (.ret [B (goodO l)] []) := by
  rw [t_spec_AreOrders]
  simp [e_spec_orGood l h]
theorem e_impl_AreOrders (l : List Od) (h : l.length ≤ 1048576) : F_impl_AreOrders [ods l] = some (.ret [B (goodO l)] []) := by
  rw [t_impl_AreOrders]
  simp only [lenD_arr, List.length_map, Option.bind_some]
  refine loop_bind _ (loop_all l (fun i => [ods l, ods l, I l.length, I i]) (pOd l) (.ret [B false] []) (.ext 0 [ods l]) (fun i hi => ?_) ?_ rfl rfl rfl) ?_
  · have hw : IntKind.i64.wrap ((i : Int) + 1) = (i : Int) + 1 := wrap_id (by omega) (by omega)
    cases h1 : isOd l[i]
    · simp -implicitDefEqProofs [hi, e_impl_isOrder, h1, pOd]
    · by_cases h0 : 0 < i
      · have hw2 : IntKind.i64.wrap ((i : Int) - 1) = ((i - 1 : Nat) : Int) := by rw [wrap_id (by omega) (by omega)]; omega
        have hy : i - 1 < l.length := by omega
        by_cases h2 : l[i].1 ≤ l[i - 1].1 <;> simp -implicitDefEqProofs [hi, hy, e_impl_isOrder, h1, pOd, hw, hw2, h0, h2]
      · simp -implicitDefEqProofs [hi, e_impl_isOrder, h1, pOd, hw, h0]
  · simp
  · by_cases hg : allI (pOd l) 0 l = true <;> simp [hg, goodO]
    omega
theorem e_laws_eqOrder (x : Od) : F_laws_eqOrder [od x, od x] = some (.ret [B true] []) := by
  rw [t_laws_eqOrder]
  simp -implicitDefEqProofs
theorem e_laws_eqOrderS (l : List Od) (h : l.length ≤ 1048577) : F_laws_eqOrderS [ods l, ods l] = some (.ret [B true] []) := by
  rw [t_laws_eqOrderS]
  simp only [lenD_arr, List.length_map, Option.bind_some, bin_neq, decide_true, Bool.not_true, ifD_B, Bool.false_eq_true, if_false]
  refine loop_bind _ (loop_for l.length (fun i => [ods l, ods l, I i]) (.ext 0 []) (fun i hi => ?_) ?_ rfl rfl) ?_
  · have hw : IntKind.i64.wrap ((i : Int) + 1) = (i : Int) + 1 := wrap_id (by omega) (by omega)
    simp -implicitDefEqProofs [hi, e_laws_eqOrder, hw]
  · simp
  · simp
theorem law_AreOrders (l : List Od) (_h : l.length ≤ 9223372036854775807) : F_laws_FnExactAreOrders [ods l] = some (.ret [B true] []) := by
  rw [t_laws_FnExactAreOrders]
  obtain ⟨m, h1, h2⟩ := e_laws_szOrderS l 1048576
  by_cases hm : m < 0
  · simp [h1, hm]
  · have h3 := h2 (by omega)
    rw [wrap_id (by omega) (by omega)] at h3
    have hl : l.length ≤ 1048576 := by omega
    simp -implicitDefEqProofs [h1, hm, e_laws_toOrderS l hl, e_spec_AreOrders l hl, e_impl_AreOrders l hl, e_laws_eqOrderS l (by omega)]

end Go.Proofs.Ytcnkgmbnmndahaa
