/-
  Shops: copies, sizes, whether one is valid, its types; two laws.
-/
import Derived.Test.YtfjkapnonljdeaaDoorQ2
namespace Go.Proofs.YtfjkapnonljdeaaDoor
open Go Go.V
set_option linter.unusedSimpArgs false

abbrev Sp := List Bx × List Fm × Int × Int
abbrev sp (s : Sp) : D := .agg [bxs s.1, fms s.2.1, I s.2.2.1, I s.2.2.2]
def okSp (s : Sp) : Prop := okBx s.1 ∧ okFm s.2.1
/-- What comes in: lengths are lengths of a machine. -/
def inSp (s : Sp) : Prop := (s.1.length ≤ 9223372036854775807 ∧ ∀ x ∈ s.1, x.1.size ≤ 9223372036854775807) ∧ s.2.1.length ≤ 9223372036854775807 ∧ ∀ x ∈ s.2.1, x.2.1.length ≤ 9223372036854775807 ∧ ∀ c ∈ x.2.1, c.size ≤ 9223372036854775807

/-! ### valid shops -/
def pS (s : Sp) (i : Nat) (x : Fm) : Bool := isFm s.1 x && !(decide (0 < i) && decide (x.1 ≤ (s.2.1.getD (i - 1) (0, [], false, 0)).1))
def printed (l : List Fm) : Int := l.foldl (fun a x => a + x.2.2.2) 0
def shopOk (s : Sp) : Bool := allI (pS s) 0 s.2.1 && goodC s.1 && decide ((s.2.1.length : Int) ≤ 5) && decide (0 ≤ s.2.2.1 ∧ s.2.2.1 ≤ 9999) && decide (printed s.2.1 ≤ s.2.2.2 ∧ s.2.2.2 ≤ 1000000)
theorem isFm_printed {l : List Bx} {x : Fm} (h : isFm l x = true) : 0 ≤ x.2.2.2 ∧ x.2.2.2 ≤ 100000 := by
  simp only [isFm, Bool.and_eq_true, decide_eq_true_eq] at h
  exact h.1.1.2
theorem e_spec_shGood (s : Sp) (h : okSp s) : F_spec_shGood [sp s] = some (.ret [B (shopOk s)] []) := by
  rw [t_spec_shGood]
  have hl := h.2.1
  have hb := h.1.1
  simp -implicitDefEqProofs
  refine loop_bind _ (loop_allf s.2.1 (fun i a => [sp s, I a, fms s.2.1, I s.2.1.length, I i]) (fun i a => 0 ≤ a ∧ a ≤ 100000 * (i : Int)) (pS s) (fun a x => a + x.2.2.2) (.ret [B false] []) (fun a => .ext 0 [sp s, I a]) 0 (fun i a hi hI => ?_) (fun a _ => ?_) rfl (fun _ => rfl) (by simp) rfl) ?_
  · have hw : IntKind.i64.wrap ((i : Int) + 1) = (i : Int) + 1 := wrap_id (by omega) (by omega)
    have ef := e_spec_shForme s.1 s.2.1[i] hb (h.2.2 _ (List.getElem_mem hi))
    cases h1 : isFm s.1 s.2.1[i]
    · rw [h1] at ef
      exact ⟨by simp -implicitDefEqProofs [hi, ef, h1, pS], fun hc => by simp [pS, h1] at hc⟩
    · rw [h1] at ef
      have hpr := isFm_printed h1
      have hwa : IntKind.i64.wrap (a + s.2.1[i].2.2.2) = a + s.2.1[i].2.2.2 := wrap_id (by omega) (by omega)
      refine ⟨?_, fun _ => by omega⟩
      by_cases h0 : 0 < i
      · have hw2 : IntKind.i64.wrap ((i : Int) - 1) = ((i - 1 : Nat) : Int) := by rw [wrap_id (by omega) (by omega)]; omega
        have hy : i - 1 < s.2.1.length := by omega
        by_cases h2 : s.2.1[i].1 ≤ s.2.1[i - 1].1 <;> simp -implicitDefEqProofs [hi, hy, ef, h1, pS, hw, hw2, hwa, h0, h2]
      · simp -implicitDefEqProofs [hi, ef, h1, pS, hw, hwa, h0]
  · simp -implicitDefEqProofs
  · unfold shopOk printed
    cases ha : allI (pS s) 0 s.2.1
    · simp -implicitDefEqProofs
    generalize List.foldl (fun a (x : Fm) => a + x.2.2.2) 0 s.2.1 = S
    cases hg : goodC s.1
    · simp -implicitDefEqProofs [e_spec_caGood s.1 h.1, hg]
    by_cases h5 : s.2.1.length ≤ 5
    case neg => simp -implicitDefEqProofs [e_spec_caGood s.1 h.1, hg, h5, show ¬ (s.2.1.length : Int) ≤ 5 by omega]
    have h5' : (s.2.1.length : Int) ≤ 5 := by omega
    by_cases h6 : 0 ≤ s.2.2.1 ∧ s.2.2.1 ≤ 9999 <;> simp -implicitDefEqProofs [e_spec_caGood s.1 h.1, e_spec_l1In, hg, h5, h5', h6]
theorem e_impl_IsShop (s : Sp) (h : okSp s) : F_impl_IsShop [sp s] = some (.ret [B (shopOk s)] []) := by
  rw [t_impl_IsShop]
  have hl := h.2.1
  have hb := h.1.1
  simp -implicitDefEqProofs
  cases hg : goodC s.1
  · refine loop_bind _ (loop_allf s.2.1 (fun i a => [sp s, I a, fms s.2.1, I s.2.1.length, I i]) (fun i a => True) (fun _ _ => false) (fun a x => a + x.2.2.2) (.ret [B false] []) (fun a => .ext 0 [sp s, I a]) 0 (fun i a hi hI => ⟨?_, fun _ => trivial⟩) (fun a _ => ?_) rfl (fun _ => rfl) trivial rfl) ?_
    · have ef := e_impl_isForme s.1 s.2.1[i] h.1 (h.2.2 _ (List.getElem_mem hi))
      rw [hg, Bool.and_false] at ef
      simp -implicitDefEqProofs [hi, ef]
    · simp -implicitDefEqProofs
    · cases allI (fun _ (_ : Fm) => false) 0 s.2.1 <;> simp -implicitDefEqProofs [shopOk, hg, e_impl_IsCase s.1 h.1]
  refine loop_bind _ (loop_allf s.2.1 (fun i a => [sp s, I a, fms s.2.1, I s.2.1.length, I i]) (fun i a => 0 ≤ a ∧ a ≤ 100000 * (i : Int)) (pS s) (fun a x => a + x.2.2.2) (.ret [B false] []) (fun a => .ext 0 [sp s, I a]) 0 (fun i a hi hI => ?_) (fun a _ => ?_) rfl (fun _ => rfl) (by simp) rfl) ?_
  · have hw : IntKind.i64.wrap ((i : Int) + 1) = (i : Int) + 1 := wrap_id (by omega) (by omega)
    have ef := e_impl_isForme s.1 s.2.1[i] h.1 (h.2.2 _ (List.getElem_mem hi))
    rw [hg, Bool.and_true] at ef
    cases h1 : isFm s.1 s.2.1[i]
    · rw [h1] at ef
      exact ⟨by simp -implicitDefEqProofs [hi, ef, h1, pS], fun hc => by simp [pS, h1] at hc⟩
    · rw [h1] at ef
      have hpr := isFm_printed h1
      have hwa : IntKind.i64.wrap (a + s.2.1[i].2.2.2) = a + s.2.1[i].2.2.2 := wrap_id (by omega) (by omega)
      refine ⟨?_, fun _ => by omega⟩
      by_cases h0 : 0 < i
      · have hw2 : IntKind.i64.wrap ((i : Int) - 1) = ((i - 1 : Nat) : Int) := by rw [wrap_id (by omega) (by omega)]; omega
        have hy : i - 1 < s.2.1.length := by omega
        by_cases h2 : s.2.1[i].1 ≤ s.2.1[i - 1].1 <;> simp -implicitDefEqProofs [hi, hy, ef, h1, pS, hw, hw2, hwa, h0, h2]
      · simp -implicitDefEqProofs [hi, ef, h1, pS, hw, hwa, h0]
  · simp -implicitDefEqProofs
  · unfold shopOk
    cases ha : allI (pS s) 0 s.2.1
    · simp -implicitDefEqProofs
    have hS : 0 ≤ printed s.2.1 := by
      have key : ∀ (l : List Fm) (i : Nat) (a : Int), 0 ≤ a → allI (pS s) i l = true → 0 ≤ l.foldl (fun a x => a + x.2.2.2) a := by
        intro l
        induction l with
        | nil => intro i a ha _; exact ha
        | cons x l ih =>
          intro i a h0 hp
          simp only [allI, Bool.and_eq_true] at hp
          have := isFm_printed (l := s.1) (x := x) (by
            have := hp.1
            simp only [pS, Bool.and_eq_true] at this
            exact this.1)
          exact ih (i + 1) _ (show (0 : Int) ≤ a + x.2.2.2 by omega) hp.2
      exact key s.2.1 0 0 (by omega) ha
    unfold printed at hS ⊢
    generalize List.foldl (fun a (x : Fm) => a + x.2.2.2) 0 s.2.1 = S at hS
    by_cases h5 : s.2.1.length ≤ 5
    case neg => simp -implicitDefEqProofs [e_impl_IsCase s.1 h.1, hg, h5, show ¬ (s.2.1.length : Int) ≤ 5 by omega]
    have h5' : (s.2.1.length : Int) ≤ 5 := by omega
    by_cases h6 : 0 ≤ s.2.2.1 ∧ s.2.2.1 ≤ 9999
    case neg => simp -implicitDefEqProofs [e_impl_IsCase s.1 h.1, e_impl_within, hg, h5, h5', h6]
    by_cases h7 : 0 ≤ s.2.2.2 ∧ s.2.2.2 ≤ 1000000
    case neg =>
      have h8 : ¬ (S ≤ s.2.2.2 ∧ s.2.2.2 ≤ 1000000) := by omega
      simp -implicitDefEqProofs [e_impl_IsCase s.1 h.1, e_impl_within, hg, h5, h5', h6, h7, h8]
    by_cases h8 : S ≤ s.2.2.2 <;> simp -implicitDefEqProofs [e_impl_IsCase s.1 h.1, e_impl_within, hg, h5, h5', h6, h7, h8]
/-! ### equal shops -/
theorem e_laws_eqBox (x : Bx) : F_laws_eqBox [bx x, bx x] = some (.ret [B true] []) := by
  rw [t_laws_eqBox]
  simp -implicitDefEqProofs
theorem e_laws_eqBoxS (l : List Bx) (h : l.length ≤ 1048577) : F_laws_eqBoxS [bxs l, bxs l] = some (.ret [B true] []) := by
  rw [t_laws_eqBoxS]
  simp only [lenD_arr, List.length_map, Option.bind_some, bin_neq, decide_true, Bool.not_true, ifD_B, Bool.false_eq_true, if_false]
  refine loop_bind _ (loop_for l.length (fun i => [bxs l, bxs l, I i]) (.ext 0 []) (fun i hi => ?_) ?_ rfl rfl) ?_
  · have hw : IntKind.i64.wrap ((i : Int) + 1) = (i : Int) + 1 := wrap_id (by omega) (by omega)
    simp -implicitDefEqProofs [hi, e_laws_eqBox, hw]
  · simp
  · simp
theorem e_laws_eqStringS (l : List ByteArray) (h : l.length ≤ 1048577) : F_laws_eqStringS [txs l, txs l] = some (.ret [B true] []) := by
  rw [t_laws_eqStringS]
  simp only [lenD_arr, List.length_map, Option.bind_some, bin_neq, decide_true, Bool.not_true, ifD_B, Bool.false_eq_true, if_false]
  refine loop_bind _ (loop_for l.length (fun i => [txs l, txs l, I i]) (.ext 0 []) (fun i hi => ?_) ?_ rfl rfl) ?_
  · have hw : IntKind.i64.wrap ((i : Int) + 1) = (i : Int) + 1 := wrap_id (by omega) (by omega)
    simp -implicitDefEqProofs [hi, hw]
  · simp
  · simp
theorem e_laws_eqForme (x : Fm) (h : x.2.1.length ≤ 1048577) : F_laws_eqForme [fm x, fm x] = some (.ret [B true] []) := by
  rw [t_laws_eqForme]
  simp -implicitDefEqProofs [e_laws_eqStringS x.2.1 h]
theorem e_laws_eqFormeS (l : List Fm) (h : okFm l) : F_laws_eqFormeS [fms l, fms l] = some (.ret [B true] []) := by
  rw [t_laws_eqFormeS]
  have hl := h.1
  simp only [lenD_arr, List.length_map, Option.bind_some, bin_neq, decide_true, Bool.not_true, ifD_B, Bool.false_eq_true, if_false]
  refine loop_bind _ (loop_for l.length (fun i => [fms l, fms l, I i]) (.ext 0 []) (fun i hi => ?_) ?_ rfl rfl) ?_
  · have hw : IntKind.i64.wrap ((i : Int) + 1) = (i : Int) + 1 := wrap_id (by omega) (by omega)
    have ef := e_laws_eqForme l[i] (Nat.le_trans (h.2 _ (List.getElem_mem hi)) (by omega))
    simp -implicitDefEqProofs [hi, ef, hw]
  · simp
  · simp
theorem e_laws_eqShop (s : Sp) (h : okSp s) : F_laws_eqShop [sp s, sp s] = some (.ret [B true] []) := by
  rw [t_laws_eqShop]
  have := h.1.1
  simp -implicitDefEqProofs [e_laws_eqBoxS s.1 (by omega), e_laws_eqFormeS s.2.1 h.2]

/-! ### copies -/
theorem e_laws_toBox (x : Bx) : F_laws_toBox [bx x] = some (.ret [bx x] []) := by
  rw [t_laws_toBox]
  simp -implicitDefEqProofs
theorem e_laws_toBoxS (l : List Bx) (h : l.length ≤ 1048576) : F_laws_toBoxS [bxs l] = some (.ret [bxs l] []) := by
  rw [t_laws_toBoxS]
  have h1 : l.length * 40 ≤ 140737488355328 := by omega
  have h2 : l.length ≤ 140737488355328 := by omega
  simp only [lenD_arr, List.length_map, Option.bind_some, makD_nat, Nat.le_refl, h1, h2, and_self, if_true]
  rw [fillL_zero (f := bx) (l := l)]
  refine loop_bind (.ext 0 [bxs l]) (loop_for l.length (fun i => [bxs l, .arr 4 (fillL bx (bx (⟨#[]⟩, 0, 0, 0)) l i), I i]) _ (fun i hi => ?_) ?_ rfl rfl) ?_
  · have hx := List.getElem?_eq_getElem hi
    have hg := fillL_get (f := bx) (z := bx (⟨#[]⟩, 0, 0, 0)) hi
    have hs := fillL_set (f := bx) (z := bx (⟨#[]⟩, 0, 0, 0)) hx
    have hw : IntKind.i64.wrap ((i : Int) + 1) = (i : Int) + 1 := wrap_id (by omega) (by omega)
    simp -implicitDefEqProofs [hi, e_laws_toBox, Nat.le_of_lt hi, stD_arr hg, hs, hw]
  · simp [fillL_full]
  · simp
theorem e_laws_toStringS (l : List ByteArray) (h : l.length ≤ 1048576) : F_laws_toStringS [txs l] = some (.ret [txs l] []) := by
  rw [t_laws_toStringS]
  have h1 : l.length * 16 ≤ 140737488355328 := by omega
  have h2 : l.length ≤ 140737488355328 := by omega
  simp only [lenD_arr, List.length_map, Option.bind_some, makD_nat, Nat.le_refl, h1, h2, and_self, if_true]
  rw [fillL_zero (f := T) (l := l)]
  refine loop_bind (.ext 0 [txs l]) (loop_for l.length (fun i => [txs l, .arr 1 (fillL T (T ⟨#[]⟩) l i), I i]) _ (fun i hi => ?_) ?_ rfl rfl) ?_
  · have hx := List.getElem?_eq_getElem hi
    have hg := fillL_get (f := T) (z := T ⟨#[]⟩) hi
    have hs := fillL_set (f := T) (z := T ⟨#[]⟩) hx
    have hw : IntKind.i64.wrap ((i : Int) + 1) = (i : Int) + 1 := wrap_id (by omega) (by omega)
    simp -implicitDefEqProofs [hi, Nat.le_of_lt hi, stD_arr1 hg, hs, hw]
  · simp [fillL_full]
  · simp
theorem e_laws_toForme (x : Fm) (h : x.2.1.length ≤ 1048576) : F_laws_toForme [fm x] = some (.ret [fm x] []) := by
  rw [t_laws_toForme]
  simp -implicitDefEqProofs [e_laws_toStringS x.2.1 h]
theorem e_laws_toFormeS (l : List Fm) (h : okFm l) : F_laws_toFormeS [fms l] = some (.ret [fms l] []) := by
  rw [t_laws_toFormeS]
  have hl := h.1
  have h1 : l.length * 48 ≤ 140737488355328 := by omega
  have h2 : l.length ≤ 140737488355328 := by omega
  simp only [lenD_arr, List.length_map, Option.bind_some, makD_nat, Nat.le_refl, h1, h2, and_self, if_true]
  rw [fillL_zero (f := fm) (l := l)]
  refine loop_bind (.ext 0 [fms l]) (loop_for l.length (fun i => [fms l, .arr 4 (fillL fm (fm (0, [], false, 0)) l i), I i]) _ (fun i hi => ?_) ?_ rfl rfl) ?_
  · have hx := List.getElem?_eq_getElem hi
    have hg := fillL_get (f := fm) (z := fm (0, [], false, 0)) hi
    have hs := fillL_set (f := fm) (z := fm (0, [], false, 0)) hx
    have hw : IntKind.i64.wrap ((i : Int) + 1) = (i : Int) + 1 := wrap_id (by omega) (by omega)
    have ef := e_laws_toForme l[i] (h.2 _ (List.getElem_mem hi))
    simp -implicitDefEqProofs [hi, ef, Nat.le_of_lt hi, stD_arr hg, hs, hw]
  · simp [fillL_full]
  · simp
theorem e_laws_toShop (s : Sp) (h : okSp s) : F_laws_toShop [sp s] = some (.ret [sp s] []) := by
  rw [t_laws_toShop]
  simp -implicitDefEqProofs [e_laws_toBoxS s.1 h.1.1, e_laws_toFormeS s.2.1 h.2]

/-! ### sizes -/
theorem e_laws_szBox (x : Bx) (n : Int) (h : x.1.size ≤ 9223372036854775807) (h0 : 0 ≤ n) (h1 : n ≤ 1048576) : ∃ m, F_laws_szBox [bx x, I n] = some (.ret [I m] []) ∧ m ≤ n ∧ (0 ≤ m → x.1.size ≤ 1048576) := by
  rw [t_laws_szBox]
  have hw : IntKind.i64.wrap (n - x.1.size) = n - x.1.size := wrap_id (by omega) (by omega)
  by_cases hn : n - (x.1.size : Int) < 0
  · exact ⟨-1, by simp -implicitDefEqProofs [hw, hn], by omega, by omega⟩
  · exact ⟨n - x.1.size, by simp -implicitDefEqProofs [hw, hn], by omega, by omega⟩
theorem e_laws_szBoxS (l : List Bx) (n : Int) (h : l.length ≤ 9223372036854775807 ∧ ∀ x ∈ l, x.1.size ≤ 9223372036854775807) (h0 : 0 ≤ n) (h1 : n ≤ 1048576) : ∃ m, F_laws_szBoxS [bxs l, I n] = some (.ret [I m] []) ∧ m ≤ n ∧ (0 ≤ m → okBx l) := by
  have hl := h.1
  rw [t_laws_szBoxS]
  have hw : IntKind.i64.wrap (n - l.length) = n - l.length := wrap_id (by omega) (by omega)
  by_cases hn : n - (l.length : Int) < 0
  · exact ⟨-1, by simp -implicitDefEqProofs [hw, hn], by omega, by omega⟩
  simp -implicitDefEqProofs [hw, hn]
  refine sz_loop (R := fun X => ∃ m, X = some (.ret [I m] []) ∧ m ≤ n ∧ (0 ≤ m → okBx l)) l (fun i m => [bxs l, I m, I i]) (fun x => x.1.size ≤ 1048576) (fun i hi m g0 g1 => ?_) (fun m => ?_) (n - l.length) (by omega) (by omega) rfl ?_ (fun m g0 g1 gP => ?_)
  · have hwi : IntKind.i64.wrap ((i : Int) + 1) = (i : Int) + 1 := wrap_id (by omega) (by omega)
    obtain ⟨m', e, k1, k2⟩ := e_laws_szBox l[i] m (h.2 _ (List.getElem_mem hi)) g0 g1
    by_cases hm : m' < 0
    · exact .inl (by simp -implicitDefEqProofs [hi, e, hm])
    · exact .inr ⟨m', by simp -implicitDefEqProofs [hi, e, hm, hwi], by omega, k1, k2 (by omega)⟩
  · simp -implicitDefEqProofs
  · exact ⟨-1, by simp -implicitDefEqProofs, by omega, by omega⟩
  · exact ⟨m, by simp -implicitDefEqProofs, by omega, fun _ => ⟨by omega, gP⟩⟩
theorem e_laws_szStringS (l : List ByteArray) (n : Int) (h : l.length ≤ 9223372036854775807 ∧ ∀ x ∈ l, x.size ≤ 9223372036854775807) (h0 : 0 ≤ n) (h1 : n ≤ 1048576) : ∃ m, F_laws_szStringS [txs l, I n] = some (.ret [I m] []) ∧ m ≤ n ∧ (0 ≤ m → l.length ≤ 1048576) := by
  have hl := h.1
  rw [t_laws_szStringS]
  have hw : IntKind.i64.wrap (n - l.length) = n - l.length := wrap_id (by omega) (by omega)
  by_cases hn : n - (l.length : Int) < 0
  · exact ⟨-1, by simp -implicitDefEqProofs [hw, hn], by omega, by omega⟩
  simp -implicitDefEqProofs [hw, hn]
  refine sz_loop (R := fun X => ∃ m, X = some (.ret [I m] []) ∧ m ≤ n ∧ (0 ≤ m → l.length ≤ 1048576)) l (fun i m => [txs l, I m, I i]) (fun _ => True) (fun i hi m g0 g1 => ?_) (fun m => ?_) (n - l.length) (by omega) (by omega) rfl ?_ (fun m g0 g1 gP => ?_)
  · have hwi : IntKind.i64.wrap ((i : Int) + 1) = (i : Int) + 1 := wrap_id (by omega) (by omega)
    have hs := h.2 l[i] (List.getElem_mem hi)
    have hwm : IntKind.i64.wrap (m - l[i].size) = m - l[i].size := wrap_id (by omega) (by omega)
    by_cases hm : m - (l[i].size : Int) < 0
    · exact .inl (by simp -implicitDefEqProofs [hi, hwm, hm])
    · exact .inr ⟨m - l[i].size, by simp -implicitDefEqProofs [hi, hwm, hm, hwi], by omega, by omega, trivial⟩
  · simp -implicitDefEqProofs
  · exact ⟨-1, by simp -implicitDefEqProofs, by omega, by omega⟩
  · exact ⟨m, by simp -implicitDefEqProofs, by omega, fun _ => by omega⟩
theorem e_laws_szForme (x : Fm) (n : Int) (h : x.2.1.length ≤ 9223372036854775807 ∧ ∀ c ∈ x.2.1, c.size ≤ 9223372036854775807) (h0 : 0 ≤ n) (h1 : n ≤ 1048576) : ∃ m, F_laws_szForme [fm x, I n] = some (.ret [I m] []) ∧ m ≤ n ∧ (0 ≤ m → x.2.1.length ≤ 1048576) := by
  rw [t_laws_szForme]
  obtain ⟨m, e, k1, k2⟩ := e_laws_szStringS x.2.1 n h h0 h1
  by_cases hm : m < 0
  · exact ⟨-1, by simp -implicitDefEqProofs [e, hm], by omega, by omega⟩
  · exact ⟨m, by simp -implicitDefEqProofs [e, hm], k1, k2⟩
theorem e_laws_szFormeS (l : List Fm) (n : Int) (h : l.length ≤ 9223372036854775807 ∧ ∀ x ∈ l, x.2.1.length ≤ 9223372036854775807 ∧ ∀ c ∈ x.2.1, c.size ≤ 9223372036854775807) (h0 : 0 ≤ n) (h1 : n ≤ 1048576) : ∃ m, F_laws_szFormeS [fms l, I n] = some (.ret [I m] []) ∧ m ≤ n ∧ (0 ≤ m → okFm l) := by
  have hl := h.1
  rw [t_laws_szFormeS]
  have hw : IntKind.i64.wrap (n - l.length) = n - l.length := wrap_id (by omega) (by omega)
  by_cases hn : n - (l.length : Int) < 0
  · exact ⟨-1, by simp -implicitDefEqProofs [hw, hn], by omega, by omega⟩
  simp -implicitDefEqProofs [hw, hn]
  refine sz_loop (R := fun X => ∃ m, X = some (.ret [I m] []) ∧ m ≤ n ∧ (0 ≤ m → okFm l)) l (fun i m => [fms l, I m, I i]) (fun x => x.2.1.length ≤ 1048576) (fun i hi m g0 g1 => ?_) (fun m => ?_) (n - l.length) (by omega) (by omega) rfl ?_ (fun m g0 g1 gP => ?_)
  · have hwi : IntKind.i64.wrap ((i : Int) + 1) = (i : Int) + 1 := wrap_id (by omega) (by omega)
    obtain ⟨m', e, k1, k2⟩ := e_laws_szForme l[i] m (h.2 _ (List.getElem_mem hi)) g0 g1
    by_cases hm : m' < 0
    · exact .inl (by simp -implicitDefEqProofs [hi, e, hm])
    · exact .inr ⟨m', by simp -implicitDefEqProofs [hi, e, hm, hwi], by omega, k1, k2 (by omega)⟩
  · simp -implicitDefEqProofs
  · exact ⟨-1, by simp -implicitDefEqProofs, by omega, by omega⟩
  · exact ⟨m, by simp -implicitDefEqProofs, by omega, fun _ => ⟨by omega, gP⟩⟩
theorem e_laws_szShop (s : Sp) (h : inSp s) : ∃ m, F_laws_szShop [sp s, I 1048576] = some (.ret [I m] []) ∧ m ≤ 1048576 ∧ (0 ≤ m → okSp s) := by
  rw [t_laws_szShop]
  obtain ⟨m1, e1, k1, k2⟩ := e_laws_szBoxS s.1 1048576 h.1 (by omega) (by omega)
  by_cases h1 : m1 < 0
  · exact ⟨-1, by simp -implicitDefEqProofs [e1, h1], by omega, by omega⟩
  obtain ⟨m2, e2, g1, g2⟩ := e_laws_szFormeS s.2.1 m1 h.2 (by omega) k1
  by_cases h2 : m2 < 0
  · exact ⟨-1, by simp -implicitDefEqProofs [e1, h1, e2, h2], by omega, by omega⟩
  · exact ⟨m2, by simp -implicitDefEqProofs [e1, h1, e2, h2], by omega, fun h => ⟨k2 (by omega), g2 h⟩⟩

end Go.Proofs.YtfjkapnonljdeaaDoor
