/-
  Boxes of codes; formes; shops.
-/
import Derived.Test.YtfjkapnonljdeaaDoorQ1
namespace Go.Proofs.YtfjkapnonljdeaaDoor
open Go Go.V
set_option linter.unusedSimpArgs false

theorem e_impl_isTaken (t : List Bx) (x : Bx) (h : t.length ≤ 1048576) : F_impl_isTaken [bxs t, I x.2.1, I x.2.2.1] = some (.ret [B (!allI (fun _ y => !sameP x y) 0 t)] []) := by
  rw [t_impl_isTaken]
  simp only [lenD_arr, List.length_map, Option.bind_some]
  refine loop_bind _ (loop_all t (fun j => [I x.2.1, I x.2.2.1, bxs t, I t.length, I j]) (fun _ y => !sameP x y) (.ret [B true] []) (.ext 0 []) (fun j hj => ?_) ?_ rfl rfl rfl) ?_
  · have hwj : IntKind.i64.wrap ((j : Int) + 1) = (j : Int) + 1 := wrap_id (by omega) (by omega)
    by_cases c1 : t[j].2.1 = x.2.1 <;> by_cases c2 : t[j].2.2.1 = x.2.2.1 <;> simp -implicitDefEqProofs [hj, hwj, c1, c2, sameP]
  · simp -implicitDefEqProofs
  · cases ha : allI (fun _ y => !sameP x y) 0 t <;> simp -implicitDefEqProofs
theorem e_impl_IsCase (l : List Bx) (h : okBx l) : F_impl_IsCase [bxs l] = some (.ret [B (goodC l)] []) := by
  rw [t_impl_IsCase]
  have hl := h.1
  simp only [lenD_arr, List.length_map, Option.bind_some]
  refine loop_bind _ (loop_all l (fun i => [bxs l, bxs l, I l.length, I i]) (pBx l) (.ret [B false] []) (.ext 0 [bxs l]) (fun i hi => ?_) ?_ rfl rfl rfl) ?_
  · have hw : IntKind.i64.wrap ((i : Int) + 1) = (i : Int) + 1 := wrap_id (by omega) (by omega)
    have eb := e_impl_IsBox l[i] (h.2 _ (List.getElem_mem hi))
    have ht := take_bxs (Nat.le_of_lt hi)
    have et := e_impl_isTaken (l.take i) l[i] (by simp; omega)
    cases h1 : isBx l[i]
    · rw [h1] at eb
      simp -implicitDefEqProofs [hi, eb, h1, pBx]
    · rw [h1] at eb
      by_cases h0 : 0 < i
      · have hw2 : IntKind.i64.wrap ((i : Int) - 1) = ((i - 1 : Nat) : Int) := by rw [wrap_id (by omega) (by omega)]; omega
        have hy : i - 1 < l.length := by omega
        cases h2 : Op.bytesLess l[i - 1].1.toList l[i].1.toList
        · simp -implicitDefEqProofs [hi, hy, eb, h1, pBx, hw2, h0, h2, bin_geqS]
        · have hp : pBx l i l[i] = allI (fun _ y => !sameP l[i] y) 0 (l.take i) := by simp [pBx, h1, h0, h2, hy]
          rw [hp]
          cases ha : allI (fun _ y => !sameP l[i] y) 0 (l.take i) <;> rw [ha] at et <;> simp -implicitDefEqProofs [hi, hy, eb, hw2, h0, h2, bin_geqS, ht, hw, et, ← List.map_take, -List.map_take]
      · have hp : pBx l i l[i] = allI (fun _ y => !sameP l[i] y) 0 (l.take i) := by simp [pBx, h1, h0]
        rw [hp]
        cases ha : allI (fun _ y => !sameP l[i] y) 0 (l.take i) <;> rw [ha] at et <;> simp -implicitDefEqProofs [hi, eb, h0, bin_geqS, ht, hw, et, ← List.map_take, -List.map_take]
  · simp
  · by_cases hg : allI (pBx l) 0 l = true <;> simp -implicitDefEqProofs [hg, goodC, e_impl_within]

/-- The place of a code, or -1. -/
def fB (l : List Bx) (c : ByteArray) : Int := (findI (fun b : Bx => decide (b.1 = c)) 0 l).elim (-1) fun j => (j : Int)
theorem e_spec_caFind (l : List Bx) (c : ByteArray) (h : l.length ≤ 1048576) : F_spec_caFind [bxs l, T c] = some (.ret [I (fB l c)] []) := by
  rw [t_spec_caFind]
  simp only [lenD_arr, List.length_map, Option.bind_some]
  refine loop_bind _ (loop_find l (fun i => [T c, bxs l, I l.length, I i]) (fun b : Bx => decide (b.1 = c)) (fun j => .ret [I j] []) (.ext 0 []) (fun i hi => ?_) ?_ (fun _ => rfl) rfl rfl) ?_
  · have hw : IntKind.i64.wrap ((i : Int) + 1) = (i : Int) + 1 := wrap_id (by omega) (by omega)
    by_cases hc : l[i].1 = c <;> simp -implicitDefEqProofs [hi, hw, hc]
  · simp
  · unfold fB
    cases findI (fun b : Bx => decide (b.1 = c)) 0 l <;> simp -implicitDefEqProofs
theorem e_impl_boxAt (l : List Bx) (c : ByteArray) (h : l.length ≤ 1048576) : F_impl_boxAt [bxs l, T c] = some (.ret [I (fB l c)] []) := by
  rw [t_impl_boxAt]
  simp only [lenD_arr, List.length_map, Option.bind_some]
  refine loop_bind _ (loop_find l (fun i => [T c, bxs l, I l.length, I i]) (fun b : Bx => decide (b.1 = c)) (fun j => .ret [I j] []) (.ext 0 []) (fun i hi => ?_) ?_ (fun _ => rfl) rfl rfl) ?_
  · have hw : IntKind.i64.wrap ((i : Int) + 1) = (i : Int) + 1 := wrap_id (by omega) (by omega)
    by_cases hc : l[i].1 = c <;> simp -implicitDefEqProofs [hi, hw, hc]
  · simp
  · unfold fB
    cases findI (fun b : Bx => decide (b.1 = c)) 0 l <;> simp -implicitDefEqProofs

abbrev txs (l : List ByteArray) : D := .arr 1 (l.map T)
def hasAll (l : List Bx) (cs : List ByteArray) : Bool := allI (fun _ c => !decide (fB l c < 0)) 0 cs
theorem e_impl_areCodes (l : List Bx) (cs : List ByteArray) (h : okBx l) (hc : cs.length ≤ 1048576) : F_impl_areCodes [bxs l, txs cs] = some (.ret [B (hasAll l cs && goodC l && decide ((cs.length : Int) ≤ 60))] []) := by
  rw [t_impl_areCodes]
  simp only [lenD_arr, List.length_map, Option.bind_some]
  refine loop_bind _ (loop_all cs (fun i => [bxs l, txs cs, txs cs, I cs.length, I i]) (fun _ c => !decide (fB l c < 0)) (.ret [B false] []) (.ext 0 [bxs l, txs cs]) (fun i hi => ?_) ?_ rfl rfl rfl) ?_
  · have hw : IntKind.i64.wrap ((i : Int) + 1) = (i : Int) + 1 := wrap_id (by omega) (by omega)
    have eb := e_impl_boxAt l cs[i] h.1
    by_cases hb : fB l cs[i] < 0 <;> simp -implicitDefEqProofs [hi, hw, eb, hb]
  · simp
  · cases ha : allI (fun _ c => !decide (fB l c < 0)) 0 cs
    · simp -implicitDefEqProofs [hasAll, ha]
    · cases hg : goodC l <;> simp -implicitDefEqProofs [hasAll, ha, e_impl_IsCase l h, hg]

/-! ### formes -/
abbrev Fm := Int × List ByteArray × Bool × Int
abbrev fm (x : Fm) : D := .agg [I x.1, txs x.2.1, B x.2.2.1, I x.2.2.2]
abbrev fms (l : List Fm) : D := .arr 4 (l.map fm)
def okFm (l : List Fm) : Prop := l.length ≤ 1048576 ∧ ∀ x ∈ l, x.2.1.length ≤ 1048576
def isFm (l : List Bx) (x : Fm) : Bool := decide (1 ≤ x.1 ∧ x.1 ≤ 99) && !decide (40 < (x.2.1.length : Int)) && decide (0 ≤ x.2.2.2 ∧ x.2.2.2 ≤ 100000) && !(x.2.2.1 && decide ((x.2.1.length : Int) = 0)) && hasAll l x.2.1
theorem e_spec_shForme (l : List Bx) (x : Fm) (h : l.length ≤ 1048576) (hx : x.2.1.length ≤ 1048576) : F_spec_shForme [bxs l, fm x] = some (.ret [B (isFm l x)] []) := by
  rw [t_spec_shForme]
  by_cases h1 : 1 ≤ x.1 ∧ x.1 ≤ 99
  case neg => simp -implicitDefEqProofs [e_spec_l1In, isFm, h1]
  by_cases h2 : 40 < (x.2.1.length : Int)
  case pos => simp -implicitDefEqProofs [e_spec_l1In, isFm, h1, h2]
  by_cases h3 : 0 ≤ x.2.2.2 ∧ x.2.2.2 ≤ 100000
  case neg => simp -implicitDefEqProofs [e_spec_l1In, isFm, h1, h2, h3]
  have main : ∀ (body : List D → Option Out) (K : Out → Option Out) (r : Option Out), (∀ (i : Nat) (hi : i < x.2.1.length), body [bxs l, txs x.2.1, I x.2.1.length, I i] = some (if (!decide (fB l x.2.1[i] < 0)) = true then .nrm [bxs l, txs x.2.1, I x.2.1.length, I (i + 1 : Nat)] else .ret [B false] [])) →
      body [bxs l, txs x.2.1, I x.2.1.length, I x.2.1.length] = some (.ext 0 []) → K (if hasAll l x.2.1 = true then .ext 0 [] else .ret [B false] []) = r → (loopC body [bxs l, txs x.2.1, I x.2.1.length, I 0]).bind K = r := fun body K r g1 g2 g3 =>
    loop_bind _ (loop_all x.2.1 (fun i => [bxs l, txs x.2.1, I x.2.1.length, I i]) (fun _ c => !decide (fB l c < 0)) (.ret [B false] []) (.ext 0 []) g1 g2 rfl rfl rfl) g3
  cases h4 : x.2.2.1
  · simp -implicitDefEqProofs [e_spec_l1In, isFm, h1, h2, h3, h4]
    refine main _ _ _ (fun i hi => ?_) ?_ ?_
    · have hw : IntKind.i64.wrap ((i : Int) + 1) = (i : Int) + 1 := wrap_id (by omega) (by omega)
      have eb := e_spec_caFind l x.2.1[i] h
      by_cases hb : fB l x.2.1[i] < 0 <;> simp -implicitDefEqProofs [hi, hw, eb, hb]
    · simp
    · cases hasAll l x.2.1 <;> simp -implicitDefEqProofs
  · by_cases h5 : (x.2.1.length : Int) = 0
    · have h5' : x.2.1 = [] := List.eq_nil_of_length_eq_zero (by omega)
      simp -implicitDefEqProofs [e_spec_l1In, isFm, h1, h3, h4, h5']
    · have h5' : ¬ x.2.1 = [] := fun e => h5 (by simp [e])
      simp -implicitDefEqProofs [e_spec_l1In, isFm, h1, h2, h3, h4, h5, h5']
      refine main _ _ _ (fun i hi => ?_) ?_ ?_
      · have hw : IntKind.i64.wrap ((i : Int) + 1) = (i : Int) + 1 := wrap_id (by omega) (by omega)
        have eb := e_spec_caFind l x.2.1[i] h
        by_cases hb : fB l x.2.1[i] < 0 <;> simp -implicitDefEqProofs [hi, hw, eb, hb]
      · simp
      · cases hasAll l x.2.1 <;> simp -implicitDefEqProofs
theorem e_impl_isFormeId (a : Int) : F_impl_isFormeId [I a] = some (.ret [B (decide (1 ≤ a ∧ a ≤ 99))] []) := by
  rw [t_impl_isFormeId]
  simp [e_impl_within]
theorem e_impl_isForme (l : List Bx) (x : Fm) (h : okBx l) (hx : x.2.1.length ≤ 1048576) : F_impl_isForme [bxs l, fm x] = some (.ret [B (isFm l x && goodC l)] []) := by
  rw [t_impl_isForme]
  have ec := e_impl_areCodes l x.2.1 h hx
  by_cases h1 : 1 ≤ x.1 ∧ x.1 ≤ 99
  case neg => simp -implicitDefEqProofs [e_impl_isFormeId, isFm, h1]
  cases ha : hasAll l x.2.1
  · simp -implicitDefEqProofs [e_impl_isFormeId, isFm, h1, ec, ha]
  cases hg : goodC l
  · simp -implicitDefEqProofs [e_impl_isFormeId, isFm, h1, ec, ha, hg]
  by_cases h60 : (x.2.1.length : Int) ≤ 60
  case neg =>
    have h40 : 40 < (x.2.1.length : Int) := by omega
    simp -implicitDefEqProofs [e_impl_isFormeId, isFm, h1, ec, ha, hg, h60, h40]
  by_cases h2 : 40 < (x.2.1.length : Int)
  case pos => simp -implicitDefEqProofs [e_impl_isFormeId, isFm, h1, ec, ha, hg, h60, h2, Int.not_le.2 h2]
  have h2' : (x.2.1.length : Int) ≤ 40 := by omega
  by_cases h3 : 0 ≤ x.2.2.2 ∧ x.2.2.2 ≤ 100000
  case neg => simp -implicitDefEqProofs [e_impl_isFormeId, e_impl_within, isFm, h1, ec, ha, hg, h60, h2, h2', h3]
  cases h4 : x.2.2.1
  · simp -implicitDefEqProofs [e_impl_isFormeId, e_impl_within, isFm, h1, ec, ha, hg, h60, h2, h2', h3, h4]
  · by_cases h5 : (x.2.1.length : Int) = 0
    · have h5' : x.2.1 = [] := List.eq_nil_of_length_eq_zero (by omega)
      rw [h5'] at ec ha
      simp -implicitDefEqProofs [e_impl_isFormeId, e_impl_within, isFm, h1, ec, ha, hg, h3, h4, h5']
    · have h5' : ¬ x.2.1 = [] := fun e => h5 (by simp [e])
      have h6 : 0 < (x.2.1.length : Int) := by omega
      have h6' : 0 < x.2.1.length := by omega
      simp -implicitDefEqProofs [e_impl_isFormeId, e_impl_within, isFm, h1, ec, ha, hg, h60, h2, h2', h3, h4, h5, h5', h6, h6']

end Go.Proofs.YtfjkapnonljdeaaDoor
