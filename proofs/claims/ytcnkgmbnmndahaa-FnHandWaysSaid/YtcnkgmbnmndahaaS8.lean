/-
  Codes of a word; types taken from a case; whether a word may be set.
-/
import Derived.Test.YtcnkgmbnmndahaaS7
namespace Go.Proofs.Ytcnkgmbnmndahaa
open Go Go.V
set_option linter.unusedSimpArgs false

theorem less_irrefl : ∀ x : List UInt8, Op.bytesLess x x = false
  | [] => rfl
  | a :: x => by
    simp only [Op.bytesLess, less_irrefl x, Bool.and_false, Bool.or_false, decide_eq_false_iff_not]
    exact UInt8.lt_irrefl a
theorem less_trans : ∀ x y z : List UInt8, Op.bytesLess x y = true → Op.bytesLess y z = true → Op.bytesLess x z = true
  | _, [], _, h, _ => by simp [Op.bytesLess] at h
  | _, _ :: _, [], _, h => by simp [Op.bytesLess] at h
  | [], _ :: _, _ :: _, _, _ => rfl
  | a :: x, b :: y, c :: z, h1, h2 => by
    simp only [Op.bytesLess, Bool.or_eq_true, decide_eq_true_eq, Bool.and_eq_true, beq_iff_eq] at h1 h2 ⊢
    rcases h1 with h1 | ⟨rfl, h1⟩
    · rcases h2 with h2 | ⟨rfl, _⟩
      · exact .inl (UInt8.lt_trans h1 h2)
      · exact .inl h1
    · rcases h2 with h2 | ⟨rfl, h2⟩
      · exact .inl h2
      · exact .inr ⟨rfl, less_trans x y z h1 h2⟩

abbrev cods (l : List Bx) : List ByteArray := l.map (·.1)
theorem allI_at {β : Type} {p : Nat → β → Bool} : ∀ {l : List β} {i : Nat}, allI p i l = true → ∀ (j : Nat) (hj : j < l.length), p (i + j) l[j] = true
  | [], _, _, j, hj => by simp at hj
  | x :: l, i, h, j, hj => by
    simp only [allI, Bool.and_eq_true] at h
    cases j with
    | zero => exact h.1
    | succ j =>
      have := allI_at h.2 j (by simpa using hj)
      rw [show i + (j + 1) = i + 1 + j from by omega]
      exact this
theorem goodC_codes {l : List Bx} (h : goodC l = true) : Codes (cods l) := by
  simp only [goodC, Bool.and_eq_true, decide_eq_true_eq] at h
  have hp : ∀ (j : Nat) (hj : j < l.length), pBx l j l[j] = true := fun j hj => by
    have := allI_at h.1 j hj
    rwa [Nat.zero_add] at this
  have asc : ∀ (d i : Nat) (hj : i + d + 1 < l.length), Op.bytesLess (l[i]'(by omega)).1.toList l[i + d + 1].1.toList = true := by
    intro d
    have one : ∀ (i : Nat) (hj : i + 1 < l.length), Op.bytesLess (l[i]'(by omega)).1.toList l[i + 1].1.toList = true := fun i hj => by
      have := hp (i + 1) hj
      simp only [pBx, Bool.and_eq_true, Bool.not_eq_true', Bool.and_eq_false_iff, decide_eq_false_iff_not, Bool.not_eq_false'] at this
      have h2 := this.1.2.resolve_left (by omega)
      rw [Nat.add_sub_cancel, List.getD_eq_getElem?_getD, List.getElem?_eq_getElem (by omega)] at h2
      exact h2
    induction d with
    | zero => exact fun i hj => one i hj
    | succ d ih => exact fun i hj => less_trans _ _ _ (ih i (by omega)) (one (i + d + 1) (by omega))
  refine ⟨fun j hj => ?_, fun i j hi hj e => ?_⟩
  · have hj' : j < l.length := by simpa using hj
    have := hp j hj'
    simp only [pBx, isBx, letters, Bool.and_eq_true, decide_eq_true_eq] at this
    have h2 := this.1.1.1.1.1.2
    simp only [List.getElem_map]
    show 1 ≤ (l[j].1).size ∧ (l[j].1).size ≤ 3
    omega
  · have hi' : i < l.length := by simpa using hi
    have hj' : j < l.length := by simpa using hj
    simp only [List.getElem_map] at e
    rcases Nat.lt_trichotomy i j with h | h | h
    · have := asc (j - i - 1) i (by omega)
      simp only [show i + (j - i - 1) + 1 = j from by omega] at this
      rw [e, less_irrefl] at this
      cases this
    · exact h
    · have := asc (i - j - 1) j (by omega)
      simp only [show j + (i - j - 1) + 1 = i from by omega] at this
      rw [e, less_irrefl] at this
      cases this
theorem fB_eq (l : List Bx) (c : ByteArray) : fB l c = fC (cods l) c := by
  unfold fB fC
  congr 1
  have : ∀ (m : List Bx) (i : Nat), findI (fun b : Bx => decide (b.1 = c)) i m = findI (fun b : ByteArray => decide (b = c)) i (m.map (·.1)) := by
    intro m
    induction m with
    | nil => intro i; rfl
    | cons x m ih =>
      intro i
      simp only [List.map_cons, findI, ih]
  exact this l 0

/-! ### codes -/
theorem bldSo (c : ByteArray) : bldD [(0, 1), (1, 1)] [T ⟨#[]⟩, I 0] [T c, I 1] = some (so c) := by simp [bldD, fillD]
theorem so_one (c : ByteArray) : mkArr 2 [so c] = some (fD [c]) := by simp [mkArr, lenOkD]
theorem so_app (l : List ByteArray) (c : ByteArray) (h : l.length ≤ 1048576) : appD 2 24 (fD l) (fD [c]) = some (fD (l ++ [c])) := by
  rw [appD_eq, if_pos (by simp only [List.length_map, List.length_singleton]; omega)]
  simp
theorem so_chk (c : ByteArray) : chkA (fD [c]) = some (fD [c]) := chkA_map isV_so
theorem tx_one (c : ByteArray) : mkArr 1 [T c] = some (txs [c]) := by simp [mkArr, lenOkD]
theorem tx_app (l : List ByteArray) (c : ByteArray) (h : l.length ≤ 1048576) : appD 1 16 (txs l) (txs [c]) = some (txs (l ++ [c])) := by
  rw [appD_eq, if_pos (by simp only [List.length_map, List.length_singleton]; omega)]
  simp
theorem tx_chk (c : ByteArray) : chkA (txs [c]) = some (txs [c]) := by simp [chkA, D.isV]
def codesOut (cs : List ByteArray) (r : List Nat) : List ByteArray := r.map fun i => cs.getD i ByteArray.empty
theorem take_snoc {α : Type} {l : List α} {i : Nat} (h : i < l.length) : l.take (i + 1) = l.take i ++ [l[i]] := List.take_succ_eq_append_getElem h
theorem e_spec_shCodes (l : List Bx) (hc : Codes (cods l)) (hl : l.length ≤ 1048576) (s : ByteArray) (hs : s.size ≤ 1000) {r : Option (List Nat)} (h : Sets (cods l) (chars s) [] r) : F_spec_shCodes [bxs l, T s] = some (.ret [txs (codesOut (cods l) (r.getD [])), B r.isSome] []) := by
  rw [t_spec_shCodes]
  have et := e_spec_tySet hc (by simpa using hl) s hs h
  have hr := sets_lt hc h (by simp)
  simp only [lenD_arr, List.length_map, Option.bind_some]
  refine loop_bind (.ext 0 [T s, fD (cods l)]) (loop_for l.length (fun i => [T s, fD (cods (l.take i)), bxs l, I l.length, I i]) _ (fun i hi => ?_) ?_ rfl rfl) ?_
  · have hw : IntKind.i64.wrap ((i : Int) + 1) = (i : Int) + 1 := wrap_id (by omega) (by omega)
    have ha := so_app (cods (l.take i)) l[i].1 (by simp; omega)
    have hb := bldSo l[i].1
    have h1 := so_one l[i].1
    have h2 := so_chk l[i].1
    have e : cods (l.take (i + 1)) = cods (l.take i) ++ [l[i].1] := by
      unfold cods
      rw [take_snoc hi, List.map_append]
      rfl
    rw [e]
    generalize cods (l.take i) = q at ha
    simp -implicitDefEqProofs [hi, hw, hb, h1, h2, ha, -appD_eq]
  · simp -implicitDefEqProofs
  · cases r with
    | none => simp -implicitDefEqProofs [et, setR, codesOut]
    | some r =>
      obtain ⟨q1, q2⟩ := hr r rfl
      have hsz : s.size = (chars s).length := rfl
      simp -implicitDefEqProofs [et, setR]
      refine loop_bind (.ext 2 [txs (codesOut (cods l) r)]) (loop_for r.length (fun i => [fD (cods l), txs (codesOut (cods l) (r.take i)), nats r, I r.length, I i]) _ (fun i hi => ?_) ?_ rfl rfl) ?_
      · have hrl : r.length ≤ 1000 := by simp at q2; omega
        have hw : IntKind.i64.wrap ((i : Int) + 1) = (i : Int) + 1 := wrap_id (by omega) (by omega)
        have hk := q1 r[i] (List.getElem_mem hi)
        have ha := tx_app (codesOut (cods l) (r.take i)) ((cods l)[r[i]]) (by simp [codesOut]; omega)
        have h1 := tx_one ((cods l)[r[i]])
        have h2 := tx_chk ((cods l)[r[i]])
        have e : codesOut (cods l) (r.take (i + 1)) = codesOut (cods l) (r.take i) ++ [(cods l)[r[i]]] := by
          unfold codesOut
          rw [take_snoc hi, List.map_append, List.map_cons, List.map_nil, getD_eq hk]
        rw [e]
        generalize codesOut (cods l) (r.take i) = q at ha
        generalize cods l = cs at hk ha h1 h2
        simp -implicitDefEqProofs [hi, hk, hw, h1, h2, ha, -appD_eq]
      · simp -implicitDefEqProofs
      · simp -implicitDefEqProofs
theorem e_impl_codesOf (l : List Bx) (hc : Codes (cods l)) (hl : l.length ≤ 1048576) (s : ByteArray) (hs : s.size ≤ 1000) {r : Option (List Nat)} (h : Sets (cods l) (chars s) [] r) : F_impl_codesOf [bxs l, T s] = some (.ret [txs (codesOut (cods l) (r.getD [])), B r.isSome] []) := by
  rw [t_impl_codesOf]
  have et := e_impl_sortsOf hc (by simpa using hl) s hs h
  have hr := sets_lt hc h (by simp)
  have hsz : s.size = (chars s).length := rfl
  obtain ⟨q, ok, hq, q1, q2, he⟩ : ∃ (q : List Nat) (ok : Bool), r.getD [] = q ∧ (∀ i ∈ q, i < (cods l).length) ∧ q.length ≤ 1000 ∧ F_impl_sortsOf [fD (cods l), T s] = some (.ret [nats q, B ok] []) ∧ r.isSome = ok := by
    cases r with
    | none => exact ⟨[], false, rfl, by simp, by simp, et, rfl⟩
    | some r =>
      obtain ⟨q1, q2⟩ := hr r rfl
      exact ⟨r, true, rfl, q1, by simp at q2; omega, et, rfl⟩
  rw [hq, he.2]
  simp only [mkArr_nil, lenD_arr, List.length_map, Option.bind_some]
  refine loop_bind (.ext 0 [T s, fD (cods l)]) (loop_for l.length (fun i => [T s, fD (cods (l.take i)), bxs l, I l.length, I i]) _ (fun i hi => ?_) ?_ rfl rfl) ?_
  · have hw : IntKind.i64.wrap ((i : Int) + 1) = (i : Int) + 1 := wrap_id (by omega) (by omega)
    have ha := so_app (cods (l.take i)) l[i].1 (by simp; omega)
    have hb := bldSo l[i].1
    have h1 := so_one l[i].1
    have h2 := so_chk l[i].1
    have e : cods (l.take (i + 1)) = cods (l.take i) ++ [l[i].1] := by
      unfold cods
      rw [take_snoc hi, List.map_append]
      rfl
    rw [e]
    generalize cods (l.take i) = q at ha
    simp -implicitDefEqProofs [hi, hw, hb, h1, h2, ha, -appD_eq]
  · simp -implicitDefEqProofs
  · simp -implicitDefEqProofs [he.1, mkArr_nil]
    refine loop_bind (.ext 2 [B ok, txs (codesOut (cods l) q)]) (loop_for q.length (fun i => [fD (cods l), B ok, txs (codesOut (cods l) (q.take i)), nats q, I q.length, I i]) _ (fun i hi => ?_) ?_ rfl rfl) ?_
    · have hw : IntKind.i64.wrap ((i : Int) + 1) = (i : Int) + 1 := wrap_id (by omega) (by omega)
      have hk := q1 q[i] (List.getElem_mem hi)
      have ha := tx_app (codesOut (cods l) (q.take i)) ((cods l)[q[i]]) (by simp [codesOut]; omega)
      have h1 := tx_one ((cods l)[q[i]])
      have h2 := tx_chk ((cods l)[q[i]])
      have e : codesOut (cods l) (q.take (i + 1)) = codesOut (cods l) (q.take i) ++ [(cods l)[q[i]]] := by
        unfold codesOut
        rw [take_snoc hi, List.map_append, List.map_cons, List.map_nil, getD_eq hk]
      rw [e]
      generalize codesOut (cods l) (q.take i) = qq at ha
      generalize cods l = cs at hk ha h1 h2
      simp -implicitDefEqProofs [hi, hk, hw, h1, h2, ha, -appD_eq]
    · simp -implicitDefEqProofs
    · simp -implicitDefEqProofs

end Go.Proofs.Ytcnkgmbnmndahaa
