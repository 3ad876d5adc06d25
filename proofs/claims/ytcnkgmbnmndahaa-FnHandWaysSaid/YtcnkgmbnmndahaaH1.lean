/-
  Boxes that are exchanged; the way of the hand.
-/
import Derived.Test.YtcnkgmbnmndahaaS9
import Derived.Test.YtcnkgmbnmndahaaT6
namespace Go.Proofs.Ytcnkgmbnmndahaa
open Go Go.V
set_option linter.unusedSimpArgs false

theorem set_row (l : List Bx) (i : Nat) (v : Int) (hi : i < l.length) : stD 1 (bxs l) (.ref i 1) (.v (.int .i64 v)) = some (bxs (l.set i (l[i].1, v, l[i].2.2.1, l[i].2.2.2))) := by
  rw [stD_part (c := [T l[i].1, I l[i].2.1, I l[i].2.2.1, I l[i].2.2.2]) (by simp [hi]) (by simp)]
  simp [List.map_set]
theorem set_col (l : List Bx) (i : Nat) (v : Int) (hi : i < l.length) : stD 1 (bxs l) (.ref i 2) (.v (.int .i64 v)) = some (bxs (l.set i (l[i].1, l[i].2.1, v, l[i].2.2.2))) := by
  rw [stD_part (c := [T l[i].1, I l[i].2.1, I l[i].2.2.1, I l[i].2.2.2]) (by simp [hi]) (by simp)]
  simp [List.map_set]
/-- Two boxes exchange their places. -/
def swapB (l : List Bx) (a b : Nat) : List Bx :=
  let x := l.getD a (ByteArray.empty, 0, 0, 0)
  let y := l.getD b (ByteArray.empty, 0, 0, 0)
  (l.set a (x.1, y.2.1, y.2.2.1, x.2.2.2)).set b (y.1, x.2.1, x.2.2.1, y.2.2.2)
theorem getB {l : List Bx} {i : Nat} (h : i < l.length) : l.getD i (ByteArray.empty, 0, 0, 0) = l[i] := by
  simp [List.getD_eq_getElem?_getD, h]
theorem swap_steps (l : List Bx) (a b : Nat) (hab : a < b) (hb : b < l.length) : ∃ l1 l2 l3 : List Bx, (stD 1 (bxs l) (.ref a 1) (I l[b].2.1) = some (bxs l1) ∧ stD 1 (bxs l1) (.ref a 2) (I l[b].2.2.1) = some (bxs l2) ∧ stD 1 (bxs l2) (.ref b 1) (I (l[a]'(by omega)).2.1) = some (bxs l3) ∧ stD 1 (bxs l3) (.ref b 2) (I (l[a]'(by omega)).2.2.1) = some (bxs (swapB l a b))) ∧
    l1.length = l.length ∧ l2.length = l.length ∧ l3.length = l.length := by
  have ha : a < l.length := by omega
  have hne : a ≠ b := by omega
  have hne' : b ≠ a := by omega
  have e1 := set_row l a l[b].2.1 ha
  have e2 := set_col (l.set a (l[a].1, l[b].2.1, l[a].2.2.1, l[a].2.2.2)) a l[b].2.2.1 (by simpa using ha)
  simp only [List.getElem_set_self, List.set_set] at e2
  have e3 := set_row (l.set a (l[a].1, l[b].2.1, l[b].2.2.1, l[a].2.2.2)) b l[a].2.1 (by simpa using hb)
  simp only [List.getElem_set_ne hne] at e3
  have e4 := set_col ((l.set a (l[a].1, l[b].2.1, l[b].2.2.1, l[a].2.2.2)).set b (l[b].1, l[a].2.1, l[b].2.2.1, l[b].2.2.2)) b l[a].2.2.1 (by simpa using hb)
  simp only [List.getElem_set_self, List.set_set] at e4
  refine ⟨_, _, _, ⟨e1, e2, e3, ?_⟩, by simp, by simp, by simp⟩
  unfold swapB
  rw [getB ha, getB hb]
  exact e4
theorem e_spec_caSwap (l : List Bx) (a b : Nat) (hab : a < b) (hb : b < l.length) (hl : l.length ≤ 1048576) : F_spec_caSwap [bxs l, I a, I b] = some (.ret [bxs (swapB l a b)] []) := by
  rw [t_spec_caSwap]
  have ha : a < l.length := by omega
  have hc : appD 4 40 (.arr 4 []) (bxs l) = some (bxs l) := by
    rw [appD_eq, if_pos (by simp only [List.length_nil, List.length_map]; omega)]
    rfl
  obtain ⟨l1, l2, l3, ⟨e1, e2, e3, e4⟩, h1, h2, h3⟩ := swap_steps l a b hab hb
  have a1 : a < l1.length := by omega
  have b2 : b < l2.length := by omega
  have b3 : b < l3.length := by omega
  simp -implicitDefEqProofs [mkArr_nil, chkA_map isV_bx, hc, ha, hb, e1, e2, e3, e4, a1, b2, b3, -appD_eq]
theorem e_impl_swap (l : List Bx) (a b : Nat) (hab : a < b) (hb : b < l.length) (hl : l.length ≤ 1048576) : F_impl_swap [bxs l, I a, I b] = some (.ret [bxs (swapB l a b)] []) := by
  rw [t_impl_swap]
  have ha : a < l.length := by omega
  have hc : appD 4 40 (.arr 4 []) (bxs l) = some (bxs l) := by
    rw [appD_eq, if_pos (by simp only [List.length_nil, List.length_map]; omega)]
    rfl
  obtain ⟨l1, l2, l3, ⟨e1, e2, e3, e4⟩, h1, h2, h3⟩ := swap_steps l a b hab hb
  have a1 : a < l1.length := by omega
  have b2 : b < l2.length := by omega
  have b3 : b < l3.length := by omega
  simp -implicitDefEqProofs [mkArr_nil, chkA_map isV_bx, hc, ha, hb, e1, e2, e3, e4, a1, b2, b3, -appD_eq]
theorem swapB_cods (l : List Bx) (a b : Nat) (ha : a < l.length) (hb : b < l.length) : cods (swapB l a b) = cods l := by
  unfold swapB cods
  simp only [getB ha, getB hb, List.map_set]
  refine List.ext_getElem (by simp) fun i h1 h2 => ?_
  simp only [List.getElem_set, List.getElem_map]
  split
  · rename_i h; subst h; rfl
  · split
    · rename_i h; subst h; rfl
    · rfl
theorem swapB_len (l : List Bx) (a b : Nat) : (swapB l a b).length = l.length := by simp [swapB]

/-! ### the way of the hand -/
def absW (n : Int) : Int := if n < IntKind.i64.wrap (-n) then IntKind.i64.wrap (-n) else n
theorem e_impl_abs (n : Int) : F_impl_abs [I n] = some (.ret [I (absW n)] []) := by
  rw [t_impl_abs]
  simp -implicitDefEqProofs [maxD, absW]
theorem e_spec_l1Most (a b : Int) : F_spec_l1Most [I a, I b] = some (.ret [I (if b < a then a else b)] []) := by
  rw [t_spec_l1Most]
  by_cases h : b < a <;> simp -implicitDefEqProofs [h]
theorem e_spec_l1Abs (n : Int) : F_spec_l1Abs [I n] = some (.ret [I (absW n)] []) := by
  rw [t_spec_l1Abs]
  have e : (if IntKind.i64.wrap (-n) < n then n else IntKind.i64.wrap (-n)) = absW n := by
    unfold absW
    split <;> split <;> omega
  simp -implicitDefEqProofs [e_spec_l1Most, e]
def wayF (l : List Bx) (a : Int × Int × Int) (c : ByteArray) : Int × Int × Int :=
  let b := l.getD (fC (cods l) c).toNat (ByteArray.empty, 0, 0, 0)
  (IntKind.i64.wrap (a.1 + IntKind.i64.wrap (absW (IntKind.i64.wrap (b.2.1 - a.2.1)) + absW (IntKind.i64.wrap (b.2.2.1 - a.2.2)))), b.2.1, b.2.2.1)
def wayOf (l : List Bx) (codes : List ByteArray) : Int := (codes.foldl (wayF l) (0, 0, 0)).1
def allIn (l : List Bx) (codes : List ByteArray) : Prop := ∀ c ∈ codes, ∃ k : Nat, fC (cods l) c = k ∧ k < l.length
theorem e_impl_handWay (l : List Bx) (codes : List ByteArray) (hl : l.length ≤ 1048576) (hc : codes.length ≤ 1048576) (hin : allIn l codes) : F_impl_handWay [bxs l, txs codes] = some (.ret [I (wayOf l codes)] []) := by
  rw [t_impl_handWay]
  simp only [lenD_arr, List.length_map, Option.bind_some]
  refine loop_bind (.ext 0 [I (wayOf l codes)]) (loop_foldl codes (fun i a => [bxs l, I a.1, I a.2.1, I a.2.2, txs codes, I codes.length, I i]) (wayF l) (fun a => .ext 0 [I a.1]) (0, 0, 0) (fun i a hi => ?_) (fun a => ?_) (fun _ => rfl) rfl) ?_
  · have hw : IntKind.i64.wrap ((i : Int) + 1) = (i : Int) + 1 := wrap_id (by omega) (by omega)
    obtain ⟨k, hk1, hk2⟩ := hin codes[i] (List.getElem_mem hi)
    have ef := e_impl_boxAt l codes[i] hl
    rw [fB_eq, hk1] at ef
    have ew : wayF l a codes[i] = (IntKind.i64.wrap (a.1 + IntKind.i64.wrap (absW (IntKind.i64.wrap (l[k].2.1 - a.2.1)) + absW (IntKind.i64.wrap (l[k].2.2.1 - a.2.2)))), l[k].2.1, l[k].2.2.1) := by
      simp only [wayF, hk1, Int.toNat_natCast, getB hk2]
    rw [ew]
    simp -implicitDefEqProofs [hi, hw, ef, hk2, e_impl_abs]
  · simp -implicitDefEqProofs
  · simp -implicitDefEqProofs
theorem e_spec_caWay (l : List Bx) (codes : List ByteArray) (hl : l.length ≤ 1048576) (hc : codes.length ≤ 1048576) (hin : allIn l codes) : F_spec_caWay [bxs l, txs codes] = some (.ret [I (wayOf l codes)] []) := by
  rw [t_spec_caWay]
  simp only [lenD_arr, List.length_map, Option.bind_some]
  refine loop_bind (.ext 0 [I (wayOf l codes)]) (loop_foldl codes (fun i a => [bxs l, I a.2.1, I a.2.2, I a.1, txs codes, I codes.length, I i]) (wayF l) (fun a => .ext 0 [I a.1]) (0, 0, 0) (fun i a hi => ?_) (fun a => ?_) (fun _ => rfl) rfl) ?_
  · have hw : IntKind.i64.wrap ((i : Int) + 1) = (i : Int) + 1 := wrap_id (by omega) (by omega)
    obtain ⟨k, hk1, hk2⟩ := hin codes[i] (List.getElem_mem hi)
    have ef := e_spec_caFind l codes[i] hl
    rw [fB_eq, hk1] at ef
    have ew : wayF l a codes[i] = (IntKind.i64.wrap (a.1 + IntKind.i64.wrap (absW (IntKind.i64.wrap (l[k].2.1 - a.2.1)) + absW (IntKind.i64.wrap (l[k].2.2.1 - a.2.2)))), l[k].2.1, l[k].2.2.1) := by
      simp only [wayF, hk1, Int.toNat_natCast, getB hk2]
    rw [ew]
    simp -implicitDefEqProofs [hi, hw, ef, hk2, e_spec_l1Abs]
  · simp -implicitDefEqProofs
  · simp -implicitDefEqProofs
theorem e_spec_caAsked (l : List Bx) (cs : List ByteArray) (h : okBx l) (hc : cs.length ≤ 1048576) : F_spec_caAsked [bxs l, txs cs] = some (.ret [B (hasAll l cs && goodC l && decide ((cs.length : Int) ≤ 60))] []) := by
  rw [t_spec_caAsked]
  simp only [lenD_arr, List.length_map, Option.bind_some]
  refine loop_bind _ (loop_all cs (fun i => [bxs l, txs cs, txs cs, I cs.length, I i]) (fun _ c => !decide (fB l c < 0)) (.ret [B false] []) (.ext 0 [bxs l, txs cs]) (fun i hi => ?_) ?_ rfl rfl rfl) ?_
  · have hw : IntKind.i64.wrap ((i : Int) + 1) = (i : Int) + 1 := wrap_id (by omega) (by omega)
    have eb := e_spec_caFind l cs[i] h.1
    by_cases hb : fB l cs[i] < 0 <;> simp -implicitDefEqProofs [hi, hw, eb, hb]
  · simp
  · cases ha : allI (fun _ c => !decide (fB l c < 0)) 0 cs
    · simp -implicitDefEqProofs [hasAll, ha]
    · cases hg : goodC l <;> simp -implicitDefEqProofs [hasAll, ha, e_spec_caGood l h, hg]
def okWay (l : List Bx) (cs : List ByteArray) : Bool := hasAll l cs && goodC l && decide ((cs.length : Int) ≤ 60)
theorem hasAll_in {l : List Bx} {cs : List ByteArray} : hasAll l cs = true ↔ allIn l cs := by
  have key : ∀ (m : List ByteArray) (i : Nat), allI (fun _ c => !decide (fB l c < 0)) i m = true ↔ allIn l m := by
    intro m
    induction m with
    | nil => intro i; simp [allI, allIn]
    | cons c m ih =>
      intro i
      rw [allI, Bool.and_eq_true, ih (i + 1), fB_eq, Bool.not_eq_true', decide_eq_false_iff_not]
      constructor
      · rintro ⟨h1, h2⟩ d hd
        rcases List.mem_cons.1 hd with rfl | hd
        · rcases fC_is (cs := cods l) (c := d) with ⟨e, _⟩ | ⟨j, hj, e, _⟩
          · omega
          · exact ⟨j, e, by simpa using hj⟩
        · exact h2 d hd
      · intro h
        obtain ⟨k, hk, _⟩ := h c (by simp)
        exact ⟨by omega, fun d hd => h d (by simp [hd])⟩
  exact key cs 0
theorem e_impl_HandWay (l : List Bx) (cs : List ByteArray) (h : okBx l) (hc : cs.length ≤ 1048576) : F_impl_HandWay [bxs l, txs cs] = some (.ret [I (if okWay l cs then wayOf l cs else 0), B (okWay l cs)] []) := by
  rw [t_impl_HandWay]
  have e := e_impl_areCodes l cs h hc
  rw [show (hasAll l cs && goodC l && decide ((cs.length : Int) ≤ 60)) = okWay l cs from rfl] at e
  cases hq : okWay l cs
  · simp -implicitDefEqProofs [e, hq]
  · have hin : allIn l cs := by
      unfold okWay at hq
      simp only [Bool.and_eq_true] at hq
      exact hasAll_in.1 hq.1.1
    simp -implicitDefEqProofs [e, hq, e_impl_handWay l cs h.1 hc hin]
theorem e_spec_HandWay (l : List Bx) (cs : List ByteArray) (h : okBx l) (hc : cs.length ≤ 1048576) : F_spec_HandWay [bxs l, txs cs] = some (.ret [I (if okWay l cs then wayOf l cs else 0), B (okWay l cs)] []) := by
  rw [t_spec_HandWay]
  have e := e_spec_caAsked l cs h hc
  rw [show (hasAll l cs && goodC l && decide ((cs.length : Int) ≤ 60)) = okWay l cs from rfl] at e
  cases hq : okWay l cs
  · simp -implicitDefEqProofs [e, hq]
  · have hin : allIn l cs := by
      unfold okWay at hq
      simp only [Bool.and_eq_true] at hq
      exact hasAll_in.1 hq.1.1
    simp -implicitDefEqProofs [e, hq, e_spec_caWay l cs h.1 hc hin]
theorem e_spec_SwapBoxes (l : List Bx) (a b : Nat) (h : okBx l) (hg : goodC l = true) (hab : a < b) (hb : b < l.length) : F_spec_SwapBoxes [bxs l, I a, I b] = some (.ret [bxs (swapB l a b), B true] []) := by
  rw [t_spec_SwapBoxes]
  have hl := h.1
  have eg := e_spec_caGood l h
  rw [hg] at eg
  have hw : IntKind.i64.wrap ((l.length : Int) - 1) = (l.length : Int) - 1 := wrap_id (by omega) (by omega)
  have i1 : (0 : Int) ≤ (a : Int) ∧ (a : Int) ≤ (l.length : Int) - 1 := by omega
  have i2 : (0 : Int) ≤ (b : Int) ∧ (b : Int) ≤ (l.length : Int) - 1 := by omega
  simp -implicitDefEqProofs [eg, e_spec_l1In, hw, i1, i2, e_spec_caSwap l a b hab hb hl]

end Go.Proofs.Ytcnkgmbnmndahaa
