/-
  Types taken from a case; whether a word may be set; the law.
-/
import Derived.Test.YtcnkgmbnmndahaaS8
namespace Go.Proofs.Ytcnkgmbnmndahaa
open Go Go.V
set_option linter.unusedSimpArgs false

/-- A case with some types more of a code. -/
def updF (cs : List ByteArray) (by_ : Int) (l : List Bx) (c : ByteArray) : List Bx :=
  l.set (fC cs c).toNat ((l.getD (fC cs c).toNat (ByteArray.empty, 0, 0, 0)).1, (l.getD (fC cs c).toNat (ByteArray.empty, 0, 0, 0)).2.1, (l.getD (fC cs c).toNat (ByteArray.empty, 0, 0, 0)).2.2.1, IntKind.i64.wrap ((l.getD (fC cs c).toNat (ByteArray.empty, 0, 0, 0)).2.2.2 + by_))
theorem updF_cods (cs : List ByteArray) (by_ : Int) (l : List Bx) (c : ByteArray) : cods (updF cs by_ l c) = cods l := by
  unfold updF cods
  rw [List.map_set]
  refine List.ext_getElem? fun i => ?_
  rw [List.getElem?_set]
  split
  · rename_i h
    subst h
    simp only [List.length_map, List.getElem?_map, List.getD_eq_getElem?_getD]
    split
    · rename_i h
      rw [List.getElem?_eq_getElem h]
      rfl
    · rename_i h
      rw [List.getElem?_eq_none (by omega)]
      rfl
  · rfl
def moveC (cs : List ByteArray) (by_ : Int) (l : List Bx) (codes : List ByteArray) : List Bx := codes.foldl (updF cs by_) l
theorem moveC_cods (cs : List ByteArray) (by_ : Int) : ∀ (codes : List ByteArray) (l : List Bx), cods (moveC cs by_ l codes) = cods l
  | [], l => rfl
  | c :: codes, l => by
    show cods (moveC cs by_ (updF cs by_ l c) codes) = cods l
    rw [moveC_cods cs by_ codes, updF_cods]
theorem okBx_cods {l m : List Bx} (h : okBx l) (e : cods m = cods l) : okBx m := by
  have hl : m.length = l.length := by
    have := congrArg List.length e
    simpa using this
  refine ⟨by rw [hl]; exact h.1, fun x hx => ?_⟩
  have : x.1 ∈ cods m := List.mem_map_of_mem hx
  rw [e] at this
  obtain ⟨y, hy, hy'⟩ := List.mem_map.1 this
  rw [← hy']
  exact h.2 y hy
theorem moveC_snoc (cs : List ByteArray) (by_ : Int) (l : List Bx) (codes : List ByteArray) {i : Nat} (hi : i < codes.length) : moveC cs by_ l (codes.take (i + 1)) = updF cs by_ (moveC cs by_ l (codes.take i)) codes[i] := by
  unfold moveC
  rw [take_snoc hi, List.foldl_append]
  rfl
theorem bxs_copy (l : List Bx) (h : l.length ≤ 1048576) : (((mkArr 4 []).bind fun a => (chkA (bxs l)).bind fun b => appD 4 40 a b) = some (bxs l)) := by
  rw [mkArr_nil, Option.bind_some, chkA_map isV_bx, Option.bind_some, appD_eq, if_pos (by simp only [List.length_nil, List.length_map]; omega)]
  rfl
theorem upd_run (cs : List ByteArray) (by_ : Int) (m : List Bx) (c : ByteArray) (k : Nat) (hk : fC cs c = k) (hm : k < m.length) : stD 1 (bxs m) (.ref k 3) (.v (.int .i64 (IntKind.i64.wrap (m[k].2.2.2 + by_)))) = some (bxs (updF cs by_ m c)) := by
  rw [stD_part (c := [T m[k].1, I m[k].2.1, I m[k].2.2.1, I m[k].2.2.2]) (by simp [hm]) (by simp)]
  unfold updF
  rw [hk, Int.toNat_natCast, List.getD_eq_getElem?_getD, List.getElem?_eq_getElem hm]
  simp [List.map_set]

theorem e_spec_caMove (l : List Bx) (codes : List ByteArray) (by_ : Int) (h : okBx l) (hl : codes.length ≤ 1048576) (hc : ∀ c ∈ codes, ∃ k : Nat, fC (cods l) c = k ∧ k < l.length) :
    F_spec_caMove [bxs l, txs codes, I by_] = some (.ret [if goodC (moveC (cods l) by_ l codes) = true then bxs (moveC (cods l) by_ l codes) else .arr 4 [], B (goodC (moveC (cods l) by_ l codes))] []) := by
  rw [t_spec_caMove]
  have h0 := h.1
  have ha : appD 4 40 (.arr 4 []) (bxs l) = some (bxs l) := by
    rw [appD_eq, if_pos (by simp only [List.length_nil, List.length_map]; omega)]
    rfl
  simp only [mkArr_nil, Option.bind_some, chkA_map isV_bx, ha, lenD_arr, List.length_map]
  refine loop_bind (.ext 0 [bxs (moveC (cods l) by_ l codes)]) (loop_for codes.length (fun i => [I by_, bxs (moveC (cods l) by_ l (codes.take i)), txs codes, I codes.length, I i]) _ (fun i hi => ?_) ?_ rfl rfl) ?_
  · have hw : IntKind.i64.wrap ((i : Int) + 1) = (i : Int) + 1 := wrap_id (by omega) (by omega)
    have hm := moveC_cods (cods l) by_ (codes.take i) l
    obtain ⟨k, hk1, hk2⟩ := hc codes[i] (List.getElem_mem hi)
    rw [moveC_snoc _ _ _ _ hi]
    generalize moveC (cods l) by_ l (codes.take i) = m at hm
    have hml : m.length = l.length := by
      have := congrArg List.length hm
      simpa using this
    have ef := e_spec_caFind m codes[i] (by omega)
    rw [fB_eq, hm, hk1] at ef
    have hkm : k < m.length := by omega
    have eu := upd_run (cods l) by_ m codes[i] k hk1 hkm
    simp -implicitDefEqProofs [hi, hw, ef, hkm, eu]
  · simp -implicitDefEqProofs
  · have eg := e_spec_caGood _ (okBx_cods h (moveC_cods (cods l) by_ codes l))
    cases hg : goodC (moveC (cods l) by_ l codes) <;> rw [hg] at eg <;> simp -implicitDefEqProofs [eg]
theorem e_impl_changed (l : List Bx) (codes : List ByteArray) (by_ : Int) (h : okBx l) (hl : codes.length ≤ 60) (hg : goodC l = true) (hc : ∀ c ∈ codes, ∃ k : Nat, fC (cods l) c = k ∧ k < l.length) :
    F_impl_changed [bxs l, txs codes, I by_] = some (.ret [if goodC (moveC (cods l) by_ l codes) = true then bxs (moveC (cods l) by_ l codes) else .arr 4 [], B (goodC (moveC (cods l) by_ l codes))] []) := by
  rw [t_impl_changed]
  have h0 := h.1
  have ha : appD 4 40 (.arr 4 []) (bxs l) = some (bxs l) := by
    rw [appD_eq, if_pos (by simp only [List.length_nil, List.length_map]; omega)]
    rfl
  have hall : hasAll l codes = true := by
    have key : ∀ (m : List ByteArray) (i : Nat), (∀ c ∈ m, ∃ k : Nat, fC (cods l) c = k ∧ k < l.length) → allI (fun _ c => !decide (fB l c < 0)) i m = true := by
      intro m
      induction m with
      | nil => intro i _; rfl
      | cons c m ih =>
        intro i hm
        obtain ⟨k, hk, _⟩ := hm c (by simp)
        have hk0 : ¬ fB l c < 0 := by rw [fB_eq, hk]; omega
        simp [allI, ih (i + 1) (fun d hd => hm d (by simp [hd])), hk0]
    exact key codes 0 hc
  have ea := e_impl_areCodes l codes h (by omega)
  rw [hall, hg] at ea
  have h60 : (codes.length : Int) ≤ 60 := by omega
  simp -implicitDefEqProofs only [ea, h60, decide_true, Bool.and_self, Bool.not_true, callK_ret, sl_zero, un_not, ifD_B, Bool.false_eq_true, if_false, mkArr_nil, Option.bind_some, chkA_map isV_bx, ha, lenD_arr, List.length_map]
  refine loop_bind (.ext 0 [bxs (moveC (cods l) by_ l codes)]) (loop_for codes.length (fun i => [bxs l, I by_, bxs (moveC (cods l) by_ l (codes.take i)), txs codes, I codes.length, I i]) _ (fun i hi => ?_) ?_ rfl rfl) ?_
  · have hw : IntKind.i64.wrap ((i : Int) + 1) = (i : Int) + 1 := wrap_id (by omega) (by omega)
    have hm := moveC_cods (cods l) by_ (codes.take i) l
    obtain ⟨k, hk1, hk2⟩ := hc codes[i] (List.getElem_mem hi)
    rw [moveC_snoc _ _ _ _ hi]
    generalize moveC (cods l) by_ l (codes.take i) = m at hm
    have hml : m.length = l.length := by
      have := congrArg List.length hm
      simpa using this
    have ef := e_impl_boxAt l codes[i] (by omega)
    rw [fB_eq, hk1] at ef
    have hkm : k < m.length := by omega
    have eu := upd_run (cods l) by_ m codes[i] k hk1 hkm
    simp -implicitDefEqProofs [hi, hw, ef, hkm, eu]
  · simp -implicitDefEqProofs
  · have eg := e_impl_IsCase _ (okBx_cods h (moveC_cods (cods l) by_ codes l))
    cases hg : goodC (moveC (cods l) by_ l codes) <;> rw [hg] at eg <;> simp -implicitDefEqProofs [eg, mkArr_nil]
theorem e_impl_TakeTypes (l : List Bx) (codes : List ByteArray) (h : okBx l) (hl : codes.length ≤ 60) (hg : goodC l = true) (hc : ∀ c ∈ codes, ∃ k : Nat, fC (cods l) c = k ∧ k < l.length) :
    F_impl_TakeTypes [bxs l, txs codes] = some (.ret [if goodC (moveC (cods l) (-1) l codes) = true then bxs (moveC (cods l) (-1) l codes) else .arr 4 [], B (goodC (moveC (cods l) (-1) l codes))] []) := by
  rw [t_impl_TakeTypes]
  have e := e_impl_changed l codes (-1) h hl hg hc
  cases hq : goodC (moveC (cods l) (-1) l codes) <;> rw [hq] at e <;> simp -implicitDefEqProofs at e <;> simp -implicitDefEqProofs [e]

theorem e_spec_tyWord (s : ByteArray) (h : s.size ≤ 9223372036854775807) : F_spec_tyWord [T s] = some (.ret [B (letters s 1 16)] []) := by
  rw [t_spec_tyWord]
  simp [e_spec_tyLetters s 16 h]
theorem e_impl_isWord (s : ByteArray) (h : s.size ≤ 9223372036854775807) : F_impl_isWord [T s] = some (.ret [B (letters s 1 16)] []) := by
  rw [t_impl_isWord]
  simp [e_impl_areLetters s 1 16 h]
theorem codesOut_in {l : List Bx} {r : List Nat} (hr : ∀ i ∈ r, i < (cods l).length) : ∀ c ∈ codesOut (cods l) r, ∃ k : Nat, fC (cods l) c = k ∧ k < l.length := by
  intro c hcm
  obtain ⟨i, hi, rfl⟩ := List.mem_map.1 hcm
  have hi' := hr i hi
  rw [getD_eq hi']
  rcases fC_is (cs := cods l) (c := (cods l)[i]) with ⟨_, e⟩ | ⟨j, hj, e1, e2⟩
  · exact absurd rfl (e i hi')
  · exact ⟨j, e1, by simpa using hj⟩
/-- What is told of a word: (may be set, whether it is told). -/
theorem both_MayBeSet (s : Sp) (w : ByteArray) (h : okSp s) (hw : w.size ≤ 1048576) : ∃ a b : Bool, F_spec_MayBeSet [sp s, T w] = some (.ret [B a, B b] []) ∧ F_impl_MayBeSet [sp s, T w] = some (.ret [B a, B b] []) := by
  rw [t_spec_MayBeSet, t_impl_MayBeSet]
  have g1 := e_spec_shGood s h
  have g2 := e_impl_IsShop s h
  have w1 := e_spec_tyWord w (by omega)
  have w2 := e_impl_isWord w (by omega)
  cases hok : shopOk s
  · exact ⟨false, false, by simp -implicitDefEqProofs [g1, hok], by simp -implicitDefEqProofs [g2, hok]⟩
  rw [hok] at g1 g2
  cases hlt : letters w 1 16
  · exact ⟨false, false, by simp -implicitDefEqProofs [g1, w1, hlt], by simp -implicitDefEqProofs [g2, w2, hlt]⟩
  rw [hlt] at w1 w2
  obtain ⟨_, p2, _, _⟩ := shopOk_parts hok
  have hc := goodC_codes p2
  have h16 : w.size ≤ 16 := by
    simp only [letters, Bool.and_eq_true, decide_eq_true_eq] at hlt
    omega
  have hb := h.1.1
  obtain ⟨r, hr⟩ := sets_total hc _ (chars w) [] (Nat.le_refl _)
  have c1 := e_spec_shCodes s.1 hc hb w (by omega) hr
  have c2 := e_impl_codesOf s.1 hc hb w (by omega) hr
  have hsz : w.size = (chars w).length := rfl
  cases r with
  | none => exact ⟨false, true, by simp -implicitDefEqProofs [g1, w1, c1], by simp -implicitDefEqProofs [g2, w2, c2]⟩
  | some r =>
    obtain ⟨q1, q2⟩ := sets_lt hc hr (by simp) r rfl
    have hin := codesOut_in q1
    have hlen : (codesOut (cods s.1) r).length ≤ 60 := by
      unfold codesOut
      rw [List.length_map]
      simp at q2
      omega
    have m1 := e_spec_caMove s.1 _ (-1) h.1 (by omega) hin
    have m2 := e_impl_TakeTypes s.1 _ h.1 hlen p2 hin
    simp only [Option.getD_some, Option.isSome_some] at c1 c2
    refine ⟨goodC (moveC (cods s.1) (-1) s.1 (codesOut (cods s.1) r)), true, ?_, ?_⟩
    · cases hq : goodC (moveC (cods s.1) (-1) s.1 (codesOut (cods s.1) r)) <;> rw [hq] at m1 <;> simp -implicitDefEqProofs at m1 <;> simp -implicitDefEqProofs [g1, w1, c1, m1]
    · cases hq : goodC (moveC (cods s.1) (-1) s.1 (codesOut (cods s.1) r)) <;> rw [hq] at m2 <;> simp -implicitDefEqProofs at m2 <;> simp -implicitDefEqProofs [g2, w2, c2, m2]
theorem law_MayBeSet (s : Sp) (w : ByteArray) (h : inSp s) : F_laws_FnExactMayBeSet [sp s, T w] = some (.ret [B true] []) := by
  rw [t_laws_FnExactMayBeSet]
  by_cases hw : 1048576 < (w.size : Int)
  · simp -implicitDefEqProofs [hw]
  obtain ⟨m, e, _, k⟩ := e_laws_szShop s h
  by_cases hm : m < 0
  · simp -implicitDefEqProofs [hw, e, hm]
  · have hk := k (by omega)
    obtain ⟨a, b, e1, e2⟩ := both_MayBeSet s w hk (by omega)
    simp -implicitDefEqProofs [hw, e, hm, e_laws_toShop s hk, e1, e2, e_laws_eqShop s hk]

end Go.Proofs.Ytcnkgmbnmndahaa
