/-
  Plain laws of metal: the least one, the last one, notes that are dropped. (No program in sight.)
-/
import Derived.Test.YtkhggkbmjdopcaaN4
namespace Go.Proofs.Ytkhggkbmjdopcaa
open Go Go.V
set_option linter.unusedSimpArgs false

theorem foldI_inv {α β : Type} (f : Nat → α → β → α) (l : List β) (Inv : Nat → α → Prop) (hs : ∀ (i : Nat) (a : α) (hi : i < l.length), Inv i a → Inv (i + 1) (f i a l[i])) (a : α) (h0 : Inv 0 a) : Inv l.length (foldI f 0 l a) := by
  have key : ∀ (n i : Nat) (a : α), i + n = l.length → Inv i a → Inv l.length (foldI f i (l.drop i) a) := by
    intro n
    induction n with
    | zero =>
      intro i a hi hI
      have : i = l.length := by omega
      subst this
      rw [List.drop_length]
      exact hI
    | succ n ih =>
      intro i a hi hI
      have hlt : i < l.length := by omega
      rw [List.drop_eq_getElem_cons hlt]
      exact ih (i + 1) _ (by omega) (hs i a hlt hI)
  simpa using key l.length 0 a (by omega) h0

/-- The metal behind the first notes. -/
def pre (l : List Nt) (s : Int) (k : Nat) : Int := (l.take k).foldl metN s
theorem pre_zero (l : List Nt) (s : Int) : pre l s 0 = s := by simp [pre]
theorem pre_succ (l : List Nt) (s : Int) (k : Nat) (hk : k < l.length) : pre l s (k + 1) = metN (pre l s k) l[k] := by
  unfold pre
  rw [List.take_succ_eq_append_getElem hk, List.foldl_append]
  rfl

theorem least_spec (l : List Nt) (s : Int) (hne : l ≠ []) : ∃ idx : Nat, (foldI leastF 0 l (s, 0, -1)).2.2 = idx ∧ idx < l.length ∧ (foldI leastF 0 l (s, 0, -1)).2.1 = pre l s (idx + 1) ∧
    (∀ j, j < l.length → (foldI leastF 0 l (s, 0, -1)).2.1 ≤ pre l s (j + 1)) ∧ ∀ j, j < idx → (foldI leastF 0 l (s, 0, -1)).2.1 < pre l s (j + 1) := by
  have h := foldI_inv leastF l (fun i a => a.1 = pre l s i ∧ (i = 0 → a.2.2 = -1) ∧ (0 < i → ∃ idx : Nat, a.2.2 = idx ∧ idx < i ∧ a.2.1 = pre l s (idx + 1) ∧ (∀ j, j < i → a.2.1 ≤ pre l s (j + 1)) ∧ ∀ j, j < idx → a.2.1 < pre l s (j + 1))) (fun i a hi hI => ?_) (s, 0, -1) ⟨(pre_zero l s).symm, fun _ => rfl, fun h => by omega⟩
  · exact h.2.2 (List.length_pos_iff.2 hne)
  · obtain ⟨h1, h2, h3⟩ := hI
    have hp := pre_succ l s i hi
    rw [← h1] at hp
    unfold leastF
    split
    · rename_i hc
      refine ⟨hp.symm, fun h => by omega, fun _ => ⟨i, rfl, by omega, hp.symm, fun j hj => ?_, fun j hj => ?_⟩⟩
      · simp only
        rw [← hp]
        rcases Nat.lt_or_ge j i with hji | hji
        · obtain ⟨idx, g1, g2, g3, g4, g5⟩ := h3 (by omega)
          have := g4 j hji
          rw [← hp] at hc
          rcases hc with hc | hc
          · omega
          · omega
        · have : j = i := by omega
          subst this
          exact Int.le_refl _
      · simp only
        rw [← hp]
        obtain ⟨idx, g1, g2, g3, g4, g5⟩ := h3 (by omega)
        have := g4 j hj
        rw [← hp] at hc
        rcases hc with hc | hc
        · omega
        · omega
    · rename_i hc
      have hi0 : 0 < i := by
        rcases Nat.eq_zero_or_pos i with h0 | h0
        · exact absurd (Or.inl (by rw [h2 h0]; decide)) hc
        · exact h0
      obtain ⟨idx, g1, g2, g3, g4, g5⟩ := h3 hi0
      refine ⟨hp.symm, fun h => by omega, fun _ => ⟨idx, g1, by omega, g3, fun j hj => ?_, g5⟩⟩
      rcases Nat.lt_or_ge j i with hji | hji
      · exact g4 j hji
      · have : j = i := by omega
        subst this
        rw [hp]
        simp only
        omega

theorem allI_spec {β : Type} (p : Nat → β → Bool) : ∀ (l : List β) (i : Nat), allI p i l = true ↔ ∀ (j : Nat) (hj : j < l.length), p (i + j) l[j] = true
  | [], i => by simp [allI]
  | x :: l, i => by
    simp only [allI, Bool.and_eq_true, allI_spec p l]
    constructor
    · rintro ⟨h1, h2⟩ j hj
      cases j with
      | zero => exact h1
      | succ j =>
        have := h2 j (by simpa using hj)
        rw [show i + (j + 1) = i + 1 + j from by omega]
        exact this
    · intro h
      refine ⟨h 0 (by simp), fun j hj => ?_⟩
      have := h (j + 1) (by simpa using hj)
      rw [show i + (j + 1) = i + 1 + j from by omega] at this
      exact this
theorem goodN_is {l : List Nt} : goodN l = true ↔ (∀ (j : Nat) (hj : j < l.length), pNt l j l[j] = true) ∧ l.length ≤ 24 := by
  unfold goodN
  rw [Bool.and_eq_true, allI_spec, decide_eq_true_eq]
  simp
theorem goodN_nt {l : List Nt} (h : goodN l = true) (j : Nat) (hj : j < l.length) : isNt l[j] = true := by
  have := (goodN_is.1 h).1 j hj
  simp only [pNt, Bool.and_eq_true] at this
  exact this.1
theorem isNt_g {x : Nt} (h : isNt x = true) : (0 ≤ x.1 ∧ x.1 ≤ 9999) ∧ 1 ≤ x.2.2 ∧ x.2.2 ≤ 99999 := by
  simp only [isNt, Bool.and_eq_true, decide_eq_true_eq] at h
  omega

theorem pre_bound {l : List Nt} {s : Int} (h : goodN l = true) (hs : 0 ≤ s ∧ s ≤ 1000000) : ∀ k, k ≤ l.length → -(99999 * (k : Int)) ≤ pre l s k ∧ pre l s k ≤ 1000000 + 99999 * k
  | 0, _ => by rw [pre_zero]; omega
  | k + 1, hk => by
    have ih := pre_bound h hs k (by omega)
    have hx := (isNt_g (goodN_nt h k hk)).2
    have h24 := (goodN_is.1 h).2
    rw [pre_succ l s k hk, metN]
    split <;> rw [wrap_id (by omega) (by omega)] <;> omega
theorem pre_ne {l : List Nt} {s : Int} (h : goodN l = true) (hs : 0 ≤ s ∧ s ≤ 1000000) (k : Nat) (hk : k < l.length) : pre l s (k + 1) ≠ pre l s k := by
  have ih := pre_bound h hs k (by omega)
  have hx := (isNt_g (goodN_nt h k hk)).2
  have h24 := (goodN_is.1 h).2
  rw [pre_succ l s k hk, metN]
  split <;> rw [wrap_id (by omega) (by omega)] <;> omega

/-- The first notes of notes are notes. -/
theorem goodN_take {l : List Nt} (h : goodN l = true) (k : Nat) : goodN (l.take k) = true := by
  obtain ⟨h1, h2⟩ := goodN_is.1 h
  refine goodN_is.2 ⟨fun j hj => ?_, by simp; omega⟩
  have hj' : j < l.length := by simp at hj; omega
  have := h1 j hj'
  simp only [pNt, List.getElem_take] at this ⊢
  simp at hj
  have e : (l.take k).getD (j - 1) (0, 0, 0) = l.getD (j - 1) (0, 0, 0) := by
    simp only [List.getD_eq_getElem?_getD]
    rw [List.getElem?_take_of_lt (by omega)]
  rw [e]
  exact this

theorem metalAfter_all {l : List Nt} {s : Int} (h : goodN l = true) : metalAfter l s 9999 = pre l s l.length := by
  have : ∀ (m : List Nt) (s : Int), (∀ x ∈ m, x.1 ≤ 9999) → m.foldl (fun g x => if x.1 ≤ 9999 then metN g x else g) s = m.foldl metN s := by
    intro m
    induction m with
    | nil => intro s _; rfl
    | cons x m ih =>
      intro s hm
      simp only [List.foldl_cons, hm x (by simp), if_true]
      exact ih _ fun y hy => hm y (by simp [hy])
  unfold metalAfter pre
  rw [this, List.take_length]
  intro x hx
  obtain ⟨j, hj, rfl⟩ := List.mem_iff_getElem.1 hx
  exact (isNt_g (goodN_nt h j hj)).1.2

theorem dropN_last {l : List Nt} (h : goodN l = true) (hne : l ≠ []) : okDrop l ((l.length : Int) - 1) = true ∧ dropN l ((l.length : Int) - 1) = l.take (l.length - 1) := by
  have hp : 0 < l.length := List.length_pos_iff.2 hne
  have hok : okDrop l ((l.length : Int) - 1) = true := by
    simp [okDrop, h]
    omega
  refine ⟨hok, ?_⟩
  have e : ((l.length : Int) - 1).toNat = l.length - 1 := by omega
  rw [dropN, if_pos hok, e, show l.length - 1 + 1 = l.length from by omega, List.drop_length, List.append_nil]

end Go.Proofs.Ytkhggkbmjdopcaa
