/-
  The best exchange of two boxes; the nearest free place.
-/
import Derived.Test.YtcnkgmbnmndahaaH1
namespace Go.Proofs.Ytcnkgmbnmndahaa
open Go Go.V
set_option linter.unusedSimpArgs false

/-! ### the least of all pairs -/
def updP (w : Nat → Nat → Int) (s : Option (Nat × Nat)) (a b : Nat) : Option (Nat × Nat) :=
  match s with
  | none => some (a, b)
  | some p => if w a b < w p.1 p.2 then some (a, b) else some p
structure Least (w : Nat → Nat → Int) (R P : Nat → Nat → Prop) (s : Option (Nat × Nat)) : Prop where
  le : ∀ a b, P a b → ∃ p, s = some p ∧ w p.1 p.2 ≤ w a b
  lt : ∀ p, s = some p → R p.1 p.2
theorem Least.upd {w : Nat → Nat → Int} {R P : Nat → Nat → Prop} {s : Option (Nat × Nat)} {a b : Nat} (h : Least w R P s) (hab : R a b) : Least w R (fun x y => P x y ∨ (x = a ∧ y = b)) (updP w s a b) := by
  cases s with
  | none =>
    refine ⟨fun x y hp => ?_, fun p hp => ?_⟩
    · rcases hp with hp | ⟨rfl, rfl⟩
      · obtain ⟨p, h1, _⟩ := h.le x y hp
        cases h1
      · exact ⟨(x, y), rfl, Int.le_refl _⟩
    · cases hp
      exact hab
  | some q =>
    unfold updP
    by_cases hlt : w a b < w q.1 q.2
    · simp only [hlt, if_true]
      refine ⟨fun x y hp => ?_, fun p hp => ?_⟩
      · refine ⟨(a, b), rfl, ?_⟩
        show w a b ≤ w x y
        rcases hp with hp | ⟨rfl, rfl⟩
        · obtain ⟨p, h1, h2⟩ := h.le x y hp
          cases h1
          omega
        · exact Int.le_refl _
      · cases hp
        exact hab
    · simp only [hlt, if_false]
      refine ⟨fun x y hp => ?_, h.lt⟩
      rcases hp with hp | ⟨rfl, rfl⟩
      · exact h.le x y hp
      · exact ⟨q, rfl, by omega⟩
theorem Least.sub {w : Nat → Nat → Int} {R P P' : Nat → Nat → Prop} {s : Option (Nat × Nat)} (h : Least w R P s) (hp : ∀ a b, P' a b → P a b) : Least w R P' s := ⟨fun a b h' => h.le a b (hp a b h'), h.lt⟩

/-- A loop over some places. -/
theorem loop_range {body : List D → Option Out} (lo n : Nat) (hlo : lo ≤ n) (st : Nat → List D) (o : Out) (hs : ∀ i, lo ≤ i → i < n → body (st i) = some (.nrm (st (i + 1)))) (he : body (st n) = some o) (ho : o.ends = true) {s0 : List D} (h : s0 = st lo) : loopC body s0 = some o :=
  loop_for (n - lo) (fun j => st (lo + j)) o (fun i hi => hs (lo + i) (by omega) (by omega)) (by simp only [show lo + (n - lo) = n from by omega]; exact he) ho h

/-- What is gathered over some pairs of a row. -/
def rowP (g : Nat → Nat → Bool) (w : Nat → Nat → Int) (a : Nat) (s : Option (Nat × Nat)) : Nat → Option (Nat × Nat)
  | 0 => s
  | b + 1 => if g a b = true then updP w (rowP g w a s b) a b else rowP g w a s b
def allP (g : Nat → Nat → Bool) (w : Nat → Nat → Int) (n : Nat) : Nat → Option (Nat × Nat)
  | 0 => none
  | i + 1 => rowP g w i (allP g w n i) n
theorem rowP_start {g : Nat → Nat → Bool} {w : Nat → Nat → Int} {a : Nat} {s : Option (Nat × Nat)} : ∀ (b : Nat), (∀ c, c < b → g a c = false) → rowP g w a s b = s
  | 0, _ => rfl
  | b + 1, h => by
    rw [rowP, h b (by omega), rowP_start b fun c hc => h c (by omega)]
    rfl
theorem rowP_least {g : Nat → Nat → Bool} {w : Nat → Nat → Int} {R P : Nat → Nat → Prop} {a : Nat} {s : Option (Nat × Nat)} (h : Least w R P s) : ∀ (b : Nat), (∀ c, c < b → g a c = true → R a c) → Least w R (fun x y => P x y ∨ (x = a ∧ y < b ∧ g a y = true)) (rowP g w a s b)
  | 0, _ => h.sub fun x y hp => by
    rcases hp with hp | ⟨_, hp, _⟩
    · exact hp
    · omega
  | b + 1, hr => by
    have ih := rowP_least h b fun c hc => hr c (by omega)
    rw [rowP]
    split
    · rename_i hg
      refine (ih.upd (hr b (by omega) hg)).sub fun x y hp => ?_
      rcases hp with hp | ⟨h1, h2, h3⟩
      · exact .inl (.inl hp)
      · by_cases e : y = b
        · exact .inr ⟨h1, e⟩
        · exact .inl (.inr ⟨h1, by omega, h3⟩)
    · rename_i hg
      refine ih.sub fun x y hp => ?_
      rcases hp with hp | ⟨h1, h2, h3⟩
      · exact .inl hp
      · refine .inr ⟨h1, ?_, h3⟩
        rcases Nat.lt_or_ge y b with h4 | h4
        · exact h4
        · have : y = b := by omega
          subst this
          exact absurd h3 hg
theorem allP_least {g : Nat → Nat → Bool} {w : Nat → Nat → Int} {R : Nat → Nat → Prop} {n : Nat} : ∀ (i : Nat), (∀ a c, a < i → c < n → g a c = true → R a c) → Least w R (fun x y => x < i ∧ y < n ∧ g x y = true) (allP g w n i)
  | 0, _ => ⟨fun a b h => absurd h.1 (by omega), fun p h => by cases h⟩
  | i + 1, hr => by
    have ih := allP_least (n := n) (w := w) i fun a c ha => hr a c (by omega)
    rw [allP]
    refine (rowP_least ih n fun c hc hg => hr i c (by omega) hc hg).sub fun x y hp => ?_
    obtain ⟨h1, h2, h3⟩ := hp
    by_cases e : x = i
    · subst e
      exact .inr ⟨rfl, h2, h3⟩
    · exact .inl ⟨by omega, h2, h3⟩

/-! ### the way of the hand in a case is no less than nothing -/
theorem absW_small {n : Int} (h : -1000 ≤ n ∧ n ≤ 1000) : 0 ≤ absW n ∧ absW n ≤ 1000 ∧ (n ≤ absW n ∧ -n ≤ absW n ∧ (absW n = n ∨ absW n = -n)) := by
  unfold absW
  rw [wrap_id (by omega) (by omega)]
  split <;> omega
def inB (l : List Bx) : Prop := ∀ x ∈ l, (0 ≤ x.2.1 ∧ x.2.1 ≤ 9) ∧ (0 ≤ x.2.2.1 ∧ x.2.2.1 ≤ 9)
theorem wayF_in {l : List Bx} (hl : inB l) {a : Int × Int × Int} {c : ByteArray} {M : Int} (ha : 0 ≤ a.1 ∧ a.1 ≤ M) (hM : M ≤ 1000000) (h1 : 0 ≤ a.2.1 ∧ a.2.1 ≤ 9) (h2 : 0 ≤ a.2.2 ∧ a.2.2 ≤ 9) : (0 ≤ (wayF l a c).1 ∧ (wayF l a c).1 ≤ M + 18) ∧ (0 ≤ (wayF l a c).2.1 ∧ (wayF l a c).2.1 ≤ 9) ∧ (0 ≤ (wayF l a c).2.2 ∧ (wayF l a c).2.2 ≤ 9) := by
  have hb : ∀ b : Bx, b = l.getD (fC (cods l) c).toNat (ByteArray.empty, 0, 0, 0) → (0 ≤ b.2.1 ∧ b.2.1 ≤ 9) ∧ (0 ≤ b.2.2.1 ∧ b.2.2.1 ≤ 9) := by
    rintro b rfl
    rw [List.getD_eq_getElem?_getD]
    cases h : l[(fC (cods l) c).toNat]? with
    | none => simp
    | some x => exact hl x (List.mem_of_getElem? h)
  unfold wayF
  generalize hq : l.getD (fC (cods l) c).toNat (ByteArray.empty, 0, 0, 0) = b
  obtain ⟨g1, g2⟩ := hb b hq.symm
  have e1 : IntKind.i64.wrap (b.2.1 - a.2.1) = b.2.1 - a.2.1 := wrap_id (by omega) (by omega)
  have e2 : IntKind.i64.wrap (b.2.2.1 - a.2.2) = b.2.2.1 - a.2.2 := wrap_id (by omega) (by omega)
  have w1 := absW_small (n := b.2.1 - a.2.1) (by omega)
  have w2 := absW_small (n := b.2.2.1 - a.2.2) (by omega)
  simp only [e1, e2]
  have e3 : IntKind.i64.wrap (absW (b.2.1 - a.2.1) + absW (b.2.2.1 - a.2.2)) = absW (b.2.1 - a.2.1) + absW (b.2.2.1 - a.2.2) := wrap_id (by omega) (by omega)
  rw [e3, wrap_id (by omega) (by omega)]
  omega
theorem wayOf_nonneg {l : List Bx} (hl : inB l) (cs : List ByteArray) (hc : cs.length ≤ 60) : 0 ≤ wayOf l cs := by
  have key : ∀ (m : List ByteArray) (a : Int × Int × Int) (M : Int), (0 ≤ a.1 ∧ a.1 ≤ M) → (0 ≤ a.2.1 ∧ a.2.1 ≤ 9) → (0 ≤ a.2.2 ∧ a.2.2 ≤ 9) → M + 18 * m.length ≤ 1000000 → 0 ≤ (m.foldl (wayF l) a).1 := by
    intro m
    induction m with
    | nil => exact fun a M h1 _ _ _ => h1.1
    | cons c m ih =>
      intro a M h1 h2 h3 h4
      simp only [List.length_cons, Int.natCast_add, Int.natCast_one] at h4
      obtain ⟨g1, g2, g3⟩ := wayF_in hl (c := c) h1 (by omega) h2 h3
      exact ih _ (M + 18) g1 g2 g3 (by omega)
  exact key cs (0, 0, 0) 0 (by simp) (by simp) (by simp) (by omega)

/-! ### what is a case -/
theorem allI_of {β : Type} {p : Nat → β → Bool} : ∀ {l : List β} {i : Nat}, (∀ (j : Nat) (hj : j < l.length), p (i + j) l[j] = true) → allI p i l = true
  | [], _, _ => rfl
  | x :: l, i, h => by
    simp only [allI, Bool.and_eq_true]
    refine ⟨h 0 (by simp), allI_of fun j hj => ?_⟩
    have := h (j + 1) (by simpa using hj)
    rw [show i + (j + 1) = i + 1 + j from by omega] at this
    exact this
structure Case (l : List Bx) : Prop where
  one : ∀ (j : Nat) (hj : j < l.length), isBx l[j] = true
  asc : ∀ (j : Nat) (hj : j + 1 < l.length), Op.bytesLess (l[j]'(by omega)).1.toList l[j + 1].1.toList = true
  apart : ∀ (i j : Nat) (hij : i < j) (hj : j < l.length), sameP l[j] (l[i]'(by omega)) = false
  len : 1 ≤ l.length ∧ l.length ≤ 32
theorem goodC_iff {l : List Bx} : goodC l = true ↔ Case l := by
  constructor
  · intro h
    simp only [goodC, Bool.and_eq_true, decide_eq_true_eq] at h
    have hp : ∀ (j : Nat) (hj : j < l.length), pBx l j l[j] = true := fun j hj => by
      have := allI_at h.1 j hj
      rwa [Nat.zero_add] at this
    refine ⟨fun j hj => ?_, fun j hj => ?_, fun i j hij hj => ?_, by omega⟩
    · have := hp j hj
      simp only [pBx, Bool.and_eq_true] at this
      exact this.1.1
    · have := hp (j + 1) hj
      simp only [pBx, Bool.and_eq_true, Bool.not_eq_true', Bool.and_eq_false_iff, decide_eq_false_iff_not, Bool.not_eq_false'] at this
      have h2 := this.1.2.resolve_left (by omega)
      rw [Nat.add_sub_cancel, List.getD_eq_getElem?_getD, List.getElem?_eq_getElem (by omega)] at h2
      exact h2
    · have := hp j hj
      simp only [pBx, Bool.and_eq_true] at this
      have h2 := allI_at this.2 i (by simp; omega)
      simpa using h2
  · intro h
    simp only [goodC, Bool.and_eq_true, decide_eq_true_eq]
    have hl := h.len
    refine ⟨allI_of fun j hj => ?_, by omega⟩
    rw [Nat.zero_add]
    simp only [pBx, Bool.and_eq_true]
    refine ⟨⟨h.one j hj, ?_⟩, allI_of fun i hi => ?_⟩
    · cases j with
      | zero => simp
      | succ j =>
        have := h.asc j hj
        have hj' : j < l.length := by omega
        simp [hj', this]
    · have hi' : i < j := by
        simp at hi
        omega
      have := h.apart i j hi' hj
      simp [this]
def other (a b m : Nat) : Nat := if m = b then a else if m = a then b else m
theorem swapB_get {l : List Bx} {a b : Nat} (hab : a < b) (hb : b < l.length) (m : Nat) (hm : m < l.length) : ∃ h : other a b m < l.length, (swapB l a b)[m]'(by rw [swapB_len]; exact hm) = (l[m].1, l[other a b m].2.1, l[other a b m].2.2.1, l[m].2.2.2) := by
  have ha : a < l.length := by omega
  refine ⟨by unfold other; split <;> (try split) <;> omega, ?_⟩
  simp only [swapB, getB ha, getB hb, List.getElem_set, other]
  by_cases h1 : b = m
  · subst h1
    simp
  · by_cases h2 : a = m
    · subst h2
      have h3 : ¬ a = b := by omega
      simp [h1, h3]
    · have h3 : ¬ m = b := fun e => h1 e.symm
      have h4 : ¬ m = a := fun e => h2 e.symm
      simp [h1, h2, h3, h4]
theorem Case.swap {l : List Bx} (h : Case l) {a b : Nat} (hab : a < b) (hb : b < l.length) : Case (swapB l a b) := by
  have hlen : (swapB l a b).length = l.length := swapB_len l a b
  have one : ∀ (j : Nat) (hj : j < l.length), (letters l[j].1 1 3 = true ∧ (0 ≤ l[j].2.1 ∧ l[j].2.1 ≤ 9)) ∧ (0 ≤ l[j].2.2.1 ∧ l[j].2.2.1 ≤ 9) ∧ (0 ≤ l[j].2.2.2 ∧ l[j].2.2.2 ≤ 9999) := fun j hj => by
    have := h.one j hj
    simp only [isBx, Bool.and_eq_true, decide_eq_true_eq] at this
    exact ⟨this.1.1, this.1.2, this.2⟩
  refine ⟨fun j hj => ?_, fun j hj => ?_, fun i j hij hj => ?_, by rw [hlen]; exact h.len⟩
  · rw [hlen] at hj
    obtain ⟨h1, h2⟩ := swapB_get hab hb j hj
    rw [h2]
    have o1 := one j hj
    have o2 := one _ h1
    simp only [isBx, Bool.and_eq_true, decide_eq_true_eq]
    exact ⟨⟨⟨o1.1.1, o2.1.2⟩, o2.2.1⟩, o1.2.2⟩
  · rw [hlen] at hj
    obtain ⟨_, h2⟩ := swapB_get hab hb j (by omega)
    obtain ⟨_, h4⟩ := swapB_get hab hb (j + 1) hj
    rw [h2, h4]
    exact h.asc j hj
  · rw [hlen] at hj
    obtain ⟨h1, h2⟩ := swapB_get hab hb j hj
    obtain ⟨h3, h4⟩ := swapB_get hab hb i (by omega)
    rw [h2, h4]
    have hne : other a b i ≠ other a b j := by
      unfold other
      split <;> split <;> (try split) <;> (try split) <;> omega
    simp only [sameP]
    rcases Nat.lt_or_gt_of_ne hne with hlt | hlt
    · exact h.apart _ _ hlt h1
    · have := h.apart _ _ hlt h3
      simp only [sameP] at this
      rw [← this]
      simp only [eq_comm]
theorem Case.inB {l : List Bx} (h : Case l) : inB l := fun x hx => by
  obtain ⟨j, hj, rfl⟩ := List.mem_iff_getElem.1 hx
  have := h.one j hj
  simp only [isBx, Bool.and_eq_true, decide_eq_true_eq] at this
  exact ⟨this.1.1.2, this.1.2⟩
theorem swapB_ok {l : List Bx} (h : okBx l) {a b : Nat} (ha : a < l.length) (hb : b < l.length) : okBx (swapB l a b) := okBx_cods h (swapB_cods l a b ha hb)
theorem swapB_in {l : List Bx} {cs : List ByteArray} (h : allIn l cs) {a b : Nat} (ha : a < l.length) (hb : b < l.length) : allIn (swapB l a b) cs := fun c hc => by
  rw [swapB_cods l a b ha hb, swapB_len]
  exact h c hc
theorem okWay_parts {l : List Bx} {cs : List ByteArray} (h : okWay l cs = true) : allIn l cs ∧ Case l ∧ cs.length ≤ 60 := by
  unfold okWay at h
  simp only [Bool.and_eq_true, decide_eq_true_eq] at h
  exact ⟨hasAll_in.1 h.1.1, goodC_iff.1 h.1.2, by omega⟩
theorem okWay_swap {l : List Bx} {cs : List ByteArray} (h : okWay l cs = true) {a b : Nat} (hab : a < b) (hb : b < l.length) : okWay (swapB l a b) cs = true := by
  obtain ⟨h1, h2, h3⟩ := okWay_parts h
  have ha : a < l.length := by omega
  unfold okWay
  rw [hasAll_in.2 (swapB_in h1 ha hb), goodC_iff.2 (h2.swap hab hb)]
  simp
  omega

end Go.Proofs.Ytcnkgmbnmndahaa
