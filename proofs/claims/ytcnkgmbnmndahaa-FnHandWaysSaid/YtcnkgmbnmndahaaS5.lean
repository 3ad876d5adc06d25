/-
  How a word is set: plain laws.
-/
import Derived.Test.YtcnkgmbnmndahaaS4
import Derived.Test.YtcnkgmbnmndahaaT5
namespace Go.Proofs.Ytcnkgmbnmndahaa
open Go Go.V
set_option linter.unusedSimpArgs false

theorem foldI_inv {α β : Type} (f : Nat → α → β → α) (l : List β) (Inv : Nat → α → Prop) (hs : ∀ (i : Nat) (a : α) (hi : i < l.length), Inv i a → Inv (i + 1) (f i a l[i])) (a : α) (h0 : Inv 0 a) : Inv l.length (foldI f 0 l a) := by
  have key : ∀ (n i : Nat) (a : α), i + n = l.length → Inv i a → Inv l.length (foldI f i (l.drop i) a) := by
    intro n
    induction n with
    | zero =>
      intro i a hi hI
      have : i = l.length := by omega
      subst this
      rw [List.drop_length]
      exact hI
    | succ n ih =>
      intro i a hi hI
      have hlt : i < l.length := by omega
      rw [List.drop_eq_getElem_cons hlt]
      exact ih (i + 1) _ (by omega) (hs i a hlt hI)
  simpa using key l.length 0 a (by omega) h0

theorem chars_inj {a b : ByteArray} (h : chars a = chars b) : a = b := by
  cases a with | mk a => cases b with | mk b =>
    cases a with | mk a => cases b with | mk b =>
      simp [chars] at h
      rw [h]
theorem chars_extract (s : ByteArray) (i j : Nat) : chars (s.extract i j) = ((chars s).take j).drop i := by
  simp [chars, List.drop_take]
theorem sliceS {s : ByteArray} {z i j : Nat} (h1 : i ≤ j) (h2 : j ≤ s.size) : sliceD true z (T s) (I (i : Int)) (I (j : Int)) = some (T (s.extract i j)) := by
  simp only [sliceD, Int.toNat_natCast]
  rw [if_pos (by omega)]
theorem sliceHiS {s : ByteArray} {z i : Nat} (h : i ≤ s.size) : sliceHi true z (T s) (I (i : Int)) = some (T (s.extract i s.size)) := by
  simp only [sliceHi, Int.toNat_natCast]
  rw [if_pos (by omega)]

/-- Does a text begin with a code? -/
def Pre (c : ByteArray) (w : List UInt8) : Prop := w.take (chars c).length = chars c
instance (c : ByteArray) (w : List UInt8) : Decidable (Pre c w) := by unfold Pre; infer_instance
theorem Pre.len {c : ByteArray} {w : List UInt8} (h : Pre c w) : (chars c).length ≤ w.length := by
  have := congrArg List.length h
  rw [List.length_take] at this
  omega
theorem e_HasPrefix (s p : ByteArray) : F_strings_HasPrefix [T s, T p] = some (.ret [B (decide (Pre p (chars s)))] []) := by
  have e : F_internal_stringslite_HasPrefix [T s, T p] = some (.ret [B (decide (Pre p (chars s)))] []) := by
    rw [t_internal_stringslite_HasPrefix]
    by_cases h : p.size ≤ s.size
    · have hs := sliceS (z := 0) (Nat.zero_le p.size) h
      have hp : (s.extract 0 p.size = p) ↔ Pre p (chars s) := by
        constructor
        · intro h'
          have := congrArg chars h'
          rw [chars_extract, List.drop_zero] at this
          exact this
        · intro h'
          refine chars_inj ?_
          rw [chars_extract, List.drop_zero]
          exact h'
      have h0 : sliceD true 0 (T s) (D.v (.int .i64 0)) (I (p.size : Int)) = some (T (s.extract 0 p.size)) := hs
      by_cases hq : Pre p (chars s)
      · simp -implicitDefEqProofs [h, h0, hq, hp.2 hq]
      · have hq' : ¬ s.extract 0 p.size = p := fun e => hq (hp.1 e)
        simp -implicitDefEqProofs [h, h0, hq, hq']
    · have hq : ¬ Pre p (chars s) := fun h' => h h'.len
      simp -implicitDefEqProofs [h, hq]
  rw [t_strings_HasPrefix]
  simp -implicitDefEqProofs [e]

def Best (cs : List ByteArray) (w : List UInt8) (i : Nat) : Prop := ∃ h : i < cs.length, Pre cs[i] w ∧ ∀ (j : Nat) (hj : j < cs.length), Pre cs[j] w → (chars cs[j]).length ≤ (chars cs[i]).length
def NoneOf (cs : List ByteArray) (w : List UInt8) : Prop := ∀ (j : Nat) (hj : j < cs.length), ¬ Pre cs[j] w
/-- Codes: different ones, of one to three letters. -/
structure Codes (cs : List ByteArray) : Prop where
  len : ∀ (j : Nat) (hj : j < cs.length), 1 ≤ (chars cs[j]).length ∧ (chars cs[j]).length ≤ 3
  inj : ∀ (i j : Nat) (hi : i < cs.length) (hj : j < cs.length), cs[i] = cs[j] → i = j
theorem Best.uniq {cs : List ByteArray} {w : List UInt8} (hc : Codes cs) {i j : Nat} (hi : Best cs w i) (hj : Best cs w j) : i = j := by
  obtain ⟨h1, p1, m1⟩ := hi
  obtain ⟨h2, p2, m2⟩ := hj
  have e : (chars cs[i]).length = (chars cs[j]).length := Nat.le_antisymm (m2 i h1 p1) (m1 j h2 p2)
  refine hc.inj i j h1 h2 (chars_inj ?_)
  rw [← p1, ← p2, e]
/-- What a search for the best code gives. -/
def BN (cs : List ByteArray) (w : List UInt8) (b : Int) : Prop := (b = -1 ∧ NoneOf cs w) ∨ ∃ k : Nat, b = k ∧ Best cs w k
theorem BN.best {cs : List ByteArray} {w : List UInt8} (hc : Codes cs) {b : Int} (h : BN cs w b) {i : Nat} (hi : Best cs w i) : b = i := by
  rcases h with ⟨_, h⟩ | ⟨k, rfl, h⟩
  · exact absurd hi.2.1 (h i hi.1)
  · rw [h.uniq hc hi]
theorem BN.none {cs : List ByteArray} {w : List UInt8} {b : Int} (h : BN cs w b) (hi : NoneOf cs w) : b = -1 := by
  rcases h with ⟨h, _⟩ | ⟨k, rfl, h⟩
  · exact h
  · exact absurd h.2.1 (hi k h.1)

inductive Sets (cs : List ByteArray) : List UInt8 → List Nat → Option (List Nat) → Prop where
  | nil {acc : List Nat} : Sets cs [] acc (some acc)
  | fail {w : List UInt8} {acc : List Nat} : w ≠ [] → NoneOf cs w → Sets cs w acc none
  | step {w : List UInt8} {acc : List Nat} {i : Nat} {r : Option (List Nat)} : w ≠ [] → Best cs w i → Sets cs (w.drop (chars (cs.getD i ByteArray.empty)).length) (acc ++ [i]) r → Sets cs w acc r
theorem best_ex {cs : List ByteArray} {w : List UInt8} (h : ¬ NoneOf cs w) : ∃ i, Best cs w i := by
  have key : ∀ n, n ≤ cs.length → (∀ (j : Nat) (hj : j < cs.length), j < n → ¬ Pre cs[j] w) ∨ ∃ (i : Nat) (hi : i < cs.length), i < n ∧ Pre cs[i] w ∧ ∀ (j : Nat) (hj : j < cs.length), j < n → Pre cs[j] w → (chars cs[j]).length ≤ (chars cs[i]).length := by
    intro n
    induction n with
    | zero => exact fun _ => .inl fun j _ hj => absurd hj (by omega)
    | succ n ih =>
      intro hn
      by_cases hp : Pre cs[n] w
      · rcases ih (by omega) with h | ⟨i, hi, h1, h2, h3⟩
        · refine .inr ⟨n, by omega, by omega, hp, fun j hj hjn hpj => ?_⟩
          rcases Nat.lt_or_ge j n with h' | h'
          · exact absurd hpj (h j hj h')
          · have : j = n := by omega
            subst this
            exact Nat.le_refl _
        · by_cases hl : (chars cs[n]).length ≤ (chars cs[i]).length
          · refine .inr ⟨i, hi, by omega, h2, fun j hj hjn hpj => ?_⟩
            rcases Nat.lt_or_ge j n with h' | h'
            · exact h3 j hj h' hpj
            · have : j = n := by omega
              subst this
              exact hl
          · refine .inr ⟨n, by omega, by omega, hp, fun j hj hjn hpj => ?_⟩
            rcases Nat.lt_or_ge j n with h' | h'
            · exact Nat.le_trans (h3 j hj h' hpj) (by omega)
            · have : j = n := by omega
              subst this
              exact Nat.le_refl _
      · rcases ih (by omega) with h | ⟨i, hi, h1, h2, h3⟩
        · refine .inl fun j hj hjn hpj => ?_
          rcases Nat.lt_or_ge j n with h' | h'
          · exact h j hj h' hpj
          · have : j = n := by omega
            subst this
            exact hp hpj
        · refine .inr ⟨i, hi, by omega, h2, fun j hj hjn hpj => ?_⟩
          rcases Nat.lt_or_ge j n with h' | h'
          · exact h3 j hj h' hpj
          · have : j = n := by omega
            subst this
            exact absurd hpj hp
  rcases key cs.length (Nat.le_refl _) with h' | ⟨i, hi, _, h2, h3⟩
  · exact absurd (fun j hj => h' j hj hj) h
  · exact ⟨i, hi, h2, fun j hj => h3 j hj hj⟩
theorem getD_eq {cs : List ByteArray} {i : Nat} (h : i < cs.length) : cs.getD i ByteArray.empty = cs[i] := by
  simp [List.getD_eq_getElem?_getD, h]
theorem sets_total {cs : List ByteArray} (hc : Codes cs) : ∀ (n : Nat) (w : List UInt8) (acc : List Nat), w.length ≤ n → ∃ r, Sets cs w acc r
  | 0, w, acc, h => by
    have : w = [] := List.eq_nil_of_length_eq_zero (by omega)
    subst this
    exact ⟨_, .nil⟩
  | n + 1, w, acc, h => by
    by_cases hw : w = []
    · subst hw
      exact ⟨_, .nil⟩
    · by_cases hN : NoneOf cs w
      · exact ⟨_, .fail hw hN⟩
      · obtain ⟨i, hi⟩ := best_ex hN
        have h1 := hc.len i hi.1
        obtain ⟨r, hr⟩ := sets_total hc n (w.drop (chars (cs.getD i ByteArray.empty)).length) (acc ++ [i]) (by
          rw [getD_eq hi.1, List.length_drop]
          have : 0 < w.length := List.length_pos_iff.2 hw
          omega)
        exact ⟨r, .step hw hi hr⟩
theorem sets_lt {cs : List ByteArray} (hc : Codes cs) {w : List UInt8} {acc : List Nat} {r : Option (List Nat)} (h : Sets cs w acc r) : (∀ i ∈ acc, i < cs.length) → ∀ l, r = some l → (∀ i ∈ l, i < cs.length) ∧ l.length ≤ acc.length + w.length := by
  induction h with
  | nil =>
    intro h l e
    cases e
    exact ⟨h, by simp⟩
  | fail => intro _ l e; cases e
  | step hw hb _ ih =>
    rename_i w acc i r _
    intro h l e
    obtain ⟨h1, h2⟩ := ih (fun j hj => by
      rcases List.mem_append.1 hj with hj | hj
      · exact h j hj
      · simp at hj
        subst hj
        exact hb.1) l e
    refine ⟨h1, ?_⟩
    rw [List.length_append, List.length_singleton, List.length_drop, getD_eq hb.1] at h2
    have := hc.len i hb.1
    have := hb.2.1.len
    omega

theorem sets_runs {cs : List ByteArray} (hc : Codes cs) {body : List D → Option Out} (w : List UInt8) (st : Nat → List Nat → List D) (fin : Option (List Nat) → Out) (hfin : ∀ r, (fin r).ends = true)
    (h0 : ∀ acc, acc.length ≤ w.length → body (st w.length acc) = some (fin (some acc))) (hf : ∀ at_ acc, at_ < w.length → acc.length ≤ at_ → NoneOf cs (w.drop at_) → body (st at_ acc) = some (fin none))
    (hs : ∀ at_ acc i (hb : Best cs (w.drop at_) i), at_ < w.length → acc.length ≤ at_ → at_ + (chars (cs[i]'hb.1)).length ≤ w.length → body (st at_ acc) = some (.nrm (st (at_ + (chars (cs[i]'hb.1)).length) (acc ++ [i])))) {rest : List UInt8} {acc : List Nat} {r : Option (List Nat)} (h : Sets cs rest acc r) :
    ∀ at_, at_ ≤ w.length → acc.length ≤ at_ → rest = w.drop at_ → Runs body (st at_ acc) (fin r) := by
  induction h with
  | nil =>
    intro at_ h1 h2 h3
    have := congrArg List.length h3
    rw [List.length_drop, List.length_nil] at this
    have : at_ = w.length := by omega
    subst this
    exact Runs.one (h0 _ h2) (hfin _)
  | fail hw hN =>
    intro at_ h1 h2 h3
    subst h3
    have : at_ < w.length := by
      rcases Nat.lt_or_ge at_ w.length with h | h
      · exact h
      · exact absurd (List.drop_eq_nil_of_le h) hw
    exact Runs.one (hf at_ _ this h2 hN) (hfin _)
  | step hw hb _ ih =>
    rename_i w' acc i r _
    intro at_ h1 h2 h3
    subst h3
    have hlt : at_ < w.length := by
      rcases Nat.lt_or_ge at_ w.length with h | h
      · exact h
      · exact absurd (List.drop_eq_nil_of_le h) hw
    have hl := hb.2.1.len
    rw [List.length_drop] at hl
    have h1' := hc.len i hb.1
    rw [getD_eq hb.1] at ih
    refine .nrm (hs at_ acc i hb hlt h2 (by omega)) (ih _ (by omega) (by rw [List.length_append, List.length_singleton]; omega) ?_)
    rw [List.drop_drop]

end Go.Proofs.Ytcnkgmbnmndahaa
