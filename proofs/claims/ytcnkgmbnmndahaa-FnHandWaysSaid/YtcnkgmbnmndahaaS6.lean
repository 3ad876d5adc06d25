/-
  How a word is set: what the functions compute.
-/
import Derived.Test.YtcnkgmbnmndahaaS5
namespace Go.Proofs.Ytcnkgmbnmndahaa
open Go Go.V
set_option linter.unusedSimpArgs false

abbrev so (c : ByteArray) : D := .agg [T c, I 1]
abbrev fD (cs : List ByteArray) : D := .arr 2 (cs.map so)
abbrev nats (l : List Nat) : D := .arr 1 (l.map fun (i : Nat) => I (i : Int))
theorem isV_so (c : ByteArray) : (so c).isV = true := rfl
theorem nats_app (l : List Nat) (i : Nat) (h : l.length ≤ 1048576) : appD 1 8 (nats l) (.arr 1 [I (i : Int)]) = some (nats (l ++ [i])) := by
  rw [appD_eq, if_pos (by simp only [List.length_map, List.length_singleton]; omega)]
  simp
theorem nats_one (i : Nat) : mkArr 1 [I (i : Int)] = some (.arr 1 [I (i : Int)]) := by simp [mkArr, lenOkD]
theorem nats_chk (i : Nat) : chkA (.arr 1 [I (i : Int)]) = some (.arr 1 [I (i : Int)]) := by simp [chkA, D.isV]

theorem findI_some {β : Type} {p : β → Bool} : ∀ {l : List β} {i j : Nat}, findI p i l = some j → i ≤ j ∧ ∃ h : j - i < l.length, p l[j - i] = true
  | [], i, j, h => by simp [findI] at h
  | x :: l, i, j, h => by
    simp only [findI] at h
    split at h
    · rename_i hp
      cases h
      exact ⟨Nat.le_refl _, by simp, by simpa using hp⟩
    · obtain ⟨h1, h2, h3⟩ := findI_some h
      refine ⟨by omega, by simp; omega, ?_⟩
      have : j - i = (j - (i + 1)) + 1 := by omega
      simp only [this, List.getElem_cons_succ]
      exact h3
theorem findI_none {β : Type} {p : β → Bool} : ∀ {l : List β} {i : Nat}, findI p i l = none → ∀ (j : Nat) (hj : j < l.length), p l[j] = false
  | [], i, _, j, hj => by simp at hj
  | x :: l, i, h, j, hj => by
    simp only [findI] at h
    split at h
    · cases h
    · rename_i hp
      cases j with
      | zero => simpa using hp
      | succ j => exact findI_none h j (by simpa using hj)
def fC (cs : List ByteArray) (c : ByteArray) : Int := (findI (fun b : ByteArray => decide (b = c)) 0 cs).elim (-1) fun j => (j : Int)
theorem e_spec_tyFind (cs : List ByteArray) (c : ByteArray) (h : cs.length ≤ 1048576) : F_spec_tyFind [fD cs, T c] = some (.ret [I (fC cs c)] []) := by
  rw [t_spec_tyFind]
  simp only [lenD_arr, List.length_map, Option.bind_some]
  refine loop_bind _ (loop_find cs (fun i => [T c, fD cs, I cs.length, I i]) (fun b : ByteArray => decide (b = c)) (fun j => .ret [I j] []) (.ext 0 []) (fun i hi => ?_) ?_ (fun _ => rfl) rfl rfl) ?_
  · have hw : IntKind.i64.wrap ((i : Int) + 1) = (i : Int) + 1 := wrap_id (by omega) (by omega)
    by_cases hc : cs[i] = c <;> simp -implicitDefEqProofs [hi, hw, hc]
  · simp
  · unfold fC
    cases findI (fun b : ByteArray => decide (b = c)) 0 cs <;> simp -implicitDefEqProofs
theorem fC_is {cs : List ByteArray} {c : ByteArray} : (fC cs c = -1 ∧ ∀ (j : Nat) (hj : j < cs.length), cs[j] ≠ c) ∨ ∃ (j : Nat) (hj : j < cs.length), fC cs c = j ∧ cs[j] = c := by
  unfold fC
  cases h : findI (fun b : ByteArray => decide (b = c)) 0 cs with
  | none => exact .inl ⟨rfl, fun j hj => by simpa using findI_none h j hj⟩
  | some j =>
    obtain ⟨_, h1, h2⟩ := findI_some h
    exact .inr ⟨j, by simpa using h1, rfl, by simpa using h2⟩
theorem e_spec_l1Least (a b : Int) : F_spec_l1Least [I a, I b] = some (.ret [I (if a < b then a else b)] []) := by
  rw [t_spec_l1Least]
  by_cases h : a < b <;> simp -implicitDefEqProofs [h]

/-- What is told of a word that is set. -/
def outS (r : Option (List Nat)) : Out := match r with
  | some l => .ext 0 [nats l]
  | none => .ret [nats [], B false] []
def setR (r : Option (List Nat)) : Option Out := some (.ret [nats (r.getD []), B r.isSome] [])
theorem tySet_inner {cs : List ByteArray} (hc : Codes cs) (hl : cs.length ≤ 1048576) (s : ByteArray) (hs : s.size ≤ 1000) (at_ : Nat) (acc : List Nat) (hlt' : at_ < s.size) : ∃ m : Nat, F_spec_l1Least [I 3, I ((s.size - at_ : Nat) : Int)] = some (.ret [I m] []) ∧
    ∀ (R : Option Out → Prop) (body : List D → Option Out) (K : Out → Option Out), (∀ (b : Int) (n : Nat), body [fD cs, T s, nats acc, I at_, I b, I n] = if 0 < n ∧ b < 0 then (((some (IntKind.i64.wrap ((at_ : Int) + n)) : Option Int).bind fun e => sliceD true 0 (T s) (I at_) (I e)).bind fun z => callK (F_spec_tyFind [fD cs, z]) fun rs _ => some (.nrm [fD cs, T s, nats acc, I at_, sl rs 0, I (IntKind.i64.wrap ((n : Int) - 1))])) else some (.ext 2 [fD cs, T s, nats acc, I at_, I b])) →
        (∀ b, BN cs ((chars s).drop at_) b → R (K (.ext 2 [fD cs, T s, nats acc, I at_, I b]))) → R ((loopC body [fD cs, T s, nats acc, I at_, I (-1), I m]).bind K) := by
  have hsz : s.size = (chars s).length := rfl
  obtain ⟨m, hm1, hm2, hm3⟩ : ∃ m : Nat, (if (3 : Int) < ((s.size - at_ : Nat) : Int) then (3 : Int) else ((s.size - at_ : Nat) : Int)) = m ∧ m ≤ 3 ∧ (at_ + m ≤ s.size ∧ (m = 3 ∨ at_ + m = s.size)) := by
    by_cases h3 : (3 : Int) < ((s.size - at_ : Nat) : Int)
    · exact ⟨3, by rw [if_pos h3]; rfl, by omega, by omega, .inl rfl⟩
    · exact ⟨s.size - at_, by rw [if_neg h3], by omega, by omega, .inr (by omega)⟩
  have el := e_spec_l1Least 3 ((s.size - at_ : Nat) : Int)
  rw [hm1] at el
  refine ⟨m, el, ?_⟩
  intro R body K hbody hK
  refine loop_wf_bind R (fun a : Int × Nat => [fD cs, T s, nats acc, I at_, I a.1, I a.2]) (fun a => a.2 ≤ 3 ∧ at_ + a.2 ≤ s.size ∧ ((a.1 = -1 ∧ ∀ (j : Nat) (hj : j < cs.length), Pre cs[j] ((chars s).drop at_) → (chars cs[j]).length ≤ a.2) ∨ ∃ k : Nat, a.1 = k ∧ Best cs ((chars s).drop at_) k)) (fun a => a.2)
    (fun o => ∃ b, o = .ext 2 [fD cs, T s, nats acc, I at_, I b] ∧ BN cs ((chars s).drop at_) b) (fun a hI => ?_) (-1, m) ⟨hm2, hm3.1, .inl ⟨rfl, fun j hj hp => ?_⟩⟩ rfl (fun o ho => ?_)
  · obtain ⟨b, n⟩ := a
    obtain ⟨i1, i2, i3⟩ := hI
    simp only at i1 i2 i3
    rw [hbody]
    by_cases hcond : 0 < n ∧ b < 0
    · rw [if_pos hcond]
      have hwn : IntKind.i64.wrap ((at_ : Int) + n) = ((at_ + n : Nat) : Int) := by rw [wrap_id (by omega) (by omega)]; omega
      have hwm : IntKind.i64.wrap ((n : Int) - 1) = ((n - 1 : Nat) : Int) := by rw [wrap_id (by omega) (by omega)]; omega
      have hsl := sliceS (s := s) (z := 0) (i := at_) (j := at_ + n) (by omega) (by omega)
      have hch : chars (s.extract at_ (at_ + n)) = ((chars s).drop at_).take n := by
        rw [chars_extract, List.drop_take]
        congr 1
        omega
      simp only [Option.bind_some, hwn, hwm, hsl, e_spec_tyFind cs _ hl, callK_ret, sl_zero]
      rcases i3 with ⟨rfl, hmax⟩ | ⟨k, rfl, _⟩
      · refine .inl ⟨(fC cs (s.extract at_ (at_ + n)), n - 1), rfl, ⟨by simp only; omega, by simp only; omega, ?_⟩, by simp only; omega⟩
        simp only
        rcases fC_is (cs := cs) (c := s.extract at_ (at_ + n)) with ⟨e1, e2⟩ | ⟨j, hj, e1, e2⟩
        · refine .inl ⟨e1, fun j hj hp => ?_⟩
          have h1 := hmax j hj hp
          rcases Nat.lt_or_ge (chars cs[j]).length n with h' | h'
          · omega
          · exfalso
            have : (chars cs[j]).length = n := by omega
            refine e2 j hj (chars_inj ?_)
            rw [hch, ← hp, this]
        · have hln : (chars cs[j]).length = n := by
            rw [e2, hch, List.length_take, List.length_drop]
            omega
          refine .inr ⟨j, e1, hj, ?_, fun j' hj' hp' => by rw [hln]; exact hmax j' hj' hp'⟩
          unfold Pre
          rw [hln, e2, hch]
      · omega
    · rw [if_neg hcond]
      refine .inr ⟨_, rfl, rfl, b, rfl, ?_⟩
      rcases i3 with ⟨rfl, hmax⟩ | ⟨k, rfl, hk⟩
      · refine .inl ⟨rfl, fun j hj hp => ?_⟩
        have h1 := hmax j hj hp
        have h2 := (hc.len j hj).1
        omega
      · exact .inr ⟨k, rfl, hk⟩
  · have h1 := (hc.len j hj).2
    have h2 := hp.len
    rw [List.length_drop] at h2
    simp only
    omega
  · obtain ⟨b, rfl, hb⟩ := ho
    exact hK b hb
theorem e_spec_tySet {cs : List ByteArray} (hc : Codes cs) (hl : cs.length ≤ 1048576) (s : ByteArray) (hs : s.size ≤ 1000) {r : Option (List Nat)} (h : Sets cs (chars s) [] r) : F_spec_tySet [fD cs, T s] = setR r := by
  rw [t_spec_tySet]
  have hsz : s.size = (chars s).length := rfl
  refine loop_bind (outS r) (Runs.loop (sets_runs hc (chars s) (fun at_ acc => [fD cs, T s, nats acc, I at_]) outS (fun r => by cases r <;> rfl) (fun acc ha => ?_) (fun at_ acc hlt ha hN => ?_) (fun at_ acc i hb hlt ha hle => ?_) h 0 (Nat.zero_le _) (by simp) (by simp))) ?_
  · simp -implicitDefEqProofs [hsz, outS]
  · have hw0 : IntKind.i64.wrap ((s.size : Int) - at_) = ((s.size - at_ : Nat) : Int) := by rw [wrap_id (by omega) (by omega)]; omega
    have hlt' : at_ < s.size := by omega
    obtain ⟨m, el, inner⟩ := tySet_inner hc hl s hs at_ acc hlt'
    simp -implicitDefEqProofs [hlt', hw0, el]
    refine inner (fun X => X = some (outS none)) _ _ (fun b n => ?_) (fun b hb => ?_)
    · by_cases h1 : 0 < n <;> by_cases h2 : b < 0 <;> simp -implicitDefEqProofs [h1, h2]
    · have := hb.none hN
      subst this
      simp -implicitDefEqProofs [outS]
  · have hw0 : IntKind.i64.wrap ((s.size : Int) - at_) = ((s.size - at_ : Nat) : Int) := by rw [wrap_id (by omega) (by omega)]; omega
    have hlt' : at_ < s.size := by omega
    obtain ⟨m, el, inner⟩ := tySet_inner hc hl s hs at_ acc hlt'
    simp -implicitDefEqProofs [hlt', hw0, el]
    refine inner (fun X => X = some (.nrm [fD cs, T s, nats (acc ++ [i]), I ((at_ + (chars (cs[i]'hb.1)).length : Nat) : Int)])) _ _ (fun b n => ?_) (fun b hb' => ?_)
    · by_cases h1 : 0 < n <;> by_cases h2 : b < 0 <;> simp -implicitDefEqProofs [h1, h2]
    · have := hb'.best hc hb
      subst this
      have hi := hb.1
      have hsl : (cs[i]).size = (chars cs[i]).length := rfl
      have hwa : IntKind.i64.wrap ((at_ : Int) + (chars cs[i]).length) = (at_ : Int) + (chars cs[i]).length := wrap_id (by omega) (by omega)
      simp -implicitDefEqProofs [nats_one, nats_chk, nats_app acc i (by omega), hi, hsl, hwa, -appD_eq]
  · cases r <;> simp -implicitDefEqProofs [outS, setR]

end Go.Proofs.Ytcnkgmbnmndahaa
