/-
  How a word is set: the program's functions.
-/
import Derived.Test.YtcnkgmbnmndahaaS6
namespace Go.Proofs.Ytcnkgmbnmndahaa
open Go Go.V
set_option linter.unusedSimpArgs false

/-- The best code so far. -/
def bestF (cs : List ByteArray) (w : List UInt8) (i : Nat) (b : Int) (c : ByteArray) : Int := if Pre c w ∧ (b < 0 ∨ (chars (cs.getD b.toNat ByteArray.empty)).length < (chars c).length) then i else b
theorem sortsOf_inner {cs : List ByteArray} (rest : ByteArray) (acc : List Nat) (hl : cs.length ≤ 1048576) : ∀ (R : Option Out → Prop) (body : List D → Option Out) (K : Out → Option Out),
    (∀ (i : Nat) (hi : i < cs.length) (b : Int), (b < 0 ∨ ∃ k : Nat, b = k ∧ k < cs.length) → IntKind.i64.wrap ((i : Int) + 1) = (i : Int) + 1 → body [fD cs, T rest, nats acc, I b, fD cs, I cs.length, I i] = some (.nrm [fD cs, T rest, nats acc, I (bestF cs (chars rest) i b cs[i]), fD cs, I cs.length, I ((i : Int) + 1)])) →
    (∀ b, body [fD cs, T rest, nats acc, I b, fD cs, I cs.length, I cs.length] = some (.ext 2 [fD cs, T rest, nats acc, I b])) →
    (∀ b, BN cs (chars rest) b → R (K (.ext 2 [fD cs, T rest, nats acc, I b]))) → R ((loopC body [fD cs, T rest, nats acc, I (-1), fD cs, I cs.length, I 0]).bind K) := by
  intro R body K h1 h2 h3
  have inv : ∀ (i : Nat) (b : Int) (hi : i < cs.length), ((b = -1 ∧ ∀ (j : Nat) (hj : j < cs.length), j < i → ¬ Pre cs[j] (chars rest)) ∨ ∃ (k : Nat) (hk : k < cs.length), b = k ∧ Pre cs[k] (chars rest) ∧ ∀ (j : Nat) (hj : j < cs.length), j < i → Pre cs[j] (chars rest) → (chars cs[j]).length ≤ (chars cs[k]).length) →
      ((bestF cs (chars rest) i b cs[i] = -1 ∧ ∀ (j : Nat) (hj : j < cs.length), j < i + 1 → ¬ Pre cs[j] (chars rest)) ∨ ∃ (k : Nat) (hk : k < cs.length), bestF cs (chars rest) i b cs[i] = k ∧ Pre cs[k] (chars rest) ∧ ∀ (j : Nat) (hj : j < cs.length), j < i + 1 → Pre cs[j] (chars rest) → (chars cs[j]).length ≤ (chars cs[k]).length) := by
    intro i b hi hI
    unfold bestF
    rcases hI with ⟨rfl, hN⟩ | ⟨k, hk, rfl, hp, hmax⟩
    · by_cases hpi : Pre cs[i] (chars rest)
      · rw [if_pos ⟨hpi, .inl (by omega)⟩]
        refine .inr ⟨i, hi, rfl, hpi, fun j hj hji hpj => ?_⟩
        rcases Nat.lt_or_ge j i with h | h
        · exact absurd hpj (hN j hj h)
        · have : j = i := by omega
          subst this
          exact Nat.le_refl _
      · rw [if_neg (fun h => hpi h.1)]
        refine .inl ⟨rfl, fun j hj hji hpj => ?_⟩
        rcases Nat.lt_or_ge j i with h | h
        · exact hN j hj h hpj
        · have : j = i := by omega
          subst this
          exact hpi hpj
    · rw [Int.toNat_natCast, getD_eq hk]
      by_cases hc : Pre cs[i] (chars rest) ∧ ((k : Int) < 0 ∨ (chars cs[k]).length < (chars cs[i]).length)
      · rw [if_pos hc]
        refine .inr ⟨i, hi, rfl, hc.1, fun j hj hji hpj => ?_⟩
        rcases Nat.lt_or_ge j i with h | h
        · have := hmax j hj h hpj
          omega
        · have : j = i := by omega
          subst this
          exact Nat.le_refl _
      · rw [if_neg hc]
        refine .inr ⟨k, hk, rfl, hp, fun j hj hji hpj => ?_⟩
        rcases Nat.lt_or_ge j i with h | h
        · exact hmax j hj h hpj
        · have : j = i := by omega
          subst this
          rcases Nat.lt_or_ge (chars cs[k]).length (chars cs[j]).length with h' | h'
          · exact absurd ⟨hpj, .inr h'⟩ hc
          · exact h'
  rw [loop_foldi (body := body) (s0 := [fD cs, T rest, nats acc, I (-1), fD cs, I cs.length, I 0]) cs (fun i b => [fD cs, T rest, nats acc, I b, fD cs, I cs.length, I i]) (fun i b => (b = -1 ∧ ∀ (j : Nat) (hj : j < cs.length), j < i → ¬ Pre cs[j] (chars rest)) ∨ ∃ (k : Nat) (hk : k < cs.length), b = k ∧ Pre cs[k] (chars rest) ∧ ∀ (j : Nat) (hj : j < cs.length), j < i → Pre cs[j] (chars rest) → (chars cs[j]).length ≤ (chars cs[k]).length)
    (fun i b c => bestF cs (chars rest) i b c) (fun b => .ext 2 [fD cs, T rest, nats acc, I b]) (-1) (fun i b hi hI => ⟨h1 i hi b (by
      rcases hI with ⟨rfl, _⟩ | ⟨k, hk, rfl, _⟩
      · exact .inl (by omega)
      · exact .inr ⟨k, rfl, hk⟩) (wrap_id (by omega) (by omega)), inv i b hi hI⟩) (fun b _ => h2 b) (fun _ => rfl) (.inl ⟨rfl, fun j _ hj => absurd hj (by omega)⟩) rfl]
  have hfin := foldI_inv (fun i b c => bestF cs (chars rest) i b c) cs (fun i b => (b = -1 ∧ ∀ (j : Nat) (hj : j < cs.length), j < i → ¬ Pre cs[j] (chars rest)) ∨ ∃ (k : Nat) (hk : k < cs.length), b = k ∧ Pre cs[k] (chars rest) ∧ ∀ (j : Nat) (hj : j < cs.length), j < i → Pre cs[j] (chars rest) → (chars cs[j]).length ≤ (chars cs[k]).length)
    (fun i b hi hI => inv i b hi hI) (-1) (.inl ⟨rfl, fun j _ hj => absurd hj (by omega)⟩)
  refine h3 _ ?_
  rcases hfin with ⟨e, hN⟩ | ⟨k, hk, e, hp, hmax⟩
  · exact .inl ⟨e, fun j hj => hN j hj hj⟩
  · exact .inr ⟨k, e, hk, hp, fun j hj => hmax j hj hj⟩

theorem extract_all (s : ByteArray) : s.extract 0 s.size = s := by
  refine chars_inj ?_
  rw [chars_extract, List.drop_zero]
  exact List.take_length
theorem chars_rest (s : ByteArray) (at_ : Nat) : chars (s.extract at_ s.size) = (chars s).drop at_ := by
  rw [chars_extract]
  congr 1
  exact List.take_length
theorem size_rest (s : ByteArray) (at_ : Nat) : (s.extract at_ s.size).size = s.size - at_ := by
  show (chars (s.extract at_ s.size)).length = (chars s).length - at_
  rw [chars_rest, List.length_drop]
theorem rest_rest (s : ByteArray) (at_ n : Nat) : (s.extract at_ s.size).extract n (s.extract at_ s.size).size = s.extract (at_ + n) s.size := by
  refine chars_inj ?_
  rw [chars_rest, chars_rest, chars_rest, List.drop_drop]

theorem e_impl_sortsOf {cs : List ByteArray} (hc : Codes cs) (hl : cs.length ≤ 1048576) (s : ByteArray) (hs : s.size ≤ 1000) {r : Option (List Nat)} (h : Sets cs (chars s) [] r) : F_impl_sortsOf [fD cs, T s] = setR r := by
  rw [t_impl_sortsOf]
  have hsz : s.size = (chars s).length := rfl
  simp only [mkArr_nil, Option.bind_some]
  refine loop_bind (outS r) (Runs.loop (sets_runs hc (chars s) (fun at_ acc => [fD cs, T (s.extract at_ s.size), nats acc]) outS (fun r => by cases r <;> rfl) (fun acc ha => ?_) (fun at_ acc hlt ha hN => ?_) (fun at_ acc i hb hlt ha hle => ?_) h 0 (Nat.zero_le _) (by simp) (by simp)) |> fun e => by rw [extract_all] at e; exact e) ?_
  · have h0 : (s.extract (chars s).length s.size).size = 0 := by rw [size_rest, hsz]; omega
    simp -implicitDefEqProofs [h0, outS]
  · have h0 := size_rest s at_
    have h0' : 0 < s.size - at_ := by omega
    simp -implicitDefEqProofs [h0']
    refine sortsOf_inner (s.extract at_ s.size) acc hl (fun X => X = some (outS none)) _ _ (fun i hi b hb hwi => ?_) (fun b => ?_) (fun b hb => ?_)
    · unfold bestF
      by_cases hp : Pre cs[i] (chars (s.extract at_ s.size))
      · rcases hb with hb | ⟨k, rfl, hk⟩
        · simp -implicitDefEqProofs [hi, hwi, e_HasPrefix, hp, hb]
        · have hk' : ¬ (k : Int) < 0 := by omega
          have z1 : cs[i].size = (chars cs[i]).length := rfl
          have z2 : cs[k].size = (chars cs[k]).length := rfl
          by_cases hlt2 : (chars cs[k]).length < (chars cs[i]).length <;> simp -implicitDefEqProofs [hi, hwi, e_HasPrefix, hp, hk, hk', z1, z2, hlt2]
      · simp -implicitDefEqProofs [hi, hwi, e_HasPrefix, hp]
    · simp -implicitDefEqProofs
    · rw [chars_rest] at hb
      have := hb.none hN
      subst this
      simp -implicitDefEqProofs [outS, mkArr_nil]
  · have h0 := size_rest s at_
    have h0' : 0 < s.size - at_ := by omega
    simp -implicitDefEqProofs [h0']
    refine sortsOf_inner (s.extract at_ s.size) acc hl (fun X => X = some (.nrm [fD cs, T (s.extract (at_ + (chars (cs[i]'hb.1)).length) s.size), nats (acc ++ [i])])) _ _ (fun i hi b hb hwi => ?_) (fun b => ?_) (fun b hb' => ?_)
    · unfold bestF
      by_cases hp : Pre cs[i] (chars (s.extract at_ s.size))
      · rcases hb with hb | ⟨k, rfl, hk⟩
        · simp -implicitDefEqProofs [hi, hwi, e_HasPrefix, hp, hb]
        · have hk' : ¬ (k : Int) < 0 := by omega
          have z1 : cs[i].size = (chars cs[i]).length := rfl
          have z2 : cs[k].size = (chars cs[k]).length := rfl
          by_cases hlt2 : (chars cs[k]).length < (chars cs[i]).length <;> simp -implicitDefEqProofs [hi, hwi, e_HasPrefix, hp, hk, hk', z1, z2, hlt2]
      · simp -implicitDefEqProofs [hi, hwi, e_HasPrefix, hp]
    · simp -implicitDefEqProofs
    · rw [chars_rest] at hb'
      have := hb'.best hc hb
      subst this
      have hi := hb.1
      have hz : (cs[i]).size = (chars cs[i]).length := rfl
      have hsl := sliceHiS (s := s.extract at_ s.size) (z := 0) (i := (chars cs[i]).length) (by omega)
      rw [rest_rest s at_ _] at hsl
      simp -implicitDefEqProofs [nats_one, nats_chk, nats_app acc i (by omega), hi, hz, hsl, -appD_eq]
  · cases r <;> simp -implicitDefEqProofs [outS, setR]

end Go.Proofs.Ytcnkgmbnmndahaa
