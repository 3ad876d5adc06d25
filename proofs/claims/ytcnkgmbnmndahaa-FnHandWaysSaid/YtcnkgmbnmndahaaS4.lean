/-
  The types in a shop; its law.
-/
import Derived.Test.YtcnkgmbnmndahaaS3
namespace Go.Proofs.Ytcnkgmbnmndahaa
open Go Go.V
set_option linter.unusedSimpArgs false

/-- Sums along a list, as long as they are small. -/
theorem loop_sum {β : Type} {body : List D → Option Out} (l : List β) (st : Nat → Int → List D) (f : β → Int) (fin : Int → Out) (M a : Int) (hf : ∀ x ∈ l, 0 ≤ f x ∧ f x ≤ M) (hM : 0 ≤ M) (hb : 0 ≤ a) (hB : a + M * l.length < 9223372036854775808)
    (hs : ∀ (i : Nat) (a : Int) (hi : i < l.length), IntKind.i64.wrap (a + f l[i]) = a + f l[i] → body (st i a) = some (.nrm (st (i + 1) (a + f l[i])))) (he : ∀ a, body (st l.length a) = some (fin a)) (h1 : ∀ a, (fin a).ends = true) {s0 : List D} (h : s0 = st 0 a) :
    loopC body s0 = some (fin (a + (l.map f).sum)) := by
  have e : ∀ (m : List β) (i : Nat) (a : Int), foldI (fun _ a x => a + f x) i m a = a + (m.map f).sum := by
    intro m
    induction m with
    | nil => intro i a; simp [foldI]
    | cons x m ih => intro i a; simp only [foldI, ih, List.map_cons, List.sum_cons]; omega
  rw [← e l 0 a]
  refine loop_foldi l st (fun i b => 0 ≤ b ∧ b ≤ a + M * i) (fun _ a x => a + f x) fin a (fun i b hi hI => ?_) (fun a _ => he a) h1 ⟨hb, by simp⟩ h
  have hx := hf l[i] (List.getElem_mem hi)
  have h3 : M * (i : Int) + M ≤ M * l.length := by
    have : M * ((i : Int) + 1) ≤ M * l.length := Int.mul_le_mul_of_nonneg_left (by omega) hM
    rw [Int.mul_add, Int.mul_one] at this
    exact this
  have h4 : M * ((i + 1 : Nat) : Int) = M * (i : Int) + M := by
    rw [Int.natCast_add, Int.mul_add]
    simp
  exact ⟨hs i b hi (wrap_id (by omega) (by omega)), by omega, by rw [h4]; omega⟩
theorem sum_le {β : Type} {f : β → Int} {M : Int} : ∀ {l : List β}, (∀ x ∈ l, 0 ≤ f x ∧ f x ≤ M) → 0 ≤ (l.map f).sum ∧ (l.map f).sum ≤ M * l.length
  | [], _ => by simp
  | x :: l, h => by
    have h1 := h x (by simp)
    have h2 := sum_le (l := l) fun y hy => h y (by simp [hy])
    simp only [List.map_cons, List.sum_cons, List.length_cons, Int.natCast_add, Int.mul_add]
    simp only [Int.natCast_one, Int.mul_one]
    omega

theorem shopOk_parts {s : Sp} (h : shopOk s = true) : (∀ (j : Nat) (hj : j < s.2.1.length), isFm s.1 s.2.1[j] = true) ∧ goodC s.1 = true ∧ s.2.1.length ≤ 5 ∧ (0 ≤ s.2.2.1 ∧ s.2.2.1 ≤ 9999) := by
  simp only [shopOk, Bool.and_eq_true, decide_eq_true_eq] at h
  obtain ⟨⟨⟨⟨h1, h2⟩, h3⟩, h4⟩, _⟩ := h
  have key : ∀ (l : List Fm) (i : Nat), allI (pS s) i l = true → ∀ x ∈ l, isFm s.1 x = true := by
    intro l
    induction l with
    | nil => intro i _ x hx; simp at hx
    | cons y l ih =>
      intro i hp x hx
      simp only [allI, Bool.and_eq_true, pS] at hp
      rcases List.mem_cons.1 hx with rfl | hx
      · exact hp.1.1
      · exact ih (i + 1) (by simpa [pS] using hp.2) x hx
  exact ⟨fun j hj => key _ 0 h1 _ (List.getElem_mem hj), h2, by omega, h4⟩
theorem goodC_counts {l : List Bx} (h : goodC l = true) : l.length ≤ 32 ∧ ∀ x ∈ l, 0 ≤ x.2.2.2 ∧ x.2.2.2 ≤ 9999 := by
  simp only [goodC, Bool.and_eq_true, decide_eq_true_eq] at h
  refine ⟨by omega, ?_⟩
  have key : ∀ (m : List Bx) (i : Nat), allI (pBx l) i m = true → ∀ x ∈ m, 0 ≤ x.2.2.2 ∧ x.2.2.2 ≤ 9999 := by
    intro m
    induction m with
    | nil => intro i _ x hx; simp at hx
    | cons y m ih =>
      intro i hp x hx
      simp only [allI, Bool.and_eq_true] at hp
      rcases List.mem_cons.1 hx with rfl | hx
      · have := hp.1
        simp only [pBx, isBx, Bool.and_eq_true, decide_eq_true_eq] at this
        exact this.1.1.2
      · exact ih (i + 1) hp.2 x hx
  exact key l 0 h.1

def counts (l : List Bx) : Int := (l.map fun x => x.2.2.2).sum
def sets (l : List Fm) : Int := (l.map fun x => (x.2.1.length : Int)).sum
theorem e_spec_caSum (l : List Bx) (h : goodC l = true) : F_spec_caSum [bxs l] = some (.ret [I (counts l)] []) := by
  rw [t_spec_caSum]
  obtain ⟨h32, hc⟩ := goodC_counts h
  simp only [lenD_arr, List.length_map, Option.bind_some]
  refine loop_bind _ (loop_sum l (fun i a => [I a, bxs l, I l.length, I i]) (fun x => x.2.2.2) (fun a => .ext 0 [I a]) 9999 0 hc (by omega) (by omega) (by omega) (fun i a hi hwa => ?_) (fun a => ?_) (fun _ => rfl) rfl) ?_
  · have hw : IntKind.i64.wrap ((i : Int) + 1) = (i : Int) + 1 := wrap_id (by omega) (by omega)
    simp -implicitDefEqProofs [hi, hw, hwa]
  · simp -implicitDefEqProofs
  · simp -implicitDefEqProofs [counts]
theorem e_impl_TypesIn (l : List Bx) (ho : okBx l) (h : goodC l = true) : F_impl_TypesIn [bxs l] = some (.ret [I (counts l), B true] []) := by
  rw [t_impl_TypesIn]
  obtain ⟨h32, hc⟩ := goodC_counts h
  simp -implicitDefEqProofs only [e_impl_IsCase l ho, h, callK_ret, sl_zero, un_not, Bool.not_true, Option.bind_some, ifD_B, Bool.false_eq_true, if_false, lenD_arr, List.length_map]
  refine loop_bind _ (loop_sum l (fun i a => [I a, bxs l, I l.length, I i]) (fun x => x.2.2.2) (fun a => .ext 0 [I a]) 9999 0 hc (by omega) (by omega) (by omega) (fun i a hi hwa => ?_) (fun a => ?_) (fun _ => rfl) rfl) ?_
  · have hw : IntKind.i64.wrap ((i : Int) + 1) = (i : Int) + 1 := wrap_id (by omega) (by omega)
    simp -implicitDefEqProofs [hi, hw, hwa]
  · simp -implicitDefEqProofs
  · simp -implicitDefEqProofs [counts]
def typesIn (s : Sp) : Int := if shopOk s then counts s.1 + s.2.2.1 + sets s.2.1 else 0
theorem isFm_set {l : List Bx} {x : Fm} (h : isFm l x = true) : x.2.1.length ≤ 40 := by
  simp only [isFm, Bool.and_eq_true, Bool.not_eq_true', decide_eq_false_iff_not] at h
  omega
theorem e_spec_TypesInShop (s : Sp) (h : okSp s) : F_spec_TypesInShop [sp s] = some (.ret [I (typesIn s), B (shopOk s)] []) := by
  rw [t_spec_TypesInShop]
  unfold typesIn
  cases hok : shopOk s
  · simp -implicitDefEqProofs [e_spec_shGood s h, hok]
  obtain ⟨p1, p2, p3, p4⟩ := shopOk_parts hok
  obtain ⟨h32, hc⟩ := goodC_counts p2
  have hsum : 0 ≤ counts s.1 ∧ counts s.1 ≤ 9999 * s.1.length := sum_le hc
  have hf : ∀ x ∈ s.2.1, 0 ≤ (x.2.1.length : Int) ∧ (x.2.1.length : Int) ≤ 40 := fun x hx => by
    obtain ⟨j, hj, rfl⟩ := List.mem_iff_getElem.1 hx
    have := isFm_set (p1 j hj)
    omega
  have hw0 : IntKind.i64.wrap (counts s.1 + s.2.2.1) = counts s.1 + s.2.2.1 := wrap_id (by omega) (by omega)
  simp -implicitDefEqProofs [e_spec_shGood s h, hok, e_spec_caSum s.1 p2, hw0]
  refine loop_bind _ (loop_sum s.2.1 (fun i a => [I a, fms s.2.1, I s.2.1.length, I i]) (fun x => (x.2.1.length : Int)) (fun a => .ext 0 [I a]) 40 (counts s.1 + s.2.2.1) hf (by omega) (by omega) (by omega) (fun i a hi hwa => ?_) (fun a => ?_) (fun _ => rfl) rfl) ?_
  · have hw : IntKind.i64.wrap ((i : Int) + 1) = (i : Int) + 1 := wrap_id (by omega) (by omega)
    simp -implicitDefEqProofs [hi, hw, hwa]
  · simp -implicitDefEqProofs
  · simp -implicitDefEqProofs [sets]
theorem e_impl_TypesInShop (s : Sp) (h : okSp s) : F_impl_TypesInShop [sp s] = some (.ret [I (typesIn s), B (shopOk s)] []) := by
  rw [t_impl_TypesInShop]
  unfold typesIn
  cases hok : shopOk s
  · simp -implicitDefEqProofs [e_impl_IsShop s h, hok]
  obtain ⟨p1, p2, p3, p4⟩ := shopOk_parts hok
  obtain ⟨h32, hc⟩ := goodC_counts p2
  have hsum : 0 ≤ counts s.1 ∧ counts s.1 ≤ 9999 * s.1.length := sum_le hc
  have hf : ∀ x ∈ s.2.1, 0 ≤ (x.2.1.length : Int) ∧ (x.2.1.length : Int) ≤ 40 := fun x hx => by
    obtain ⟨j, hj, rfl⟩ := List.mem_iff_getElem.1 hx
    have := isFm_set (p1 j hj)
    omega
  have hsum2 : 0 ≤ sets s.2.1 ∧ sets s.2.1 ≤ 40 * s.2.1.length := sum_le hf
  have hw0 : IntKind.i64.wrap (counts s.1 + sets s.2.1 + s.2.2.1) = counts s.1 + s.2.2.1 + sets s.2.1 := by
    rw [wrap_id (by omega) (by omega)]
    omega
  simp -implicitDefEqProofs [e_impl_IsShop s h, hok, e_impl_TypesIn s.1 h.1 p2]
  refine loop_bind (.ext 0 [sp s, I (counts s.1 + sets s.2.1)]) (loop_sum s.2.1 (fun i a => [sp s, I a, fms s.2.1, I s.2.1.length, I i]) (fun x => (x.2.1.length : Int)) (fun a => .ext 0 [sp s, I a]) 40 (counts s.1) hf (by omega) (by omega) (by omega) (fun i a hi hwa => ?_) (fun a => ?_) (fun _ => rfl) rfl) ?_
  · have hw : IntKind.i64.wrap ((i : Int) + 1) = (i : Int) + 1 := wrap_id (by omega) (by omega)
    simp -implicitDefEqProofs [hi, hw, hwa]
  · simp -implicitDefEqProofs
  · simp -implicitDefEqProofs [hw0]
theorem law_TypesInShop (s : Sp) (h : inSp s) : F_laws_FnExactTypesInShop [sp s] = some (.ret [B true] []) := by
  rw [t_laws_FnExactTypesInShop]
  obtain ⟨m, e, _, k⟩ := e_laws_szShop s h
  by_cases hm : m < 0
  · simp -implicitDefEqProofs [e, hm]
  · have hk := k (by omega)
    simp -implicitDefEqProofs [e, hm, e_laws_toShop s hk, e_spec_TypesInShop s hk, e_impl_TypesInShop s hk, e_laws_eqShop s hk]

end Go.Proofs.Ytcnkgmbnmndahaa
