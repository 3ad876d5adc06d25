/-
  More laws of loops; letters; cases.
-/
import Derived.Test.YtfjkapnonljdeaaDoorP1
namespace Go.Proofs.YtfjkapnonljdeaaDoor
open Go Go.V
set_option linter.unusedSimpArgs false

/-- The first place where something holds. -/
def findI {β : Type} (p : β → Bool) : Nat → List β → Option Nat
  | _, [] => none
  | i, x :: l => if p x = true then some i else findI p (i + 1) l
theorem loop_find {β : Type} {body : List D → Option Out} (l : List β) (st : Nat → List D) (p : β → Bool) (o1 : Nat → Out) (o2 : Out) (hs : ∀ (i : Nat) (hi : i < l.length), body (st i) = some (if p l[i] = true then o1 i else .nrm (st (i + 1)))) (he : body (st l.length) = some o2)
    (h1 : ∀ i, (o1 i).ends = true) (h2 : o2.ends = true) {s0 : List D} (h : s0 = st 0) : loopC body s0 = some ((findI p 0 l).elim o2 o1) := by
  have e : ∀ (m : List β) (i : Nat), goL (fun i x (_ : Unit) => if p x = true then .inr (o1 i) else .inl ()) (fun _ => o2) i m () = (findI p i m).elim o2 o1 := by
    intro m
    induction m with
    | nil => intro i; simp [goL, findI]
    | cons x m ih =>
      intro i
      simp only [goL, findI]
      by_cases hp : p x = true
      · simp [hp]
      · simp [hp, ih]
  rw [← e]
  refine loop_list l (fun i _ => st i) (fun _ _ => True) _ _ (fun i x a hx _ => ?_) (fun _ _ => ⟨he, h2⟩) () trivial h
  have hi : i < l.length := (List.getElem?_eq_some_iff.1 hx).1
  have hxe : l[i] = x := (List.getElem?_eq_some_iff.1 hx).2
  have := hs i hi
  rw [hxe] at this
  by_cases hp : p x = true
  · simpa [hp, h1] using this
  · simpa [hp] using this
/-- All is well, and something is gathered. -/
theorem loop_allf {α β : Type} {body : List D → Option Out} (l : List β) (st : Nat → α → List D) (Inv : Nat → α → Prop) (p : Nat → β → Bool) (f : α → β → α) (o1 : Out) (fin : α → Out) (a : α) (hs : ∀ (i : Nat) (a : α) (hi : i < l.length), Inv i a → body (st i a) = some (if p i l[i] = true then .nrm (st (i + 1) (f a l[i])) else o1) ∧ (p i l[i] = true → Inv (i + 1) (f a l[i])))
    (he : ∀ a, Inv l.length a → body (st l.length a) = some (fin a)) (h1 : o1.ends = true) (h2 : ∀ a, (fin a).ends = true) (h0 : Inv 0 a) {s0 : List D} (h : s0 = st 0 a) : loopC body s0 = some (if allI p 0 l = true then fin (l.foldl f a) else o1) := by
  have e : ∀ (m : List β) (i : Nat) (a : α), goL (fun i x (a : α) => if p i x = true then .inl (f a x) else .inr o1) fin i m a = if allI p i m = true then fin (m.foldl f a) else o1 := by
    intro m
    induction m with
    | nil => intro i a; simp [goL, allI]
    | cons x m ih =>
      intro i a
      simp only [goL, allI, List.foldl_cons]
      by_cases hp : p i x = true
      · simp [hp, ih]
      · simp [hp]
  rw [← e]
  refine loop_list l st Inv _ _ (fun i x a hx hI => ?_) (fun a hI => ⟨he a hI, h2 a⟩) a h0 h
  have hi : i < l.length := (List.getElem?_eq_some_iff.1 hx).1
  have hxe : l[i] = x := (List.getElem?_eq_some_iff.1 hx).2
  have := hs i a hi hI
  rw [hxe] at this
  by_cases hp : p i x = true
  · simpa [hp] using this
  · simpa [hp, h1] using this
/-- What is left of a size. -/
theorem sz_loop {β : Type} {body : List D → Option Out} {K : Out → Option Out} {R : Option Out → Prop} (l : List β) (st : Nat → Int → List D) (P : β → Prop)
    (hs : ∀ (i : Nat) (hi : i < l.length) (m : Int), 0 ≤ m → m ≤ 1048576 → body (st i m) = some (.ret [I (-1)] []) ∨ ∃ m', body (st i m) = some (.nrm (st (i + 1) m')) ∧ 0 ≤ m' ∧ m' ≤ m ∧ P l[i])
    (he : ∀ m, body (st l.length m) = some (.ext 0 [I m])) (m0 : Int) (h0 : 0 ≤ m0) (h1 : m0 ≤ 1048576) {s0 : List D} (h : s0 = st 0 m0)
    (hk1 : R (K (.ret [I (-1)] []))) (hk2 : ∀ m, 0 ≤ m → m ≤ m0 → (∀ x ∈ l, P x) → R (K (.ext 0 [I m]))) : R ((loopC body s0).bind K) := by
  have key : ∀ (n i : Nat) (m : Int), i + n = l.length → 0 ≤ m → m ≤ m0 → (∀ (j : Nat) (hj : j < l.length), j < i → P l[j]) → ∃ o, Runs body (st i m) o ∧ (o = .ret [I (-1)] [] ∨ ∃ m', o = .ext 0 [I m'] ∧ 0 ≤ m' ∧ m' ≤ m0 ∧ ∀ x ∈ l, P x) := by
    intro n
    induction n with
    | zero =>
      intro i m hi g0 g1 hP
      have : i = l.length := by omega
      subst this
      refine ⟨_, Runs.one (he m) rfl, .inr ⟨m, rfl, g0, g1, fun x hx => ?_⟩⟩
      obtain ⟨j, hj, rfl⟩ := List.mem_iff_getElem.1 hx
      exact hP j hj hj
    | succ n ih =>
      intro i m hi g0 g1 hP
      have hlt : i < l.length := by omega
      rcases hs i hlt m g0 (by omega) with e | ⟨m', e, k0, k1, kP⟩
      · exact ⟨_, Runs.one e rfl, .inl rfl⟩
      · obtain ⟨o, r1, r2⟩ := ih (i + 1) m' (by omega) k0 (by omega) (fun j hj hji => by
          rcases Nat.lt_or_ge j i with h | h
          · exact hP j hj h
          · have : j = i := by omega
            subst this
            exact kP)
        exact ⟨o, .nrm e r1, r2⟩
  obtain ⟨o, r1, r2⟩ := key l.length 0 m0 (by omega) h0 (Int.le_refl _) (fun _ _ h => absurd h (by omega))
  rw [h, r1.loop]
  rcases r2 with rfl | ⟨m, rfl, g0, g1, gP⟩
  · exact hk1
  · exact hk2 m g0 g1 gP

def chars (s : ByteArray) : List UInt8 := s.data.toList
theorem charD_nat {s : ByteArray} {k : IntKind} {i : Nat} : charD (T s) (.v (.int k (i : Int))) = ((chars s)[i]?).map fun b => U b.toNat := by simp [charD, chars]
theorem size_list (s : ByteArray) : s.size = (chars s).length := rfl
theorem bin_geqS {a b : ByteArray} {bl : Bool} {eq : List Nat} : bin .geq bl eq (T a) (T b) = some (B (!Op.bytesLess a.toList b.toList)) := by simp [bin, strBin]

/-! ### letters -/
def az (b : UInt8) : Bool := decide (97 ≤ (b.toNat : Int)) && decide ((b.toNat : Int) ≤ 122)
def letters (s : ByteArray) (lo hi : Int) : Bool := allI (fun _ b => az b) 0 (chars s) && decide (lo ≤ (s.size : Int) ∧ (s.size : Int) ≤ hi)
theorem e_spec_tyLetters (s : ByteArray) (n : Int) (h : s.size ≤ 9223372036854775807) : F_spec_tyLetters [T s, I n] = some (.ret [B (letters s 1 n)] []) := by
  rw [t_spec_tyLetters]
  rw [size_list] at h
  refine loop_bind _ (loop_all (chars s) (fun i => [T s, I n, I i]) (fun _ b => az b) (.ret [B false] []) (.ext 0 [T s, I n]) (fun i hi => ?_) ?_ rfl rfl rfl) ?_
  · have hw : IntKind.i64.wrap ((i : Int) + 1) = (i : Int) + 1 := wrap_id (by omega) (by omega)
    by_cases h1 : 97 ≤ (((chars s)[i]).toNat : Int)
    · by_cases h2 : (((chars s)[i]).toNat : Int) ≤ 122
      · simp -implicitDefEqProofs [size_list, charD_nat, hi, hw, az, h1, h2, Int.not_lt.2 h1, Int.not_lt.2 h2]
      · simp -implicitDefEqProofs [size_list, charD_nat, hi, hw, az, h1, h2, Int.not_lt.2 h1, Int.not_le.1 h2]
    · simp -implicitDefEqProofs [size_list, charD_nat, hi, hw, az, h1, Int.not_le.1 h1]
  · simp -implicitDefEqProofs [size_list]
  · by_cases hg : allI (fun _ b => az b) 0 (chars s) = true <;> simp -implicitDefEqProofs [hg, letters, e_spec_l1In]
theorem e_impl_areLetters (s : ByteArray) (m n : Int) (h : s.size ≤ 9223372036854775807) : F_impl_areLetters [T s, I m, I n] = some (.ret [B (letters s m n)] []) := by
  rw [t_impl_areLetters]
  rw [size_list] at h
  refine loop_bind _ (loop_all (chars s) (fun i => [T s, I m, I n, I i]) (fun _ b => az b) (.ret [B false] []) (.ext 0 [T s, I m, I n]) (fun i hi => ?_) ?_ rfl rfl rfl) ?_
  · have hw : IntKind.i64.wrap ((i : Int) + 1) = (i : Int) + 1 := wrap_id (by omega) (by omega)
    by_cases h1 : 97 ≤ (((chars s)[i]).toNat : Int)
    · by_cases h2 : (((chars s)[i]).toNat : Int) ≤ 122
      · simp -implicitDefEqProofs [size_list, charD_nat, hi, hw, az, h1, h2, Int.not_lt.2 h1, Int.not_lt.2 h2]
      · simp -implicitDefEqProofs [size_list, charD_nat, hi, hw, az, h1, h2, Int.not_lt.2 h1, Int.not_le.1 h2]
    · simp -implicitDefEqProofs [size_list, charD_nat, hi, hw, az, h1, Int.not_le.1 h1]
  · simp -implicitDefEqProofs [size_list]
  · by_cases hg : allI (fun _ b => az b) 0 (chars s) = true <;> simp -implicitDefEqProofs [hg, letters, e_impl_within]
theorem e_impl_isCode (s : ByteArray) (h : s.size ≤ 9223372036854775807) : F_impl_isCode [T s] = some (.ret [B (letters s 1 3)] []) := by
  rw [t_impl_isCode]
  simp [e_impl_areLetters s 1 3 h]
theorem e_impl_isPlace (n : Int) : F_impl_isPlace [I n] = some (.ret [B (decide (0 ≤ n ∧ n ≤ 9))] []) := by
  rw [t_impl_isPlace]
  simp [e_impl_within]

/-! ### cases -/
abbrev Bx := ByteArray × Int × Int × Int
abbrev bx (x : Bx) : D := .agg [T x.1, I x.2.1, I x.2.2.1, I x.2.2.2]
abbrev bxs (l : List Bx) : D := .arr 4 (l.map bx)
theorem isV_bx (x : Bx) : (bx x).isV = true := rfl
/-- Sizes are what a machine can hold. -/
def okBx (l : List Bx) : Prop := l.length ≤ 1048576 ∧ ∀ x ∈ l, x.1.size ≤ 1048576
def isBx (x : Bx) : Bool := letters x.1 1 3 && decide (0 ≤ x.2.1 ∧ x.2.1 ≤ 9) && decide (0 ≤ x.2.2.1 ∧ x.2.2.1 ≤ 9) && decide (0 ≤ x.2.2.2 ∧ x.2.2.2 ≤ 9999)
theorem e_spec_caBox (x : Bx) (h : x.1.size ≤ 1048576) : F_spec_caBox [bx x] = some (.ret [B (isBx x)] []) := by
  rw [t_spec_caBox]
  have e := e_spec_tyLetters x.1 3 (by omega)
  cases h0 : letters x.1 1 3 <;> rw [h0] at e
  · simp -implicitDefEqProofs [e, isBx, h0]
  · by_cases h1 : 0 ≤ x.2.1 ∧ x.2.1 ≤ 9 <;> by_cases h2 : 0 ≤ x.2.2.1 ∧ x.2.2.1 ≤ 9 <;> simp -implicitDefEqProofs [e, e_spec_l1In, isBx, h0, h1, h2]
theorem e_impl_IsBox (x : Bx) (h : x.1.size ≤ 1048576) : F_impl_IsBox [bx x] = some (.ret [B (isBx x)] []) := by
  rw [t_impl_IsBox]
  have e := e_impl_isCode x.1 (by omega)
  cases h0 : letters x.1 1 3 <;> rw [h0] at e
  · simp -implicitDefEqProofs [e, isBx, h0]
  · by_cases h1 : 0 ≤ x.2.1 ∧ x.2.1 ≤ 9 <;> by_cases h2 : 0 ≤ x.2.2.1 ∧ x.2.2.1 ≤ 9 <;> simp -implicitDefEqProofs [e, e_impl_isPlace, e_impl_within, isBx, h0, h1, h2]
def sameP (x y : Bx) : Bool := decide (y.2.1 = x.2.1) && decide (y.2.2.1 = x.2.2.1)
def pBx (l : List Bx) (i : Nat) (x : Bx) : Bool := isBx x && !(decide (0 < i) && !Op.bytesLess (l.getD (i - 1) (ByteArray.empty, 0, 0, 0)).1.toList x.1.toList) && allI (fun _ y => !sameP x y) 0 (l.take i)
def goodC (l : List Bx) : Bool := allI (pBx l) 0 l && decide (1 ≤ (l.length : Int) ∧ (l.length : Int) ≤ 32)
theorem take_bxs {l : List Bx} {i : Nat} (hi : i ≤ l.length) : sliceD false 4 (bxs l) (I 0) (I (i : Int)) = some (bxs (l.take i)) := by
  have := sliceD_nat (z := 4) (l := l.map bx) (k := .i64) (k' := .i64) (Nat.zero_le i) (by simpa using hi)
  rw [List.drop_zero, ← List.map_take] at this
  exact this
theorem e_spec_caGood (l : List Bx) (h : okBx l) : F_spec_caGood [bxs l] = some (.ret [B (goodC l)] []) := by
  rw [t_spec_caGood]
  have hl := h.1
  simp only [lenD_arr, List.length_map, Option.bind_some]
  refine loop_bind _ (loop_all l (fun i => [bxs l, bxs l, I l.length, I i]) (pBx l) (.ret [B false] []) (.ext 0 [bxs l]) (fun i hi => ?_) ?_ rfl rfl rfl) ?_
  · have hw : IntKind.i64.wrap ((i : Int) + 1) = (i : Int) + 1 := wrap_id (by omega) (by omega)
    have eb := e_spec_caBox l[i] (h.2 _ (List.getElem_mem hi))
    have ht := take_bxs (Nat.le_of_lt hi)
    cases h1 : isBx l[i]
    · rw [h1] at eb
      simp -implicitDefEqProofs [hi, eb, h1, pBx]
    · rw [h1] at eb
      by_cases h0 : 0 < i
      · have hw2 : IntKind.i64.wrap ((i : Int) - 1) = ((i - 1 : Nat) : Int) := by rw [wrap_id (by omega) (by omega)]; omega
        have hy : i - 1 < l.length := by omega
        cases h2 : Op.bytesLess l[i - 1].1.toList l[i].1.toList
        · simp -implicitDefEqProofs [hi, hy, eb, h1, pBx, hw2, h0, h2, bin_geqS]
        · have hp : pBx l i l[i] = allI (fun _ y => !sameP l[i] y) 0 (l.take i) := by simp [pBx, h1, h0, h2, hy]
          rw [hp]
          have htl : (l.take i).length ≤ 1048576 := by simp; omega
          simp -implicitDefEqProofs [hi, hy, eb, hw2, h0, h2, bin_geqS, ht, hw, ← List.map_take, -List.length_take, -List.map_take]
          generalize l.take i = t at ht htl
          refine loop_bind _ (loop_all t (fun j => [bxs l, bx l[i], bxs l, I l.length, I i, bxs t, I t.length, I j]) (fun _ y => !sameP l[i] y) (.ret [B false] []) (.ext 2 [bxs l, bxs l, I l.length, I i]) (fun j hj => ?_) ?_ rfl rfl rfl) ?_
          · have hwj : IntKind.i64.wrap ((j : Int) + 1) = (j : Int) + 1 := wrap_id (by omega) (by omega)
            by_cases c1 : t[j].2.1 = l[i].2.1 <;> by_cases c2 : t[j].2.2.1 = l[i].2.2.1 <;> simp -implicitDefEqProofs [hj, hwj, c1, c2, sameP]
          · simp -implicitDefEqProofs
          · cases ha : allI (fun _ y => !sameP l[i] y) 0 t <;> simp -implicitDefEqProofs [hw]
      · have hp : pBx l i l[i] = allI (fun _ y => !sameP l[i] y) 0 (l.take i) := by simp [pBx, h1, h0]
        rw [hp]
        have htl : (l.take i).length ≤ 1048576 := by simp; omega
        simp -implicitDefEqProofs [hi, eb, h0, bin_geqS, ht, hw, ← List.map_take, -List.length_take, -List.map_take]
        generalize l.take i = t at ht htl
        refine loop_bind _ (loop_all t (fun j => [bxs l, bx l[i], bxs l, I l.length, I i, bxs t, I t.length, I j]) (fun _ y => !sameP l[i] y) (.ret [B false] []) (.ext 2 [bxs l, bxs l, I l.length, I i]) (fun j hj => ?_) ?_ rfl rfl rfl) ?_
        · have hwj : IntKind.i64.wrap ((j : Int) + 1) = (j : Int) + 1 := wrap_id (by omega) (by omega)
          by_cases c1 : t[j].2.1 = l[i].2.1 <;> by_cases c2 : t[j].2.2.1 = l[i].2.2.1 <;> simp -implicitDefEqProofs [hj, hwj, c1, c2, sameP]
        · simp -implicitDefEqProofs
        · cases ha : allI (fun _ y => !sameP l[i] y) 0 t <;> simp -implicitDefEqProofs [hw]
  · simp
  · by_cases hg : allI (pBx l) 0 l = true <;> simp -implicitDefEqProofs [hg, goodC, e_spec_l1In]

end Go.Proofs.YtfjkapnonljdeaaDoor
