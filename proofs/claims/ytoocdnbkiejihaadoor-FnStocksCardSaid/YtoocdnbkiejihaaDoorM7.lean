/-
  Numbers as texts; the text of an order.
-/
import Derived.Test.YtoocdnbkiejihaaDoorRows
import Derived.Test.YtoocdnbkiejihaaDoorTie
import Derived.Test.YtoocdnbkiejihaaDoorCards
import Derived.Test.YtoocdnbkiejihaaDoorM6
import Derived.Lib.IndexBytes
import Derived.Laws.RangeString
import Derived.Laws.Bits64b
namespace Go.Proofs.YtoocdnbkiejihaaDoor
open Go Go.V
set_option linter.unusedSimpArgs false

theorem e_spec_l1In (a b c : Int) : F_spec_l1In [I a, I b, I c] = some (.ret [B (decide (b ≤ a ∧ a ≤ c))] []) := by
  rw [t_spec_l1In]
  by_cases h : b ≤ a <;> simp [h]
theorem e_impl_within (a b c : Int) : F_impl_within [I a, I b, I c] = some (.ret [B (decide (b ≤ a ∧ a ≤ c))] []) := by
  rw [t_impl_within]
  by_cases h : b ≤ a <;> simp [h]

/-! ### numbers -/
/-- The decimal numeral. -/
def numT (u : Nat) : ByteArray := ⟨(Lib.decDigits u).toArray⟩
def intT (n : Int) : ByteArray := ⟨(Lib.itoa n).toArray⟩
theorem intT_nat (u : Nat) : intT (u : Int) = numT u := by
  unfold intT numT
  rw [Lib.itoa_nonneg]
theorem numT_small {u : Nat} (h : u < 10) : numT u = ⟨#[UInt8.ofNat (48 + u)]⟩ := by
  unfold numT
  rw [Lib.decDigits_one h]
theorem numT_big {u : Nat} (h : ¬ u < 10) : numT u = numT (u / 10) ++ ⟨#[UInt8.ofNat (48 + u % 10)]⟩ := by
  unfold numT
  rw [Lib.decDigits, dif_neg h]
  apply ByteArray.ext
  simp
theorem numT_size : ∀ (k u : Nat), u < 10 ^ (k + 1) → (numT u).size ≤ k + 1
  | 0, u, h => by
    rw [numT_small (by simpa using h)]
    exact Nat.le_refl _
  | k + 1, u, h => by
    by_cases hu : u < 10
    · rw [numT_small hu]
      show 1 ≤ k + 1 + 1
      omega
    · rw [numT_big hu, ByteArray.size_append]
      have h1 := numT_size k (u / 10) (by rw [Nat.pow_succ] at h; exact Nat.div_lt_of_lt_mul (by rw [Nat.mul_comm]; exact h))
      have h2 : (⟨#[UInt8.ofNat (48 + u % 10)]⟩ : ByteArray).size = 1 := rfl
      omega
theorem intT_size (k : Nat) {n : Int} (h0 : 0 ≤ n) (h1 : n < 10 ^ (k + 1)) : (intT n).size ≤ k + 1 := by
  obtain ⟨u, rfl⟩ := Int.eq_ofNat_of_zero_le h0
  rw [intT_nat]
  exact numT_size k u (by exact_mod_cast h1)
theorem byte_of (u : Nat) (h : u < 10) : bytesOf [.v (.int .u8 (48 + (u : Int)))] = some [UInt8.ofNat (48 + u)] := by
  have e : (48 + (u : Int)).toNat = 48 + u := by omega
  simp only [bytesOf, e, Option.map_some]
theorem wrap8 (a : Int) (h0 : 0 ≤ a) (h1 : a < 256) : IntKind.u8.wrap a = a := by
  have := Int.emod_eq_of_lt h0 h1
  simpa [IntKind.wrap, IntKind.bits, IntKind.signed] using this
theorem mkArr_u8 (a : Int) : mkArr 1 [.v (.int .u8 a)] = some (.arr 1 [.v (.int .u8 a)]) := by simp [mkArr, lenOkD]

theorem num_step (k u : Nat) (hu : u < 10 ^ 18) (ih : R_spec_l1Num k [I ((u / 10 : Nat) : Int)] = none ∨ R_spec_l1Num k [I ((u / 10 : Nat) : Int)] = some (.ret [T (numT (u / 10))] [])) :
    (R_spec_l1Num (k + 1) [I (u : Int)] = none ∧ R_spec_l1Num k [I ((u / 10 : Nat) : Int)] = none ∧ ¬ u < 10) ∨ R_spec_l1Num (k + 1) [I (u : Int)] = some (.ret [T (numT u)] []) := by
  rw [t_spec_l1Num]
  by_cases h : u < 10
  · right
    have h1 : (u : Int) < 10 := by omega
    have hw : IntKind.i64.wrap (48 + (u : Int)) = 48 + (u : Int) := wrap_id (by omega) (by omega)
    have hw8 := wrap8 (48 + (u : Int)) (by omega) (by omega)
    simp only [bin_lss, h1, decide_true, Option.bind_some, ifD_B, if_true, bin_add, hw, convD, hw8, mkArr_u8, strD, byte_of u h, Option.map_some, numT_small h]
  · have h1 : ¬ (u : Int) < 10 := by omega
    have hq : IntKind.i64.wrap ((u : Int).tdiv 10) = ((u / 10 : Nat) : Int) := by
      rw [Int.tdiv_eq_ediv_of_nonneg (by omega), wrap_id (by omega) (by omega)]
      omega
    have hr : (u : Int).tmod 10 = ((u % 10 : Nat) : Int) := by
      rw [Int.tmod_eq_emod_of_nonneg (by omega)]
      omega
    have hm : u % 10 < 10 := Nat.mod_lt _ (by decide)
    have hw : IntKind.i64.wrap (48 + ((u % 10 : Nat) : Int)) = 48 + ((u % 10 : Nat) : Int) := wrap_id (by omega) (by omega)
    have hw8 := wrap8 (48 + ((u % 10 : Nat) : Int)) (by omega) (by omega)
    have hs : (numT (u / 10)).size + (⟨#[UInt8.ofNat (48 + u % 10)]⟩ : ByteArray).size ≤ 1152921504606846976 := by
      have := numT_size 17 (u / 10) (by omega)
      have h2 : (⟨#[UInt8.ofNat (48 + u % 10)]⟩ : ByteArray).size = 1 := rfl
      omega
    rcases ih with e | e
    · left
      refine ⟨?_, e, h⟩
      simp only [bin_lss, h1, decide_false, Option.bind_some, ifD_B, Bool.false_eq_true, if_false, bin_quo, show ¬ (10 : Int) = 0 by decide, hq, e, callK]
    · right
      simp only [bin_lss, h1, decide_false, Option.bind_some, ifD_B, Bool.false_eq_true, if_false, bin_quo, show ¬ (10 : Int) = 0 by decide, hq, e, callK_ret, bin_rem, hr, bin_add, hw, convD, hw8, mkArr_u8, strD,
        byte_of _ hm, Option.map_some, sl_zero, bin_addS, hs, if_true, numT_big h]
theorem num_or : ∀ (k u : Nat), u < 10 ^ 18 → R_spec_l1Num k [I (u : Int)] = none ∨ R_spec_l1Num k [I (u : Int)] = some (.ret [T (numT u)] [])
  | 0, _, _ => .inl rfl
  | k + 1, u, hu => (num_step k u hu (num_or k (u / 10) (by omega))).imp (fun h => h.1) id
theorem num_big : ∀ (k u : Nat), u < 10 ^ 18 → u < 10 ^ (k + 1) → R_spec_l1Num (k + 1) [I (u : Int)] = some (.ret [T (numT u)] [])
  | 0, u, hu, h => by
    rcases num_step 0 u hu (num_or 0 _ (by omega)) with ⟨_, _, h1⟩ | h1
    · exact absurd (by simpa using h) h1
    · exact h1
  | k + 1, u, hu, h => by
    rcases num_step (k + 1) u hu (num_or (k + 1) _ (by omega)) with ⟨_, h1, _⟩ | h1
    · rw [num_big k (u / 10) (by omega) (by rw [Nat.pow_succ] at h; exact Nat.div_lt_of_lt_mul (by rw [Nat.mul_comm]; exact h))] at h1
      cases h1
    · exact h1
theorem e_spec_l1Num {n : Int} (h0 : 0 ≤ n) (h1 : n < 1000000000000000000) : F_spec_l1Num [I n] = some (.ret [T (intT n)] []) := by
  obtain ⟨u, rfl⟩ := Int.eq_ofNat_of_zero_le h0
  have hu : u < 10 ^ 18 := by omega
  rw [intT_nat]
  refine recF_eq (fun k o ho => ?_) 18 (num_big 17 u hu hu)
  rcases num_or k u hu with e | e
  · rw [e] at ho; cases ho
  · rw [e] at ho; cases ho; rfl
theorem e_Itoa {n : Int} (h0 : -9223372036854775808 ≤ n) (h1 : n ≤ 9223372036854775807) : fItoa [I n] = some (.ret [T (intT n)] []) := by
  simp only [fItoa, h0, h1, and_self, if_true]
  rfl

/-! ### orders -/
/-- A text of few bytes. -/
theorem addS {a b : ByteArray} {bl : Bool} {eq : List Nat} (h : a.size + b.size ≤ 1152921504606846976) : bin .add bl eq (T a) (T b) = some (T (a ++ b)) := by rw [bin_addS, if_pos h]
theorem sz1 (a : UInt8) : (⟨#[a]⟩ : ByteArray).size = 1 := rfl
theorem sz4 (a b c d : UInt8) : (⟨#[a, b, c, d]⟩ : ByteArray).size = 4 := rfl
end Go.Proofs.YtoocdnbkiejihaaDoor
/-
  More laws of loops; letters; cases.
-/
namespace Go.Proofs.YtoocdnbkiejihaaDoor
open Go Go.V
set_option linter.unusedSimpArgs false

/-- The first place where something holds. -/
def findI {β : Type} (p : β → Bool) : Nat → List β → Option Nat
  | _, [] => none
  | i, x :: l => if p x = true then some i else findI p (i + 1) l
theorem loop_find {β : Type} {body : List D → Option Out} (l : List β) (st : Nat → List D) (p : β → Bool) (o1 : Nat → Out) (o2 : Out) (hs : ∀ (i : Nat) (hi : i < l.length), body (st i) = some (if p l[i] = true then o1 i else .nrm (st (i + 1)))) (he : body (st l.length) = some o2)
    (h1 : ∀ i, (o1 i).ends = true) (h2 : o2.ends = true) {s0 : List D} (h : s0 = st 0) : loopC body s0 = some ((findI p 0 l).elim o2 o1) := by
  have e : ∀ (m : List β) (i : Nat), goL (fun i x (_ : Unit) => if p x = true then .inr (o1 i) else .inl ()) (fun _ => o2) i m () = (findI p i m).elim o2 o1 := by
    intro m
    induction m with
    | nil => intro i; simp [goL, findI]
    | cons x m ih =>
      intro i
      simp only [goL, findI]
      by_cases hp : p x = true
      · simp [hp]
      · simp [hp, ih]
  rw [← e]
  refine loop_list l (fun i _ => st i) (fun _ _ => True) _ _ (fun i x a hx _ => ?_) (fun _ _ => ⟨he, h2⟩) () trivial h
  have hi : i < l.length := (List.getElem?_eq_some_iff.1 hx).1
  have hxe : l[i] = x := (List.getElem?_eq_some_iff.1 hx).2
  have := hs i hi
  rw [hxe] at this
  by_cases hp : p x = true
  · simpa [hp, h1] using this
  · simpa [hp] using this
/-- All is well, and something is gathered. -/
theorem loop_allf {α β : Type} {body : List D → Option Out} (l : List β) (st : Nat → α → List D) (Inv : Nat → α → Prop) (p : Nat → β → Bool) (f : α → β → α) (o1 : Out) (fin : α → Out) (a : α) (hs : ∀ (i : Nat) (a : α) (hi : i < l.length), Inv i a → body (st i a) = some (if p i l[i] = true then .nrm (st (i + 1) (f a l[i])) else o1) ∧ (p i l[i] = true → Inv (i + 1) (f a l[i])))
    (he : ∀ a, Inv l.length a → body (st l.length a) = some (fin a)) (h1 : o1.ends = true) (h2 : ∀ a, (fin a).ends = true) (h0 : Inv 0 a) {s0 : List D} (h : s0 = st 0 a) : loopC body s0 = some (if allI p 0 l = true then fin (l.foldl f a) else o1) := by
  have e : ∀ (m : List β) (i : Nat) (a : α), goL (fun i x (a : α) => if p i x = true then .inl (f a x) else .inr o1) fin i m a = if allI p i m = true then fin (m.foldl f a) else o1 := by
    intro m
    induction m with
    | nil => intro i a; simp [goL, allI]
    | cons x m ih =>
      intro i a
      simp only [goL, allI, List.foldl_cons]
      by_cases hp : p i x = true
      · simp [hp, ih]
      · simp [hp]
  rw [← e]
  refine loop_list l st Inv _ _ (fun i x a hx hI => ?_) (fun a hI => ⟨he a hI, h2 a⟩) a h0 h
  have hi : i < l.length := (List.getElem?_eq_some_iff.1 hx).1
  have hxe : l[i] = x := (List.getElem?_eq_some_iff.1 hx).2
  have := hs i a hi hI
  rw [hxe] at this
  by_cases hp : p i x = true
  · simpa [hp] using this
  · simpa [hp, h1] using this
def chars (s : ByteArray) : List UInt8 := s.data.toList
theorem charD_nat {s : ByteArray} {k : IntKind} {i : Nat} : charD (T s) (.v (.int k (i : Int))) = ((chars s)[i]?).map fun b => U b.toNat := by simp [charD, chars]
theorem size_list (s : ByteArray) : s.size = (chars s).length := rfl
theorem bin_geqS {a b : ByteArray} {bl : Bool} {eq : List Nat} : bin .geq bl eq (T a) (T b) = some (B (!Op.bytesLess a.toList b.toList)) := by simp [bin, strBin]

/-! ### letters -/
/-! ### cases -/
end Go.Proofs.YtoocdnbkiejihaaDoor
/-
  Texts cut at a byte.
-/
namespace Go.Proofs.YtoocdnbkiejihaaDoor
open Go Go.V
set_option linter.unusedSimpArgs false

theorem chars_inj {a b : ByteArray} (h : chars a = chars b) : a = b := by
  cases a with | mk a => cases b with | mk b =>
    cases a with | mk a => cases b with | mk b =>
      simp [chars] at h
      rw [h]
theorem chars_extract (s : ByteArray) (i j : Nat) : chars (s.extract i j) = ((chars s).take j).drop i := by
  simp [chars, List.drop_take]
theorem chars_mk (l : List UInt8) : chars ⟨l.toArray⟩ = l := by simp [chars]
theorem mk_chars (s : ByteArray) : (⟨(chars s).toArray⟩ : ByteArray) = s := chars_inj (chars_mk _)
theorem chars_append (a b : ByteArray) : chars (a ++ b) = chars a ++ chars b := by simp [chars]
theorem sliceS {s : ByteArray} {z i j : Nat} (h1 : i ≤ j) (h2 : j ≤ s.size) : sliceD true z (T s) (I (i : Int)) (I (j : Int)) = some (T (s.extract i j)) := by
  simp only [sliceD, Int.toNat_natCast]
  rw [if_pos (by omega)]
theorem sliceHiS {s : ByteArray} {z i : Nat} (h : i ≤ s.size) : sliceHi true z (T s) (I (i : Int)) = some (T (s.extract i s.size)) := by
  simp only [sliceHi, Int.toNat_natCast]
  rw [if_pos (by omega)]

/-! ### the pieces -/
def consH (x : UInt8) : List (List UInt8) → List (List UInt8)
  | [] => [[x]]
  | h :: t => (x :: h) :: t
/-- A text cut at each c. -/
def splitL (c : UInt8) : List UInt8 → List (List UInt8)
  | [] => [[]]
  | x :: l => if x = c then [] :: splitL c l else consH x (splitL c l)
theorem splitL_ne (c : UInt8) (l : List UInt8) : splitL c l ≠ [] := by
  cases l with
  | nil => simp [splitL]
  | cons x l =>
    simp only [splitL]
    split
    · simp
    · cases splitL c l <;> simp [consH]
theorem splitL_miss {c : UInt8} : ∀ {l : List UInt8}, c ∉ l → splitL c l = [l]
  | [], _ => rfl
  | x :: l, h => by
    simp only [List.mem_cons, not_or] at h
    simp only [splitL]
    rw [if_neg (Ne.symm h.1), splitL_miss h.2]
    rfl
theorem splitL_hit {c : UInt8} {b : List UInt8} : ∀ {a : List UInt8}, c ∉ a → splitL c (a ++ c :: b) = a :: splitL c b
  | [], _ => by simp [splitL]
  | x :: a, h => by
    simp only [List.mem_cons, not_or] at h
    rw [List.cons_append]
    simp only [splitL]
    rw [if_neg (Ne.symm h.1), splitL_hit h.2]
    rfl
theorem splitL_snoc (c x : UInt8) : ∀ (l : List UInt8) (o : List (List UInt8)) (p : List UInt8), splitL c l = o ++ [p] → splitL c (l ++ [x]) = if x = c then (o ++ [p]) ++ [[]] else o ++ [p ++ [x]]
  | [], o, p, h => by
    have h : [[]] = o ++ [p] := h
    have : o = [] ∧ p = [] := by
      cases o with
      | nil => simpa using h.symm
      | cons y o => cases o <;> simp at h
    obtain ⟨rfl, rfl⟩ := this
    simp only [List.nil_append, splitL]
    split <;> rfl
  | y :: l, o, p, h => by
    simp only [splitL] at h
    rw [List.cons_append]
    simp only [splitL]
    by_cases hy : y = c
    · rw [if_pos hy] at h ⊢
      cases o with
      | nil => exact absurd (List.cons.inj h).2 (splitL_ne c l)
      | cons z o =>
        rw [List.cons_append, List.cons.injEq] at h
        obtain ⟨rfl, h⟩ := h
        rw [splitL_snoc c x l o p h]
        split <;> rfl
    · rw [if_neg hy] at h ⊢
      generalize hs : splitL c l = s at h
      cases s with
      | nil => exact absurd hs (splitL_ne c l)
      | cons z s =>
        simp only [consH] at h
        cases o with
        | nil =>
          have : s = [] ∧ p = y :: z := by
            rw [List.nil_append, List.cons.injEq] at h
            exact ⟨h.2, h.1.symm⟩
          obtain ⟨rfl, rfl⟩ := this
          rw [splitL_snoc c x l [] z hs]
          split <;> simp [consH]
        | cons w o =>
          rw [List.cons_append, List.cons.injEq] at h
          obtain ⟨rfl, h⟩ := h
          rw [splitL_snoc c x l (z :: o) p (by rw [hs, h]; rfl)]
          split <;> simp [consH]

/-! ### the library's own words -/
theorem index_spec (c : UInt8) : ∀ (l : List UInt8), (Lib.index l [c] = -1 ∧ c ∉ l) ∨ ∃ a b, l = a ++ c :: b ∧ c ∉ a ∧ Lib.index l [c] = a.length
  | [] => .inl ⟨by simp [Lib.index], by simp⟩
  | x :: l => by
    rw [Lib.index_one]
    simp only [Lib.indexByte]
    by_cases hx : x = c
    · subst hx
      exact .inr ⟨[], l, rfl, by simp, by simp⟩
    · have ih := index_spec c l
      rw [Lib.index_one] at ih
      rw [if_neg (by simpa using hx)]
      rcases ih with ⟨h1, h2⟩ | ⟨a, b, rfl, h2, h3⟩
      · exact .inl ⟨by rw [h1]; rfl, by simp [h2, Ne.symm hx]⟩
      · refine .inr ⟨x :: a, b, rfl, by simp [h2, Ne.symm hx], ?_⟩
        rw [if_neg (by rw [h3]; simp), h3]
        simp
theorem splitK_eq (c : UInt8) : ∀ (n : Nat) (l : List UInt8), l.length ≤ n → Lib.splitK [c] 0 (Lib.count l [c]) l = splitL c l
  | n, l, hn => by
    rcases index_spec c l with ⟨h1, h2⟩ | ⟨a, b, rfl, h2, h3⟩
    · rw [Lib.count_miss h1, splitL_miss h2]
      rfl
    · rw [Lib.count_hit (by simp) h3, splitL_hit h2, Nat.add_comm 1]
      have hb : (a ++ c :: b).drop (a.length + [c].length) = b := by
        rw [← List.drop_drop]
        simp
      cases n with
      | zero => simp at hn
      | succ n =>
        rw [hb]
        unfold Lib.splitK
        rw [if_neg (by rw [h3]; simp), h3]
        have e : ((a.length : Int)).toNat = a.length := by omega
        rw [e, hb, splitK_eq c n b (by simp at hn; omega)]
        simp
/-- A text cut at each c. -/
def splitT (c : UInt8) (s : ByteArray) : List ByteArray := (splitL c (chars s)).map fun l => ⟨l.toArray⟩
theorem splitOf_eq (c : UInt8) (s : ByteArray) : splitOf s ⟨#[c]⟩ = splitT c s := by
  have h : (splitOf s ⟨#[c]⟩).map chars = splitL c (chars s) := by
    have := Lib.splitB_data ⟨#[c]⟩ 0 (Lib.countB s ⟨#[c]⟩) s
    rw [show (fun x : ByteArray => x.data.toList) = chars from rfl] at this
    rw [splitOf, this]
    exact splitK_eq c _ _ (Nat.le_refl _)
  have h2 : (splitOf s ⟨#[c]⟩).map (fun x => (⟨(chars x).toArray⟩ : ByteArray)) = splitT c s := by
    rw [splitT, ← h, List.map_map]
    rfl
  rw [← h2]
  have : (fun x : ByteArray => (⟨(chars x).toArray⟩ : ByteArray)) = id := funext mk_chars
  rw [this, List.map_id]
theorem e_Split {c : UInt8} {s : ByteArray} (h : s.size < 4294967281) : fSplit [T s, T ⟨#[c]⟩] = some (.ret [.arr 1 ((splitT c s).map T)] []) := by
  have h1 : 1 ≤ (⟨#[c]⟩ : ByteArray).size := Nat.le_refl 1
  simp only [fSplit, h, h1, and_self, if_true, splitOf_eq]
theorem cut_miss {c : UInt8} {l : List UInt8} (h : c ∉ l) : Lib.cut l [c] = (l, [], false) := by
  rcases index_spec c l with ⟨h1, _⟩ | ⟨a, b, rfl, _, _⟩
  · unfold Lib.cut
    rw [h1, if_neg (by decide)]
  · simp at h
theorem cut_hit {c : UInt8} {a b : List UInt8} (h : c ∉ a) : Lib.cut (a ++ c :: b) [c] = (a, b, true) := by
  rcases index_spec c (a ++ c :: b) with ⟨_, h2⟩ | ⟨a', b', e, h2, h3⟩
  · simp at h2
  · have hl : a.length = a'.length := by
      have key : ∀ (a a' b b' : List UInt8), c ∉ a → c ∉ a' → a ++ c :: b = a' ++ c :: b' → a.length = a'.length := by
        intro a
        induction a with
        | nil =>
          intro a' b b' _ h2 e
          cases a' with
          | nil => rfl
          | cons y a' =>
            simp at e
            simp [e.1] at h2
        | cons x a ih =>
          intro a' b b' h1 h2 e
          cases a' with
          | nil =>
            simp at e
            simp [e.1] at h1
          | cons y a' =>
            simp at e h1 h2 ⊢
            exact ih a' b b' h1.2 h2.2 e.2
      exact key a a' b b' h h2 e
    unfold Lib.cut
    rw [h3, if_pos (by omega)]
    have e2 : ((a'.length : Int)).toNat = a.length := by omega
    rw [e2]
    have hb : (a ++ c :: b).drop (a.length + [c].length) = b := by
      rw [← List.drop_drop]
      simp
    rw [hb]
    simp

theorem splitL_length (c : UInt8) : ∀ (l : List UInt8), (splitL c l).length ≤ l.length + 1
  | [] => by simp [splitL]
  | x :: l => by
    have ih := splitL_length c l
    simp only [splitL]
    split
    · simp; omega
    · generalize splitL c l = s at ih
      cases s <;> simp [consH] at ih ⊢ <;> omega
theorem one_text (s : ByteArray) : mkArr 1 [T s] = some (.arr 1 [T s]) := by simp [mkArr, lenOkD]
theorem chkA_texts (l : List ByteArray) : chkA (.arr 1 (l.map T)) = some (.arr 1 (l.map T)) := chkA_map fun _ => rfl

theorem e_spec_l1Split (s : ByteArray) (c : UInt8) (h : s.size ≤ 4294967296) : F_spec_l1Split [T s, U c.toNat] = some (.ret [.arr 1 ((splitT c s).map T)] []) := by
  rw [t_spec_l1Split]
  let mk : List UInt8 → ByteArray := fun l => ⟨l.toArray⟩
  refine loop_wf_bind (fun r => r = _) (fun (a : List (List UInt8) × Nat × Nat) => [T s, U c.toNat, .arr 1 ((a.1.map mk).map T), I (a.2.1 : Int), I (a.2.2 : Int)])
    (fun a => a.2.2 ≤ s.size ∧ a.2.1 ≤ a.2.2 ∧ a.1.length ≤ a.2.2 ∧ splitL c ((chars s).take a.2.2) = a.1 ++ [((chars s).take a.2.2).drop a.2.1])
    (fun a => s.size - a.2.2) (fun o => ∃ (outs : List (List UInt8)) (fr : Nat), o = .ext 0 [T s, .arr 1 ((outs.map mk).map T), I (fr : Int)] ∧ fr ≤ s.size ∧ outs.length ≤ s.size ∧ splitL c (chars s) = outs ++ [(chars s).drop fr])
    ?_ ([], 0, 0) ⟨Nat.zero_le _, Nat.le_refl _, Nat.le_refl _, by simp [splitL]⟩ rfl ?_
  · rintro ⟨outs, fr, i⟩ ⟨h1, h2, h3, h4⟩
    simp only at h1 h2 h3 h4
    by_cases hi : i < s.size
    · left
      have hl : i < (chars s).length := by rw [← size_list]; exact hi
      have hi' : (i : Int) < (s.size : Int) := by omega
      have hw : IntKind.i64.wrap ((i : Int) + 1) = ((i + 1 : Nat) : Int) := by rw [wrap_id (by omega) (by omega)]; omega
      have hch : charD (T s) (I (i : Int)) = some (U ((chars s)[i].toNat : Int)) := by
        rw [charD_nat, List.getElem?_eq_getElem hl]
        rfl
      have htk : (chars s).take (i + 1) = (chars s).take i ++ [(chars s)[i]] := List.take_succ_eq_append_getElem hl
      have hdr : ((chars s).take i ++ [(chars s)[i]]).drop fr = ((chars s).take i).drop fr ++ [(chars s)[i]] := by
        rw [List.drop_append_of_le_length (by rw [List.length_take]; omega)]
      by_cases hc : (chars s)[i] = c
      · refine ⟨(outs ++ [((chars s).take i).drop fr], i + 1, i + 1), ?_, ⟨by simp only; omega, Nat.le_refl _, by simp; omega, ?_⟩, by simp only; omega⟩
        · have hsl := sliceS (s := s) (z := 0) (i := fr) (j := i) h2 (by omega)
          have hmk : mk (((chars s).take i).drop fr) = s.extract fr i := chars_inj (by rw [chars_extract]; exact chars_mk _)
          have hap : (outs.length + 1) * 16 ≤ 140737488355328 ∧ outs.length + 1 ≤ 1152921504606846976 := by omega
          have e2 : (outs ++ [((chars s).take i).drop fr]).map mk = outs.map mk ++ [s.extract fr i] := by rw [List.map_append, List.map_cons, List.map_nil, hmk]
          have e1 : ((outs.map mk).map T).length + [T (s.extract fr i)].length = outs.length + 1 := by simp
          have hck : chkA (.arr 1 [T (s.extract fr i)]) = some (.arr 1 [T (s.extract fr i)]) := chkA_texts [s.extract fr i]
          simp only [sl_zero, sl_succ, lenD_str, Option.bind_some, bin_lss, hi', decide_true, ifD_B, if_true, hch, bin_eql, hc, hsl, one_text, hck, appD_eq, e1, hap, and_self, bin_add, hw, e2, List.map_append, List.map_cons, List.map_nil]
        · have := splitL_snoc c (chars s)[i] _ _ _ h4
          rw [if_pos hc, ← htk] at this
          simp only
          have hz : ((chars s).take (i + 1)).drop (i + 1) = [] := List.drop_eq_nil_of_le (by rw [List.length_take]; omega)
          rw [this, hz]
      · refine ⟨(outs, fr, i + 1), ?_, ⟨by simp only; omega, by simp only; omega, by simp only; omega, ?_⟩, by simp only; omega⟩
        · have hne : ¬ ((chars s)[i].toNat : Int) = (c.toNat : Int) := fun e => hc (UInt8.toNat_inj.1 (by omega))
          simp only [sl_zero, sl_succ, lenD_str, Option.bind_some, bin_lss, hi', decide_true, ifD_B, if_true, hch, bin_eql, hne, decide_false, Bool.false_eq_true, if_false, bin_add, hw]
        · have := splitL_snoc c (chars s)[i] _ _ _ h4
          rw [if_neg hc, ← htk] at this
          simp only
          rw [this, htk, hdr]
    · right
      have hi' : ¬ (i : Int) < (s.size : Int) := by omega
      have hie : i = s.size := by omega
      refine ⟨_, ?_, rfl, outs, fr, rfl, by omega, by omega, ?_⟩
      · simp only [sl_zero, sl_succ, lenD_str, Option.bind_some, bin_lss, hi', decide_false, ifD_B, Bool.false_eq_true, if_false]
      · rw [hie, size_list, List.take_length] at h4
        exact h4
  · rintro o ⟨outs, fr, rfl, h1, h2, h3⟩
    have hsl := sliceHiS (s := s) (z := 0) (i := fr) h1
    have hmk : mk ((chars s).drop fr) = s.extract fr s.size := chars_inj (by rw [chars_extract, size_list, List.take_length]; exact chars_mk _)
    have hap : (outs.length + 1) * 16 ≤ 140737488355328 ∧ outs.length + 1 ≤ 1152921504606846976 := by omega
    have e1 : ((outs.map mk).map T).length + [T (s.extract fr s.size)].length = outs.length + 1 := by simp
    have hck : chkA (.arr 1 [T (s.extract fr s.size)]) = some (.arr 1 [T (s.extract fr s.size)]) := chkA_texts [s.extract fr s.size]
    have e2 : splitT c s = outs.map mk ++ [s.extract fr s.size] := by rw [splitT, h3, List.map_append, List.map_cons, List.map_nil]; exact congrArg _ (congrArg (fun x => [x]) hmk)
    simp only [outK_ext, Nat.beq_refl, ifN_B, if_true, sl_zero, sl_succ, hsl, Option.bind_some, one_text, hck, appD_eq, e1, hap, and_self, e2, List.map_append, List.map_cons, List.map_nil]
end Go.Proofs.YtoocdnbkiejihaaDoor
/-
  Numbers read out of texts: the plain laws; 'l1Read', 'numbersIn'.
-/
namespace Go.Proofs.YtoocdnbkiejihaaDoor
open Go Go.V
set_option linter.unusedSimpArgs false

/-! ### digits -/
def dig (b : UInt8) : Bool := decide (48 ≤ b.toNat) && decide (b.toNat ≤ 57)
theorem dig_iff {b : UInt8} : dig b = true ↔ 48 ≤ b.toNat ∧ b.toNat ≤ 57 := by simp [dig]
theorem toNat_digit {u : Nat} (h : u < 10) : (UInt8.ofNat (48 + u)).toNat = 48 + u := by
  simp
  omega
theorem dig_ofNat {u : Nat} (h : u < 10) : dig (UInt8.ofNat (48 + u)) = true := by
  rw [dig_iff, toNat_digit h]
  omega
theorem decDigits_step {u : Nat} (h : ¬ u < 10) : Lib.decDigits u = Lib.decDigits (u / 10) ++ [UInt8.ofNat (48 + u % 10)] := by rw [Lib.decDigits, dif_neg h]
theorem decDigits_ind {P : Nat → Prop} (h0 : ∀ u, u < 10 → P u) (h1 : ∀ u, ¬ u < 10 → P (u / 10) → P u) : ∀ u, P u := by
  intro u
  induction u using Nat.strongRecOn with
  | _ u ih =>
    by_cases h : u < 10
    · exact h0 u h
    · exact h1 u h (ih (u / 10) (by omega))
theorem decDigits_dig : ∀ u, ∀ b ∈ Lib.decDigits u, dig b = true := by
  refine decDigits_ind (fun u h b hb => ?_) (fun u h ih b hb => ?_)
  · rw [Lib.decDigits_one h] at hb
    rw [List.mem_singleton.1 hb]
    exact dig_ofNat h
  · rw [decDigits_step h] at hb
    rcases List.mem_append.1 hb with hb | hb
    · exact ih b hb
    · rw [List.mem_singleton.1 hb]
      exact dig_ofNat (Nat.mod_lt u (show 10 > 0 by decide))
theorem decDigits_ne : ∀ u, Lib.decDigits u ≠ [] := by
  refine decDigits_ind (fun u h => ?_) (fun u h ih => ?_)
  · rw [Lib.decDigits_one h]; simp
  · rw [decDigits_step h]; simp
/-- The first digit is 0 just at 0. -/
theorem decDigits_head : ∀ u, 0 < u → ∀ b t, Lib.decDigits u = b :: t → b ≠ 48 := by
  refine decDigits_ind (fun u h h0 b t e => ?_) (fun u h ih h0 b t e => ?_)
  · rw [Lib.decDigits_one h] at e
    obtain ⟨rfl, _⟩ := List.cons.inj e
    intro e2
    have := congrArg UInt8.toNat e2
    rw [toNat_digit h] at this
    have h48 : (48 : UInt8).toNat = 48 := rfl
    omega
  · rw [decDigits_step h] at e
    cases hd : Lib.decDigits (u / 10) with
    | nil => exact absurd hd (decDigits_ne _)
    | cons b' t' =>
      rw [hd, List.cons_append] at e
      obtain ⟨rfl, _⟩ := List.cons.inj e
      exact ih (by omega) _ _ hd
/-- What digits spell. -/
def valF (a : Nat) (l : List UInt8) : Nat := l.foldl (fun a b => a * 10 + (b.toNat - 48)) a
theorem valF_dec : ∀ u, valF 0 (Lib.decDigits u) = u := by
  refine decDigits_ind (fun u h => ?_) (fun u h ih => ?_)
  · rw [Lib.decDigits_one h]
    simp only [valF, List.foldl_cons, List.foldl_nil, toNat_digit h]
    omega
  · rw [decDigits_step h]
    simp only [valF] at ih ⊢
    rw [List.foldl_append, ih]
    simp only [List.foldl_cons, List.foldl_nil, toNat_digit (Nat.mod_lt u (show 10 > 0 by decide))]
    omega

/-! ### strconv.Atoi -/
theorem parse_append : ∀ (l r : List UInt8) (a b : Nat), Lib.parseUint10 a l = .ok b → Lib.parseUint10 a (l ++ r) = Lib.parseUint10 b r
  | [], r, a, b, h => by
    simp only [Lib.parseUint10] at h
    injection h with h
    subst h
    rfl
  | c :: l, r, a, b, h => by
    simp only [Lib.parseUint10] at h
    rw [List.cons_append]
    simp only [Lib.parseUint10]
    split at h
    · rename_i h1
      rw [if_pos h1]
      split at h
      · cases h
      · rename_i h2
        rw [if_neg h2]
        split at h
        · cases h
        · rename_i h3
          rw [if_neg h3]
          exact parse_append l r _ b h
    · cases h
theorem parse_dec : ∀ u, u < 1844674407370955162 → Lib.parseUint10 0 (Lib.decDigits u) = .ok u := by
  refine decDigits_ind (fun u h hu => ?_) (fun u h ih hu => ?_)
  · rw [Lib.decDigits_one h]
    simp only [Lib.parseUint10, toNat_digit h]
    rw [if_pos (by omega), if_neg (by omega), if_neg (by omega)]
    congr 1
    omega
  · have h10 := toNat_digit (Nat.mod_lt u (show 10 > 0 by decide))
    rw [decDigits_step h, parse_append _ _ _ _ (ih (by omega))]
    simp only [Lib.parseUint10, h10]
    rw [if_pos (by omega), if_neg (by omega), if_neg (by omega)]
    congr 1
    omega
theorem atoi_dec {u : Nat} (h : u < 1844674407370955162) : Lib.atoiAll (Lib.decDigits u) = .ok (u : Int) := by
  have hp := parse_dec u h
  cases hd : Lib.decDigits u with
  | nil => exact absurd hd (decDigits_ne u)
  | cons c r =>
    have hc := dig_iff.1 (decDigits_dig u c (by rw [hd]; simp))
    rw [hd] at hp
    unfold Lib.atoiAll
    simp only
    rw [if_neg (by omega)]
    unfold Lib.parseMag
    rw [if_neg (by simp), hp]
    simp only
    have h45 : ¬ c.toNat = 45 := by omega
    rw [if_neg (by omega), if_neg (by simp [h45]), if_neg h45]

/-! ### the fields of a text -/
def sepB (b : UInt8) : Bool := isSep b.toNat
theorem sepB_dig (b : UInt8) : sepB b = !dig b := by
  simp only [sepB, isSep, dig]
  by_cases h1 : b.toNat < 48 <;> by_cases h2 : 57 < b.toNat <;> simp [h1, h2] <;> omega
def flds : Option (List UInt8) → List UInt8 → List (List UInt8)
  | none, [] => []
  | some c, [] => [c]
  | none, b :: l => if sepB b = true then flds none l else flds (some [b]) l
  | some c, b :: l => if sepB b = true then c :: flds none l else flds (some (c ++ [b])) l
theorem flds_sep : ∀ {a : List UInt8} (l : List UInt8), (∀ b ∈ a, dig b = false) → flds none (a ++ l) = flds none l
  | [], _, _ => rfl
  | x :: a, l, h => by
    rw [List.cons_append]
    simp only [flds]
    rw [if_pos (by rw [sepB_dig, h x (by simp)]; rfl)]
    exact flds_sep l fun b hb => h b (by simp [hb])
theorem flds_cur : ∀ {w : List UInt8} (c l : List UInt8), (∀ b ∈ w, dig b = true) → flds (some c) (w ++ l) = flds (some (c ++ w)) l
  | [], c, l, _ => by simp
  | x :: w, c, l, h => by
    rw [List.cons_append]
    simp only [flds]
    rw [if_neg (by rw [sepB_dig, h x (by simp)]; simp), flds_cur (c ++ [x]) l fun b hb => h b (by simp [hb])]
    simp
theorem flds_word {w : List UInt8} (hn : w ≠ []) (h : ∀ b ∈ w, dig b = true) {x : UInt8} (hx : dig x = false) (l : List UInt8) : flds none (w ++ x :: l) = w :: flds none l := by
  cases w with
  | nil => exact absurd rfl hn
  | cons y w =>
    rw [List.cons_append]
    simp only [flds]
    rw [if_neg (by rw [sepB_dig, h y (by simp)]; simp), flds_cur [y] _ fun b hb => h b (by simp [hb])]
    simp only [flds]
    rw [if_pos (by rw [sepB_dig, hx]; rfl)]
    rfl
theorem flds_last {w : List UInt8} (hn : w ≠ []) (h : ∀ b ∈ w, dig b = true) : flds none w = [w] := by
  cases w with
  | nil => exact absurd rfl hn
  | cons y w =>
    simp only [flds]
    rw [if_neg (by rw [sepB_dig, h y (by simp)]; simp)]
    have := flds_cur (w := w) [y] [] fun b hb => h b (by simp [hb])
    rw [List.append_nil] at this
    rw [this]
    rfl

theorem fields_spans (s : ByteArray) (hs : ∀ b ∈ chars s, b.toNat < 128) : ∀ (f pos : Nat) (st : Option Nat) (acc : List (Nat × Nat)), s.size ≤ pos + f → pos ≤ s.size → (∀ a, st = some a → a < pos) →
    (Lib.closeSpans s (Lib.spansFromP isSep s f pos st acc)).map (fun x => chars (s.extract x.1 x.2)) = acc.map (fun x => chars (s.extract x.1 x.2)) ++ flds (st.map fun a => ((chars s).take pos).drop a) ((chars s).drop pos) := by
  intro f
  induction f with
  | zero =>
    intro pos st acc h1 h2 h3
    have hp : pos = s.size := by omega
    have hd : (chars s).drop pos = [] := List.drop_eq_nil_of_le (by rw [← size_list]; omega)
    rw [hd]
    cases st with
    | none => simp [Lib.spansFromP, Lib.closeSpans, flds]
    | some a => simp only [Lib.spansFromP, Lib.closeSpans, flds, Option.map_some, List.map_append, List.map_cons, List.map_nil, chars_extract, hp]
  | succ f ih =>
    intro pos st acc h1 h2 h3
    by_cases hp : pos < s.size
    case neg =>
      have hpe : pos = s.size := by omega
      have hd : (chars s).drop pos = [] := List.drop_eq_nil_of_le (by rw [← size_list]; omega)
      rw [hd, Lib.spansFromP_end _ _ _ _ _ _ hp]
      cases st with
      | none => simp [Lib.closeSpans, flds]
      | some a => simp only [Lib.closeSpans, flds, Option.map_some, List.map_append, List.map_cons, List.map_nil, chars_extract, hpe]
    have hl : pos < (chars s).length := by rw [← size_list]; exact hp
    have hb : (chars s)[pos].toNat < 128 := hs _ (List.getElem_mem hl)
    have hdec : Utf8.decode s pos = ((chars s)[pos].toNat, 1) := decode_ascii s pos hp hb
    have hcons : (chars s).drop pos = (chars s)[pos] :: (chars s).drop (pos + 1) := List.drop_eq_getElem_cons hl
    have htk : (chars s).take (pos + 1) = (chars s).take pos ++ [(chars s)[pos]] := List.take_succ_eq_append_getElem hl
    rw [hcons]
    unfold Lib.spansFromP
    rw [if_pos hp, hdec]
    simp only
    by_cases hsep : isSep (chars s)[pos].toNat = true
    · rw [if_pos hsep]
      cases st with
      | none =>
        simp only [Option.map_none, flds]
        rw [if_pos (show sepB _ = true from hsep)]
        exact ih (pos + 1) none acc (by omega) (by omega) (by simp)
      | some a =>
        simp only [Option.map_some, flds]
        rw [if_pos (show sepB _ = true from hsep), ih (pos + 1) none (acc ++ [(a, pos)]) (by omega) (by omega) (by simp)]
        simp only [List.map_append, List.map_cons, List.map_nil, List.append_assoc, chars_extract, Option.map_none, List.cons_append, List.nil_append]
    · rw [if_neg hsep]
      cases st with
      | none =>
        simp only [Option.map_none, flds]
        rw [if_neg (show ¬ sepB _ = true from hsep), ih (pos + 1) (some pos) acc (by omega) (by omega) (by intro a ha; cases ha; omega)]
        simp only [Option.map_some]
        rw [htk, List.drop_append_of_le_length (by rw [List.length_take]; omega), List.drop_eq_nil_of_le (by rw [List.length_take]; omega)]
        rfl
      | some a =>
        have ha := h3 a rfl
        simp only [Option.map_some, flds]
        rw [if_neg (show ¬ sepB _ = true from hsep), ih (pos + 1) (some a) acc (by omega) (by omega) (by intro a' ha'; cases ha'; omega)]
        simp only [Option.map_some]
        rw [htk, List.drop_append_of_le_length (by rw [List.length_take]; omega)]
theorem fields_ascii (s : ByteArray) (hs : ∀ b ∈ chars s, b.toNat < 128) : (Lib.goFieldsP isSep s).map chars = flds none (chars s) := by
  have := fields_spans s hs s.size 0 none [] (by omega) (Nat.zero_le _) (by simp)
  simpa [Lib.goFieldsP, Lib.spansOfP, List.map_map, Function.comp_def] using this

/-! ### numbersIn -/
/-- The numbers that words spell; none, if one is no number. -/
def numsG : List ByteArray → List Int → List Int
  | [], acc => acc
  | w :: l, acc => match Lib.atoiAll (chars w) with
    | .ok v => numsG l (acc ++ [v])
    | _ => []
def numsT (s : ByteArray) : List Int := numsG (Lib.goFieldsP isSep s) []
abbrev ints (l : List Int) : D := .arr 1 (l.map I)
theorem spans_length (p : Nat → Bool) (s : ByteArray) : ∀ (f pos : Nat) (st : Option Nat) (acc : List (Nat × Nat)), (Lib.spansFromP p s f pos st acc).1.length ≤ acc.length + f
  | 0, pos, st, acc => by simp [Lib.spansFromP]
  | f + 1, pos, st, acc => by
    unfold Lib.spansFromP
    by_cases hp : pos < s.size
    case neg =>
      rw [if_neg hp]
      exact Nat.le_add_right _ _
    rw [if_pos hp]
    by_cases hq : p (Utf8.decode s pos).1 = true
    · rw [if_pos hq]
      cases st with
      | none => exact Nat.le_trans (spans_length p s f _ none acc) (by omega)
      | some a =>
        have h := spans_length p s f (pos + (Utf8.decode s pos).2) none (acc ++ [(a, pos)])
        rw [List.length_append, List.length_singleton] at h
        exact Nat.le_trans h (by omega)
    · rw [if_neg hq]
      cases st with
      | none => exact Nat.le_trans (spans_length p s f _ _ acc) (by omega)
      | some a => exact Nat.le_trans (spans_length p s f _ _ acc) (by omega)
theorem fields_length (p : Nat → Bool) (s : ByteArray) : (Lib.goFieldsP p s).length ≤ s.size + 1 := by
  unfold Lib.goFieldsP Lib.spansOfP
  rw [List.length_map]
  have := spans_length p s s.size 0 none []
  unfold Lib.closeSpans
  split
  · simp only [List.length_append, List.length_cons, List.length_nil] at this ⊢; omega
  · simp only [List.length_nil] at this; omega
theorem fields_size (p : Nat → Bool) (s : ByteArray) : ∀ w ∈ Lib.goFieldsP p s, w.size ≤ s.size := by
  intro w hw
  unfold Lib.goFieldsP at hw
  obtain ⟨x, _, rfl⟩ := List.mem_map.1 hw
  rw [size_list, chars_extract, List.length_drop, List.length_take, ← size_list]
  omega
theorem e_FieldsFunc (s : ByteArray) (k : Nat) (p : Nat → Bool) (h : s.size ≤ 4294967296) : fFieldsFunc k p [T s, .clo k []] = some (.ret [.arr 1 ((Lib.goFieldsP p s).map T)] []) := by
  simp only [fFieldsFunc, h, and_self, if_true]
theorem one_int (a : Int) : mkArr 1 [I a] = some (ints [a]) := by simp [mkArr, lenOkD]
theorem chkA_ints (l : List Int) : chkA (ints l) = some (ints l) := chkA_map fun _ => rfl
theorem e_Atoi (w : ByteArray) (h : w.size ≤ 4294967296) : fAtoi [T w] = some (match Lib.atoiAll (chars w) with
    | .ok v => Out.ret [I v, .v .nilIface] []
    | .range => Out.ret [I (Lib.atoiSat (chars w)), .ifc] []
    | _ => Out.ret [I 0, .ifc] []) := by
  have h2 : w.size ≤ 281474976710656 := by omega
  simp only [fAtoi, h2, if_true]
  rw [show w.data.toList = chars w from rfl]
  cases Lib.atoiAll (chars w) <;> rfl
theorem e_impl_numbersIn (s : ByteArray) (h : s.size ≤ 1048576) : F_impl_numbersIn [T s] = some (.ret [ints (numsT s)] []) := by
  rw [t_impl_numbersIn]
  have hl := fields_length isSep s
  have hz := fields_size isSep s
  rw [e_FieldsFunc s _ isSep (by omega)]
  simp only [mkArr_nil, Option.bind_some, callK_ret, sl_zero, lenD_arr, List.length_map]
  generalize hw : Lib.goFieldsP isSep s = ws at hl hz
  have hnum : numsT s = numsG ws [] := by rw [numsT, hw]
  rw [hnum]
  refine loop_wf_bind (fun r => r = _) (fun (a : List Int × Nat) => [ints a.1, .arr 1 (ws.map T), I ws.length, I (a.2 : Int)]) (fun a => a.2 ≤ ws.length ∧ a.1.length ≤ a.2 ∧ numsG (ws.drop a.2) a.1 = numsG ws [])
    (fun a => ws.length - a.2) (fun o => o = .ext 0 [ints (numsG ws [])] ∨ o = .ret [ints (numsG ws [])] []) ?_ ([], 0) ⟨Nat.zero_le _, Nat.le_refl _, rfl⟩ rfl ?_
  · rintro ⟨acc, i⟩ ⟨h1, h2, h3⟩
    simp only at h1 h2 h3
    by_cases hi : i < ws.length
    · have hi' : (i : Int) < (ws.length : Int) := by omega
      have hw : IntKind.i64.wrap ((i : Int) + 1) = ((i + 1 : Nat) : Int) := by rw [wrap_id (by omega) (by omega)]; omega
      have hat := e_Atoi ws[i] (by have := hz ws[i] (List.getElem_mem hi); omega)
      have hel : elemD 1 (.arr 1 (ws.map T)) (I (i : Int)) = some [T ws[i]] := by simp [hi]
      rw [List.drop_eq_getElem_cons hi] at h3
      simp only [numsG] at h3
      cases ha : Lib.atoiAll (chars ws[i]) with
      | ok v =>
        rw [ha] at h3 hat
        left
        refine ⟨(acc ++ [v], i + 1), ?_, ⟨by simp only; omega, by simp; omega, h3⟩, by simp only; omega⟩
        have e1 : (acc.map I).length + ([v].map I).length = acc.length + 1 := by simp
        have hap : (acc.length + 1) * 8 ≤ 140737488355328 ∧ acc.length + 1 ≤ 1152921504606846976 := by omega
        simp only [sl_zero, sl_succ, Option.bind_some, bin_lss, hi', decide_true, ifD_B, if_true, hel, Option.map_some, ldD_ptr, takeD_f, chkV_v, hat, callK_ret, show tupAt (.tup [I v, .v .nilIface]) 0 = some (I v) from rfl,
          show tupAt (.tup [I v, .v .nilIface]) 1 = some (.v .nilIface) from rfl, show binI true BinOp.neq (.v .nilIface) (.v .nilIface) = some (B false) from rfl, Bool.false_eq_true, if_false, one_int, chkA_ints, appD_eq, e1, hap, and_self, bin_add, hw]
        rw [← List.map_append]
      | range =>
        rw [ha] at h3 hat
        right
        refine ⟨.ret [ints []] [], ?_, rfl, .inr (by rw [← h3])⟩
        simp only [sl_zero, sl_succ, Option.bind_some, bin_lss, hi', decide_true, ifD_B, if_true, hel, Option.map_some, ldD_ptr, takeD_f, chkV_v, hat, callK_ret, show ∀ n : Int, tupAt (.tup [I n, .ifc]) 0 = some (I n) from fun _ => rfl,
          show ∀ n : Int, tupAt (.tup [I n, .ifc]) 1 = some .ifc from fun _ => rfl, show binI true BinOp.neq .ifc (.v .nilIface) = some (B true) from rfl, mkArr_nil]
        rfl
      | _ =>
        rw [ha] at h3 hat
        right
        refine ⟨.ret [ints []] [], ?_, rfl, .inr (by rw [← h3])⟩
        simp only [sl_zero, sl_succ, Option.bind_some, bin_lss, hi', decide_true, ifD_B, if_true, hel, Option.map_some, ldD_ptr, takeD_f, chkV_v, hat, callK_ret, show tupAt (.tup [I 0, .ifc]) 0 = some (I 0) from rfl,
          show tupAt (.tup [I 0, .ifc]) 1 = some .ifc from rfl, show binI true BinOp.neq .ifc (.v .nilIface) = some (B true) from rfl, mkArr_nil]
        rfl
    · right
      have hi' : ¬ (i : Int) < (ws.length : Int) := by omega
      refine ⟨.ext 0 [ints acc], ?_, rfl, .inl ?_⟩
      · simp only [sl_zero, sl_succ, Option.bind_some, bin_lss, hi', decide_false, ifD_B, Bool.false_eq_true, if_false]
      · rw [List.drop_eq_nil_of_le (by omega)] at h3
        rw [← h3]
        rfl
  · rintro o (rfl | rfl)
    · simp only [outK_ext, Nat.beq_refl, ifN_B, if_true, sl_zero]
    · rfl
end Go.Proofs.YtoocdnbkiejihaaDoor
/-
  Orders read out of texts.
-/
namespace Go.Proofs.YtoocdnbkiejihaaDoor
open Go Go.V
set_option linter.unusedSimpArgs false

/-! ### l1Read -/
def readL (l : List UInt8) : Int :=
  if (1 ≤ l.length ∧ l.length ≤ 6) ∧ ¬ (l.head? = some 48 ∧ 1 < l.length) ∧ l.all dig = true then (valF 0 l : Int) else -1
def readT (s : ByteArray) : Int := readL (chars s)
theorem valF_snoc (l : List UInt8) (x : UInt8) (a : Nat) : valF a (l ++ [x]) = valF a l * 10 + (x.toNat - 48) := by simp [valF, List.foldl_append]
theorem valF_lt : ∀ (n : Nat) (l : List UInt8), l.length = n → (∀ b ∈ l, dig b = true) → valF 0 l < 10 ^ n := by
  intro n
  induction n with
  | zero =>
    intro l hl _
    rw [List.eq_nil_of_length_eq_zero hl]
    decide
  | succ n ih =>
    intro l hl hd
    have hne : l ≠ [] := fun e => by rw [e] at hl; simp at hl
    have hsp := List.dropLast_concat_getLast hne
    have h1 := ih l.dropLast (by rw [List.length_dropLast]; omega) fun b hb => hd b ((List.dropLast_sublist l).subset hb)
    have h2 := dig_iff.1 (hd _ (List.getLast_mem hne))
    rw [← hsp, valF_snoc, Nat.pow_succ]
    omega
theorem e_spec_l1Read (s : ByteArray) (h : s.size ≤ 4294967296) : F_spec_l1Read [T s] = some (.ret [I (readT s)] []) := by
  rw [t_spec_l1Read]
  have hsz : s.size = (chars s).length := rfl
  by_cases h1 : 1 ≤ (s.size : Int) ∧ (s.size : Int) ≤ 6
  case neg =>
    have hr : readT s = -1 := by
      unfold readT readL
      rw [if_neg (by rintro ⟨⟨g1, g2⟩, _⟩; exact h1 (by omega))]
    rw [hr]
    simp -implicitDefEqProofs [e_spec_l1In, h1]
  have hpos : 0 < (chars s).length := by omega
  have hch0 : charD (T s) (I 0) = some (U ((chars s)[0].toNat : Int)) := by
    have := charD_nat (s := s) (k := .i64) (i := 0)
    rw [List.getElem?_eq_getElem hpos] at this
    exact this
  have hhead : (chars s).head? = some (chars s)[0] := by rw [List.head?_eq_getElem?, List.getElem?_eq_getElem hpos]
  have h48 : (48 : UInt8).toNat = 48 := rfl
  have hc48 : ((chars s)[0].toNat : Int) = 48 ↔ (chars s)[0] = 48 := ⟨fun e => UInt8.toNat_inj.1 (by omega), fun e => by rw [e]; rfl⟩
  by_cases h2 : (chars s)[0] = 48 ∧ 1 < (chars s).length
  · have hr : readT s = -1 := by
      unfold readT readL
      rw [if_neg (by rintro ⟨_, g, _⟩; exact g ⟨by rw [hhead, h2.1], h2.2⟩)]
    have hl : (1 : Int) < (s.size : Int) := by omega
    have hc := hc48.2 h2.1
    rw [hr]
    simp -implicitDefEqProofs [e_spec_l1In, h1, hch0, hc, hl]
  have hgo : ∀ (K : D → Option Out), ((bin BinOp.eql false [] (U ((chars s)[0].toNat : Int)) (D.v (Value.int IntKind.u8 48))).bind fun z_3 => (gate (D.tup []) (B false) false (some z_3)).bind fun z_4 => (gate (D.tup []) z_4 true (some (T s))).bind fun z_5 =>
      (gate (D.tup []) z_4 true (lenD true z_5)).bind fun z_6 => (gate (D.tup []) z_4 true (bin BinOp.gtr false [] z_6 (D.v (Value.int IntKind.i64 1)))).bind fun z_7 => (gate (D.tup []) (B false) false (pickD z_4 z_7 (D.v (Value.bool false)))).bind K) = K (B false) := by
    intro K
    by_cases e : ((chars s)[0].toNat : Int) = 48
    · have : ¬ (1 : Int) < (s.size : Int) := fun hl => h2 ⟨hc48.1 e, by omega⟩
      simp -implicitDefEqProofs [e, this]
    · simp -implicitDefEqProofs [e]
  simp only [lenD_str, Option.bind_some, e_spec_l1In, h1, and_self, decide_true, callK_ret, sl_zero, un_not, Bool.not_true, gate_f, Bool.false_eq_true, if_false, hch0]
  have hgo' := hgo
  simp only [gate_f, Bool.false_eq_true, if_false, Option.bind_some] at hgo'
  rw [hgo']
  simp only [pickD_B, Bool.false_eq_true, if_false, Option.bind_some, ifD_B]
  refine loop_wf_bind (fun r => r = _) (fun (a : Nat × Nat) => [T s, I (a.1 : Int), I (a.2 : Int)]) (fun a => a.2 ≤ s.size ∧ a.1 = valF 0 ((chars s).take a.2) ∧ ∀ b ∈ (chars s).take a.2, dig b = true) (fun a => s.size - a.2)
    (fun o => o = if (chars s).all dig = true then .ext 0 [I (valF 0 (chars s) : Int)] else .ret [I (-1)] []) ?_ (0, 0) ⟨Nat.zero_le _, rfl, by simp⟩ rfl ?_
  · rintro ⟨n, i⟩ ⟨g1, g2, g3⟩
    simp only at g1 g2 g3
    by_cases hi : i < s.size
    · have hl : i < (chars s).length := by rw [← hsz]; exact hi
      have hi' : (i : Int) < (s.size : Int) := by omega
      have hch : charD (T s) (I (i : Int)) = some (U ((chars s)[i].toNat : Int)) := by
        rw [charD_nat, List.getElem?_eq_getElem hl]
        rfl
      have htk : (chars s).take (i + 1) = (chars s).take i ++ [(chars s)[i]] := List.take_succ_eq_append_getElem hl
      by_cases hd : dig (chars s)[i] = true
      · left
        have hd' := dig_iff.1 hd
        have hn : n < 10 ^ i := by
          rw [g2]
          exact valF_lt i _ (by rw [List.length_take]; omega) g3
        have h10 : 10 ^ i ≤ 10 ^ 6 := Nat.pow_le_pow_right (by decide) (by omega)
        have hw : IntKind.i64.wrap ((i : Int) + 1) = ((i + 1 : Nat) : Int) := by rw [wrap_id (by omega) (by omega)]; omega
        have hw1 : IntKind.i64.wrap (10 * (n : Int)) = 10 * (n : Int) := wrap_id (by omega) (by omega)
        have hw2 : IntKind.u8.wrap (((chars s)[i].toNat : Int) - 48) = ((chars s)[i].toNat : Int) - 48 := wrap8 _ (by omega) (by omega)
        have hw3 : IntKind.i64.wrap (((chars s)[i].toNat : Int) - 48) = ((chars s)[i].toNat : Int) - 48 := wrap_id (by omega) (by omega)
        have hw4 : IntKind.i64.wrap (10 * (n : Int) + (((chars s)[i].toNat : Int) - 48)) = ((n * 10 + ((chars s)[i].toNat - 48) : Nat) : Int) := by rw [wrap_id (by omega) (by omega)]; omega
        have c1 : ¬ ((chars s)[i].toNat : Int) < 48 := by omega
        have c2 : ¬ (57 : Int) < ((chars s)[i].toNat : Int) := by omega
        refine ⟨(n * 10 + ((chars s)[i].toNat - 48), i + 1), ?_, ⟨by simp only; omega, ?_, ?_⟩, by simp only; omega⟩
        · simp only [sl_zero, sl_succ, lenD_str, Option.bind_some, bin_lss, hi', decide_true, ifD_B, if_true, hch, c1, decide_false, gate_f, Bool.false_eq_true, if_false, bin_gtr, c2, pickD_B, bin_mul, hw1, bin_sub, hw2, convD, hw3, bin_add, hw4, hw]
        · simp only
          rw [htk, valF_snoc, g2]
        · simp only
          rw [htk]
          intro b hb
          rcases List.mem_append.1 hb with hb | hb
          · exact g3 b hb
          · rw [List.mem_singleton.1 hb]; exact hd
      · right
        refine ⟨.ret [I (-1)] [], ?_, rfl, ?_⟩
        · by_cases c1 : ((chars s)[i].toNat : Int) < 48
          · simp -implicitDefEqProofs [hi', hch, c1]
          · have c2 : (57 : Int) < ((chars s)[i].toNat : Int) := by
              have : ¬ (48 ≤ (chars s)[i].toNat ∧ (chars s)[i].toNat ≤ 57) := fun e => hd (dig_iff.2 e)
              omega
            simp -implicitDefEqProofs [hi', hch, c1, c2]
        · rw [if_neg]
          intro hall
          exact hd (List.all_eq_true.1 hall _ (List.getElem_mem hl))
    · right
      have hi' : ¬ (i : Int) < (s.size : Int) := by omega
      have hie : (chars s).take i = chars s := List.take_of_length_le (by omega)
      rw [hie] at g2 g3
      refine ⟨.ext 0 [I (n : Int)], ?_, rfl, ?_⟩
      · simp -implicitDefEqProofs [hi']
      · rw [if_pos (List.all_eq_true.2 g3), g2]
  · rintro o rfl
    by_cases ha : (chars s).all dig = true
    · have hr : readT s = (valF 0 (chars s) : Int) := by
        unfold readT readL
        rw [if_pos ⟨⟨by omega, by omega⟩, fun g => h2 ⟨by have := g.1; rw [hhead] at this; exact Option.some.inj this, g.2⟩, ha⟩]
      rw [if_pos ha, hr]
      rfl
    · have hr : readT s = -1 := by
        unfold readT readL
        rw [if_neg (fun g => ha g.2.2)]
      rw [if_neg ha, hr]
      rfl
theorem decDigits_len {u : Nat} (h : u < 1000000) : (Lib.decDigits u).length ≤ 6 := numT_size 5 u (by omega)
theorem readL_dec {u : Nat} (h : u < 1000000) : readL (Lib.decDigits u) = (u : Int) := by
  have h1 := decDigits_ne u
  have h2 := decDigits_len h
  have h3 : 1 ≤ (Lib.decDigits u).length := List.length_pos_iff.2 h1
  have hno : ¬ ((Lib.decDigits u).head? = some 48 ∧ 1 < (Lib.decDigits u).length) := by
    rintro ⟨g1, g2⟩
    by_cases hu : 0 < u
    · cases hd : Lib.decDigits u with
      | nil => exact h1 hd
      | cons b t =>
        rw [hd] at g1
        exact decDigits_head u hu b t hd (by simpa using g1)
    · have : u = 0 := by omega
      subst this
      rw [Lib.decDigits_one (by decide)] at g2
      simp at g2
  unfold readL
  rw [if_pos ⟨⟨h3, h2⟩, hno, List.all_eq_true.2 (decDigits_dig u)⟩, valF_dec]
theorem chars_intT (n : Int) (h : 0 ≤ n) : chars (intT n) = Lib.decDigits n.toNat := by
  obtain ⟨u, rfl⟩ := Int.eq_ofNat_of_zero_le h
  rw [intT_nat]
  exact chars_mk _
theorem readT_int {n : Int} (h0 : 0 ≤ n) (h1 : n < 1000000) : readT (intT n) = n := by
  unfold readT
  rw [chars_intT n h0, readL_dec (by omega)]
  omega
theorem atoi_int {n : Int} (h0 : 0 ≤ n) (h1 : n < 1000000) : Lib.atoiAll (chars (intT n)) = .ok n := by
  rw [chars_intT n h0, atoi_dec (by omega)]
  congr 1
  omega
theorem dig_int {n : Int} (h0 : 0 ≤ n) : chars (intT n) ≠ [] ∧ ∀ b ∈ chars (intT n), dig b = true := by
  rw [chars_intT n h0]
  exact ⟨decDigits_ne _, decDigits_dig _⟩
theorem dig_lt {b : UInt8} (h : dig b = true) : b.toNat < 128 := by
  have := dig_iff.1 h
  omega
/-- The numbers of a text whose fields are numerals. -/
theorem numsT_of {s : ByteArray} (hs : ∀ b ∈ chars s, b.toNat < 128) {ns : List Int} (hn : ∀ n ∈ ns, 0 ≤ n ∧ n < 1000000) (h : flds none (chars s) = ns.map fun n => chars (intT n)) : numsT s = ns := by
  unfold numsT
  have hf := fields_ascii s hs
  rw [h] at hf
  have key : ∀ (ws : List ByteArray) (ns : List Int) (acc : List Int), (∀ n ∈ ns, 0 ≤ n ∧ n < 1000000) → ws.map chars = ns.map (fun n => chars (intT n)) → numsG ws acc = acc ++ ns := by
    intro ws
    induction ws with
    | nil =>
      intro ns acc _ e
      cases ns with
      | nil => simp [numsG]
      | cons _ _ => simp at e
    | cons w ws ih =>
      intro ns acc hn e
      cases ns with
      | nil => simp at e
      | cons n ns =>
        rw [List.map_cons, List.map_cons, List.cons.injEq] at e
        have hr := hn n (by simp)
        simp only [numsG]
        rw [e.1, atoi_int hr.1 hr.2]
        simp only
        rw [ih ns (acc ++ [n]) (fun m hm => hn m (by simp [hm])) e.2]
        simp
  simpa using key _ ns [] hn hf

/-! ### orders -/
theorem not_dig {b : UInt8} {l : List UInt8} (h : ∀ x ∈ l, dig x = true) (hb : dig b = false) : b ∉ l := fun hm => by rw [h b hm] at hb; cases hb
theorem splitT_size (c : UInt8) (s : ByteArray) : ∀ w ∈ splitT c s, w.size ≤ s.size := by
  intro w hw
  unfold splitT at hw
  obtain ⟨l, hl, rfl⟩ := List.mem_map.1 hw
  have key : ∀ (m : List UInt8), ∀ l ∈ splitL c m, l.length ≤ m.length := by
    intro m
    induction m with
    | nil => intro l hl; simp [splitL] at hl; simp [hl]
    | cons x m ih =>
      intro l hl
      simp only [splitL] at hl
      split at hl
      · rcases List.mem_cons.1 hl with rfl | hl
        · simp
        · have := ih l hl
          simp; omega
      · generalize hs : splitL c m = t at hl ih
        cases t with
        | nil => exact absurd hs (splitL_ne c m)
        | cons y t =>
          simp only [consH] at hl
          rcases List.mem_cons.1 hl with rfl | hl
          · have := ih y (by simp)
            simp; omega
          · have := ih l (by simp [hl])
            simp; omega
  have := key _ l hl
  rw [size_list, chars_mk]
  exact this
theorem splitT_length (c : UInt8) (s : ByteArray) : (splitT c s).length = (splitL c (chars s)).length := by simp [splitT]
end Go.Proofs.YtoocdnbkiejihaaDoor
/-
  Numbers in a text with a byte between them: written, read back in two ways.
-/
namespace Go.Proofs.YtoocdnbkiejihaaDoor
open Go Go.V
set_option linter.unusedSimpArgs false

/-- Texts with a byte between them. -/
def joinL (c : UInt8) : List (List UInt8) → List UInt8
  | [] => []
  | [a] => a
  | a :: b :: l => a ++ c :: joinL c (b :: l)
theorem splitL_joinL {c : UInt8} : ∀ (ws : List (List UInt8)), ws ≠ [] → (∀ w ∈ ws, c ∉ w) → splitL c (joinL c ws) = ws
  | [], h, _ => absurd rfl h
  | [a], _, h => splitL_miss (h a (by simp))
  | a :: b :: l, _, h => by
    have hj : joinL c (a :: b :: l) = a ++ c :: joinL c (b :: l) := rfl
    rw [hj, splitL_hit (h a (by simp)), splitL_joinL (b :: l) (by simp) fun w hw => h w (by simp [hw])]
theorem joinL_splitL (c : UInt8) : ∀ (l : List UInt8), joinL c (splitL c l) = l
  | [] => rfl
  | x :: l => by
    have ih := joinL_splitL c l
    simp only [splitL]
    split
    · rename_i hx
      cases hs : splitL c l with
      | nil => exact absurd hs (splitL_ne c l)
      | cons y t =>
        rw [hs] at ih
        have : joinL c ([] :: y :: t) = [] ++ c :: joinL c (y :: t) := rfl
        rw [this, ih, hx]
        rfl
    · cases hs : splitL c l with
      | nil => exact absurd hs (splitL_ne c l)
      | cons y t =>
        rw [hs] at ih
        cases t with
        | nil =>
          have e : joinL c [y] = y := rfl
          rw [e] at ih
          show x :: y = x :: l
          rw [ih]
        | cons z t =>
          have e : joinL c (y :: z :: t) = y ++ c :: joinL c (z :: t) := rfl
          rw [e] at ih
          show (x :: y) ++ c :: joinL c (z :: t) = x :: l
          rw [← ih]
          rfl
theorem flds_joinL {c : UInt8} (hc : dig c = false) : ∀ (ws : List (List UInt8)), (∀ w ∈ ws, w ≠ [] ∧ ∀ b ∈ w, dig b = true) → flds none (joinL c ws) = ws
  | [], _ => rfl
  | [a], h => flds_last (h a (by simp)).1 (h a (by simp)).2
  | a :: b :: l, h => by
    have hj : joinL c (a :: b :: l) = a ++ c :: joinL c (b :: l) := rfl
    rw [hj, flds_word (h a (by simp)).1 (h a (by simp)).2 hc, flds_joinL hc (b :: l) fun w hw => h w (by simp [hw])]
theorem mem_joinL {c b : UInt8} : ∀ {ws : List (List UInt8)}, b ∈ joinL c ws → b = c ∨ ∃ w ∈ ws, b ∈ w
  | [], h => by cases h
  | [a], h => .inr ⟨a, by simp, h⟩
  | a :: a' :: l, h => by
    have hj : joinL c (a :: a' :: l) = a ++ c :: joinL c (a' :: l) := rfl
    rw [hj, List.mem_append, List.mem_cons] at h
    rcases h with h | h | h
    · exact .inr ⟨a, by simp, h⟩
    · exact .inl h
    · rcases mem_joinL h with h | ⟨w, hw, hb⟩
      · exact .inl h
      · exact .inr ⟨w, by simp only [List.mem_cons] at hw ⊢; exact .inr hw, hb⟩

/-! ### numerals are read back -/
theorem decDigits_val : ∀ (n : Nat) (l : List UInt8), l.length = n + 1 → (∀ b ∈ l, dig b = true) → (l.head? = some 48 → n = 0) → Lib.decDigits (valF 0 l) = l := by
  intro n
  induction n with
  | zero =>
    intro l hl hd _
    obtain ⟨x, rfl⟩ := List.length_eq_one_iff.1 hl
    have hx := dig_iff.1 (hd x (by simp))
    have hv : valF 0 [x] = x.toNat - 48 := by simp [valF]
    rw [hv, Lib.decDigits_one (by omega)]
    congr 1
    apply UInt8.toNat_inj.1
    rw [toNat_digit (by omega)]
    omega
  | succ n ih =>
    intro l hl hd hz
    have hne : l ≠ [] := fun e => by rw [e] at hl; simp at hl
    have hsp := List.dropLast_concat_getLast hne
    have hlen : l.dropLast.length = n + 1 := by rw [List.length_dropLast]; omega
    have hne2 : l.dropLast ≠ [] := fun e => by rw [e] at hlen; simp at hlen
    have hx := dig_iff.1 (hd _ (List.getLast_mem hne))
    have hhead : l.head? = l.dropLast.head? := by
      conv => lhs; rw [← hsp]
      cases h : l.dropLast with
      | nil => exact absurd h hne2
      | cons a t => rfl
    have h48 : l.dropLast.head? ≠ some 48 := fun e => by have := hz (hhead.trans e); omega
    have hi := ih l.dropLast hlen (fun b hb => hd b ((List.dropLast_sublist l).subset hb)) fun e => absurd e h48
    have hpos : 1 ≤ valF 0 l.dropLast := by
      rcases Nat.lt_or_ge 0 (valF 0 l.dropLast) with g | g
      · exact g
      · have h0 : valF 0 l.dropLast = 0 := by omega
        rw [h0, Lib.decDigits_one (by decide)] at hi
        rw [← hi] at h48
        exact absurd rfl h48
    have hv : valF 0 l = valF 0 l.dropLast * 10 + ((l.getLast hne).toNat - 48) := by
      conv => lhs; rw [← hsp]
      exact valF_snoc _ _ _
    rw [hv, decDigits_step (by omega)]
    have h1 : (valF 0 l.dropLast * 10 + ((l.getLast hne).toNat - 48)) / 10 = valF 0 l.dropLast := by omega
    have h2 : (valF 0 l.dropLast * 10 + ((l.getLast hne).toNat - 48)) % 10 = (l.getLast hne).toNat - 48 := by omega
    rw [h1, h2, hi]
    conv => rhs; rw [← hsp]
    congr 1
    congr 1
    apply UInt8.toNat_inj.1
    rw [toNat_digit (by omega)]
    omega
theorem readT_canon {w : ByteArray} {n : Int} (h : readT w = n) (h0 : 0 ≤ n) : w = intT n := by
  unfold readT readL at h
  split at h
  · rename_i hc
    obtain ⟨⟨g1, g2⟩, g3, g4⟩ := hc
    subst h
    apply chars_inj
    rw [chars_intT _ h0]
    have : ((valF 0 (chars w) : Int)).toNat = valF 0 (chars w) := by omega
    rw [this]
    refine (decDigits_val ((chars w).length - 1) (chars w) (by omega) (List.all_eq_true.1 g4) fun e => ?_).symm
    rcases Nat.lt_or_ge 1 (chars w).length with g | g
    · exact absurd ⟨e, g⟩ g3
    · omega
  · omega

/-! ### numbers with a byte between them -/
def numsJ (c : UInt8) (ns : List Int) : ByteArray := ⟨(joinL c (ns.map fun n => chars (intT n))).toArray⟩
def fewI (ns : List Int) : Prop := ∀ n ∈ ns, 0 ≤ n ∧ n < 1000000000000000000
theorem chars_numsJ (c : UInt8) (ns : List Int) : chars (numsJ c ns) = joinL c (ns.map fun n => chars (intT n)) := chars_mk _
theorem atoi_int' {n : Int} (h0 : 0 ≤ n) (h1 : n < 1000000000000000000) : Lib.atoiAll (chars (intT n)) = .ok n := by
  rw [chars_intT n h0, atoi_dec (by omega)]
  congr 1
  omega
/-- The numbers of a text whose fields are numerals. -/
theorem numsT_of' {s : ByteArray} (hs : ∀ b ∈ chars s, b.toNat < 128) {ns : List Int} (hn : fewI ns) (h : flds none (chars s) = ns.map fun n => chars (intT n)) : numsT s = ns := by
  unfold numsT
  have hf := fields_ascii s hs
  rw [h] at hf
  have key : ∀ (ws : List ByteArray) (ns : List Int) (acc : List Int), fewI ns → ws.map chars = ns.map (fun n => chars (intT n)) → numsG ws acc = acc ++ ns := by
    intro ws
    induction ws with
    | nil =>
      intro ns acc _ e
      cases ns with
      | nil => simp [numsG]
      | cons _ _ => simp at e
    | cons w ws ih =>
      intro ns acc hn e
      cases ns with
      | nil => simp at e
      | cons n ns =>
        rw [List.map_cons, List.map_cons, List.cons.injEq] at e
        have hr := hn n (by simp)
        simp only [numsG]
        rw [e.1, atoi_int' hr.1 hr.2]
        simp only
        rw [ih ns (acc ++ [n]) (fun m hm => hn m (by simp [hm])) e.2]
        simp
  simpa using key _ ns [] hn hf
theorem numsT_J {c : UInt8} {ns : List Int} (hc : dig c = false) (hb : c.toNat < 128) (h : fewI ns) : numsT (numsJ c ns) = ns := by
  have hw : ∀ w ∈ ns.map (fun n => chars (intT n)), w ≠ [] ∧ ∀ b ∈ w, dig b = true := by
    intro w hw
    obtain ⟨n, hn, rfl⟩ := List.mem_map.1 hw
    exact dig_int (h n hn).1
  refine numsT_of' (fun b hb' => ?_) h ?_
  · rw [chars_numsJ] at hb'
    rcases mem_joinL hb' with rfl | ⟨w, hw', hb'⟩
    · exact hb
    · exact dig_lt ((hw w hw').2 b hb')
  · rw [chars_numsJ]
    exact flds_joinL hc _ hw
theorem splitT_J {c : UInt8} {ns : List Int} (hc : dig c = false) (hne : ns ≠ []) (h : fewI ns) : splitT c (numsJ c ns) = ns.map intT := by
  unfold splitT
  rw [chars_numsJ, splitL_joinL _ (by simpa using hne)]
  · rw [List.map_map]
    refine List.map_congr_left fun n _ => ?_
    exact mk_chars _
  · intro w hw
    obtain ⟨n, hn, rfl⟩ := List.mem_map.1 hw
    exact not_dig (dig_int (h n hn).1).2 hc
/-- A way to read numerals back. -/
structure Reads (rd : ByteArray → Int) (few : Int) : Prop where
  le : few ≤ 1000000000000000000
  of : ∀ n, 0 ≤ n → n < few → rd (intT n) = n
  canon : ∀ w, 0 ≤ rd w → w = intT (rd w)
theorem reads_T : Reads readT 1000000 := ⟨by decide, fun _ h0 h1 => readT_int h0 h1, fun _ h => readT_canon rfl h⟩
section
variable {rd : ByteArray → Int} {few : Int} (hr : Reads rd few) {c : UInt8} (hc : dig c = false) (hb : c.toNat < 128)
include hr hc
theorem readT_J {ns : List Int} (hne : ns ≠ []) (h : ∀ n ∈ ns, 0 ≤ n ∧ n < few) : (splitT c (numsJ c ns)).map rd = ns := by
  rw [splitT_J hc hne (fun n hn => ⟨(h n hn).1, Int.lt_of_lt_of_le (h n hn).2 hr.le⟩), List.map_map]
  have : ns.map (rd ∘ intT) = ns.map id := List.map_congr_left fun n hn => hr.of n (h n hn).1 (h n hn).2
  rw [this, List.map_id]
omit hc in
theorem split_read {s : ByteArray} (h : ∀ n ∈ (splitT c s).map rd, 0 ≤ n) : numsJ c ((splitT c s).map rd) = s := by
  apply chars_inj
  rw [chars_numsJ, List.map_map]
  have e : (splitT c s).map ((fun n => chars (intT n)) ∘ rd) = (splitT c s).map chars := List.map_congr_left fun w hw => by
    have := hr.canon w (h _ (List.mem_map_of_mem hw))
    exact congrArg chars this.symm
  rw [e]
  have e2 : (splitT c s).map chars = splitL c (chars s) := by
    unfold splitT
    rw [List.map_map]
    have : ((chars ∘ fun l : List UInt8 => (⟨l.toArray⟩ : ByteArray))) = id := funext fun l => chars_mk l
    rw [this, List.map_id]
  rw [e2, joinL_splitL]
end
/-- Numbers read out of a text: all numbers in it, which are written so; the numbers between the bytes. -/
def parseI (c : UInt8) (k : Nat) (good : List Int → Bool) (s : ByteArray) : Option (List Int) :=
  if (numsT s).length = k ∧ good (numsT s) = true ∧ numsJ c (numsT s) = s then some (numsT s) else none
def parseS (rd : ByteArray → Int) (c : UInt8) (k : Nat) (good : List Int → Bool) (s : ByteArray) : Option (List Int) :=
  if (splitT c s).length = k ∧ good ((splitT c s).map rd) = true then some ((splitT c s).map rd) else none
section
variable {rd : ByteArray → Int} {few : Int} (hr : Reads rd few) {c : UInt8} (hc : dig c = false) (hb : c.toNat < 128) {k : Nat} {good : List Int → Bool} (hg : ∀ ns, good ns = true → ∀ n ∈ ns, 0 ≤ n ∧ n < few)
include hr hc hg
include hb in
theorem parseI_J {ns : List Int} (h : good ns = true) (hk : ns.length = k) : parseI c k good (numsJ c ns) = some ns := by
  unfold parseI
  rw [numsT_J hc hb fun n hn => ⟨(hg ns h n hn).1, Int.lt_of_lt_of_le (hg ns h n hn).2 hr.le⟩, if_pos ⟨hk, h, rfl⟩]
theorem parseS_J (hk0 : 0 < k) {ns : List Int} (h : good ns = true) (hk : ns.length = k) : parseS rd c k good (numsJ c ns) = some ns := by
  have hne : ns ≠ [] := fun e => by rw [e] at hk; simp at hk; omega
  unfold parseS
  rw [readT_J hr hc hne (hg ns h), if_pos]
  refine ⟨?_, h⟩
  have := congrArg List.length (readT_J hr hc hne (hg ns h))
  rw [List.length_map] at this
  exact this.trans hk
include hb in
theorem parse_eq (hk0 : 0 < k) (s : ByteArray) : parseI c k good s = parseS rd c k good s := by
  by_cases h : (numsT s).length = k ∧ good (numsT s) = true ∧ numsJ c (numsT s) = s
  · obtain ⟨h1, h2, h3⟩ := h
    have a := parseI_J hr hc hb hg h2 h1
    have b := parseS_J hr hc hg hk0 h2 h1
    rw [h3] at a b
    rw [a, b]
  · by_cases h' : (splitT c s).length = k ∧ good ((splitT c s).map rd) = true
    · obtain ⟨h1, h2⟩ := h'
      have hl : ((splitT c s).map rd).length = k := by rw [List.length_map]; exact h1
      have a := parseI_J hr hc hb hg h2 hl
      have b := parseS_J hr hc hg hk0 h2 hl
      have h3 := split_read hr (c := c) (s := s) fun n hn => (hg _ h2 n hn).1
      rw [h3] at a b
      rw [a, b]
    · rw [parseI, parseS, if_neg h, if_neg h']
end
theorem parse_some {c : UInt8} {k : Nat} {good : List Int → Bool} {s : ByteArray} {ns : List Int} (h : parseI c k good s = some ns) : ns.length = k ∧ good ns = true ∧ numsJ c ns = s := by
  unfold parseI at h
  split at h
  · rename_i hc
    cases h
    exact hc
  · cases h
end Go.Proofs.YtoocdnbkiejihaaDoor
/-
  Draws: what the cursor gives.
-/
namespace Go.Proofs.YtoocdnbkiejihaaDoor
open Go Go.V
set_option linter.unusedSimpArgs false

structure Cur where
  code : List Int
  at_ : Nat
  seed : Int
abbrev bytesD (l : List Int) : D := .arr 1 (l.map U)
abbrev curD (c : Cur) : D := .agg [bytesD c.code, I c.at_, .v (.int .u64 c.seed)]
structure Cur.ok (c : Cur) (B : Nat) : Prop where
  by_ : ∀ n ∈ c.code, 0 ≤ n ∧ n ≤ 255
  len : c.code.length ≤ 1048576
  at_ : c.at_ ≤ B
  lo : 0 ≤ c.seed
  hi : c.seed < 18446744073709551616

theorem convD_i64 {k : IntKind} {n : Int} : convD (some .i64) false (.v (.int k n)) = some (I (IntKind.i64.wrap n)) := rfl
theorem convD_u64 {k : IntKind} {n : Int} : convD (some .u64) false (.v (.int k n)) = some (.v (.int .u64 (IntKind.u64.wrap n))) := rfl
theorem bin_shr40 {n : Int} {bl : Bool} {eq : List Nat} : bin .shr bl eq (.v (.int .u64 n)) (.v (.int .u64 40)) = some (.v (.int .u64 (n.fdiv 1099511627776))) := by
  simp [bin, IntKind.bits]
theorem bin_and {a b : Int} {bl : Bool} {eq : List Nat} : bin .and bl eq (.v (.int .u64 a)) (.v (.int .u64 b)) = some (.v (.int .u64 (bits .and .u64 a b))) := by simp [bin, intBin]
theorem and255 {n : Int} (h0 : 0 ≤ n) (h1 : n < 18446744073709551616) : 0 ≤ bits .and .u64 n 255 ∧ bits .and .u64 n 255 ≤ 255 := by
  obtain ⟨m, rfl⟩ := Int.eq_ofNat_of_zero_le h0
  have := bits_and_u64_nat m 255 (by omega) (by omega)
  rw [show ((255 : Int)) = ((255 : Nat) : Int) from rfl, this]
  have h2 : m &&& 255 ≤ 255 := Nat.and_le_right
  omega
theorem wrap64 (n : Int) : 0 ≤ IntKind.u64.wrap n ∧ IntKind.u64.wrap n < 18446744073709551616 := by
  rw [IntKind.wrap_u64]
  omega

def seedOf (s n : Int) : Int := IntKind.u64.wrap (IntKind.u64.wrap (IntKind.u64.wrap (s * 6364136223846793005) + IntKind.u64.wrap n) + 1442695040888963407)
def topOf (s : Int) : Int := bits .and .u64 (s.fdiv 1099511627776) 255
theorem seedOf_in (s n : Int) : 0 ≤ seedOf s n ∧ seedOf s n < 18446744073709551616 := wrap64 _
theorem topOf_in {s : Int} (h0 : 0 ≤ s) (h1 : s < 18446744073709551616) : 0 ≤ topOf s ∧ topOf s ≤ 255 := by
  unfold topOf
  rw [Int.fdiv_eq_ediv_of_nonneg _ (by omega)]
  exact and255 (by omega) (by omega)
theorem seed_run {s n : Int} : ((bin BinOp.mul false [] (.v (.int .u64 s)) (.v (.int .u64 6364136223846793005))).bind fun x => (bin BinOp.add false [] x (.v (.int .u64 (IntKind.u64.wrap n)))).bind fun y => bin BinOp.add false [] y (.v (.int .u64 1442695040888963407))) = some (.v (.int .u64 (seedOf s n))) := by
  simp only [bin_mul, bin_add, Option.bind_some, seedOf]
theorem next1 (c : Cur) (B : Nat) (h : c.ok B) (hB : B ≤ 1000000000000) (hc : c.at_ < c.code.length) : F_spec_l1Cur_next [curD c] = some (.ret [I c.code[c.at_]] [curD ⟨c.code, c.at_ + 1, seedOf c.seed c.code[c.at_]⟩]) := by
  have hl := h.len
  have ha := h.at_
  have hw : IntKind.i64.wrap ((c.at_ : Int) + 1) = (c.at_ : Int) + 1 := wrap_id (by omega) (by omega)
  have hn := h.by_ c.code[c.at_] (List.getElem_mem hc)
  have hv : IntKind.i64.wrap c.code[c.at_] = c.code[c.at_] := wrap_id (by omega) (by omega)
  have hle : (c.at_ : Int) + 1 ≤ (c.code.length : Int) := by omega
  rw [t_spec_l1Cur_next]
  simp -implicitDefEqProofs [hc, hw, hv, hle, convD_i64, convD_u64, seedOf]
theorem next2 (c : Cur) (B : Nat) (h : c.ok B) (hB : B ≤ 1000000000000) (hc : ¬ c.at_ < c.code.length) : F_spec_l1Cur_next [curD c] = some (.ret [I (topOf (seedOf c.seed 0))] [curD ⟨c.code, c.at_ + 1, seedOf c.seed 0⟩]) := by
  have hl := h.len
  have ha := h.at_
  have hw : IntKind.i64.wrap ((c.at_ : Int) + 1) = (c.at_ : Int) + 1 := wrap_id (by omega) (by omega)
  have hle : ¬ (c.at_ : Int) + 1 ≤ (c.code.length : Int) := by omega
  have hq := topOf_in (seedOf_in c.seed 0).1 (seedOf_in c.seed 0).2
  have hv : IntKind.i64.wrap (topOf (seedOf c.seed 0)) = topOf (seedOf c.seed 0) := wrap_id (by omega) (by omega)
  unfold topOf seedOf at hv
  rw [t_spec_l1Cur_next]
  simp -implicitDefEqProofs [hc, hw, hle, convD_i64, convD_u64, bin_shr40, bin_and, hv, seedOf, topOf]
theorem d_next (c : Cur) (B : Nat) (h : c.ok B) (hB : B ≤ 1000000000000) : ∃ v c', F_spec_l1Cur_next [curD c] = some (.ret [I v] [curD c']) ∧ 0 ≤ v ∧ v ≤ 255 ∧ c'.ok (B + 1) := by
  have ha := h.at_
  by_cases hc : c.at_ < c.code.length
  · have hn := h.by_ c.code[c.at_] (List.getElem_mem hc)
    exact ⟨_, _, next1 c B h hB hc, hn.1, hn.2, ⟨h.by_, h.len, Nat.succ_le_succ ha, (seedOf_in _ _).1, (seedOf_in _ _).2⟩⟩
  · have hq := topOf_in (seedOf_in c.seed 0).1 (seedOf_in c.seed 0).2
    exact ⟨_, _, next2 c B h hB hc, hq.1, hq.2, ⟨h.by_, h.len, Nat.succ_le_succ ha, (seedOf_in _ _).1, (seedOf_in _ _).2⟩⟩

theorem d_pick (c : Cur) (n : Int) (B : Nat) (h : c.ok B) (hB : B ≤ 100000000000) (hn : n ≤ 1000000000) : ∃ v c', F_spec_l1Cur_pick [curD c, I n] = some (.ret [I v] [curD c']) ∧ 0 ≤ v ∧ (v < n ∨ v = 0) ∧ c'.ok (B + 2) := by
  rw [t_spec_l1Cur_pick]
  by_cases h1 : n ≤ 1
  · exact ⟨0, c, by simp [h1], by omega, .inr rfl, ⟨h.by_, h.len, by have := h.at_; omega, h.lo, h.hi⟩⟩
  obtain ⟨v, c1, e1, l1, u1, k1⟩ := d_next c B h (by omega)
  have hn0 : ¬ n = 0 := by omega
  by_cases h2 : 200 < n
  · obtain ⟨v2, c2, e2, l2, u2, k2⟩ := d_next c1 (B + 1) k1 (by omega)
    have w1 : IntKind.i64.wrap (v * 256) = v * 256 := wrap_id (by omega) (by omega)
    have w2 : IntKind.i64.wrap (v * 256 + v2) = v * 256 + v2 := wrap_id (by omega) (by omega)
    refine ⟨(v * 256 + v2).tmod n, c2, by simp [h1, h2, e1, e2, w1, w2, hn0], Int.tmod_nonneg _ (by omega), .inl (Int.tmod_lt_of_pos _ (by omega)), k2⟩
  · refine ⟨v.tmod n, c1, by simp [h1, h2, e1, hn0], Int.tmod_nonneg _ l1, .inl (Int.tmod_lt_of_pos _ (by omega)), ⟨k1.by_, k1.len, by have := k1.at_; omega, k1.lo, k1.hi⟩⟩
theorem d_one (c : Cur) (n : Int) (B : Nat) (h : c.ok B) (hB : B ≤ 100000000000) (hn : n ≤ 1000000000) : ∃ (b : Bool) (c' : Cur), F_spec_l1Cur_one [curD c, I n] = some (.ret [.v (.bool b)] [curD c']) ∧ c'.ok (B + 2) := by
  rw [t_spec_l1Cur_one]
  obtain ⟨v, c1, e1, l1, u1, k1⟩ := d_pick c n B h hB hn
  exact ⟨_, c1, by simp [e1]; rfl, k1⟩
abbrev intsD (l : List Int) : D := .arr 1 (l.map I)
theorem d_among (c : Cur) (l : List Int) (B : Nat) (h : c.ok B) (hB : B ≤ 100000000000) (hl : l ≠ []) (hn : l.length ≤ 1000000000) : ∃ v c', F_spec_l1Cur_among [curD c, intsD l] = some (.ret [I v] [curD c']) ∧ v ∈ l ∧ c'.ok (B + 2) := by
  rw [t_spec_l1Cur_among]
  have hp : 0 < l.length := List.length_pos_iff.2 hl
  obtain ⟨v, c1, e1, l1, u1, k1⟩ := d_pick c l.length B h hB (by omega)
  obtain ⟨i, rfl⟩ := Int.eq_ofNat_of_zero_le l1
  have hi : i < l.length := by omega
  exact ⟨l[i], c1, by simp [e1, hi], List.getElem_mem hi, k1⟩

theorem Cur.ok.mono {c : Cur} {B C : Nat} (h : c.ok B) (hBC : B ≤ C) : c.ok C := ⟨h.by_, h.len, Nat.le_trans h.at_ hBC, h.lo, h.hi⟩
theorem mkInts {l : List Int} : mkArr 1 (l.map I) = some (intsD l) := by
  have : lenOkD 1 (l.map I).length (l.map I) = true := by
    unfold lenOkD
    simp
  simp only [mkArr, this, if_true]
theorem e_laws_big (a b : List Int) : ∃ p : Bool, F_laws_big [bytesD a, bytesD b] = some (.ret [B p] []) ∧ (p = false → a.length ≤ 1048576 ∧ b.length ≤ 1048576) := by
  rw [t_laws_big]
  by_cases h1 : 1048576 < (a.length : Int)
  · exact ⟨true, by simp [h1], fun h => by cases h⟩
  have hw : IntKind.i64.wrap (1048576 - (a.length : Int)) = 1048576 - (a.length : Int) := wrap_id (by omega) (by omega)
  by_cases h2 : 1048576 - (a.length : Int) < (b.length : Int)
  · exact ⟨true, by simp [h1, h2, hw], fun h => by cases h⟩
  · exact ⟨false, by simp [h1, h2, hw], fun _ => by omega⟩

theorem bldCur (l : List Int) : bldD [(0, 1)] [D.arr 1 [], I 0, D.v (.int .u64 0)] [bytesD l] = some (.agg [bytesD l, I 0, D.v (.int .u64 0)]) := by
  simp [bldD, fillD]
structure Bytes (l : List Int) : Prop where
  by_ : ∀ n ∈ l, 0 ≤ n ∧ n ≤ 255
  len : l.length ≤ 1048576
theorem cur0 {l : List Int} (h : Bytes l) : Cur.ok ⟨l, 0, 0⟩ 0 := ⟨h.by_, h.len, Nat.le_refl _, Int.le_refl 0, show (0 : Int) < 18446744073709551616 by decide⟩

abbrev curZ (l : List Int) : D := .agg [bytesD l, I 0, .v (.int .u64 0)]
theorem d_pick0 (l : List Int) (h : Bytes l) (n : Int) (hn : n ≤ 1000000000) : ∃ (v : Int) (c' : Cur), F_spec_l1Cur_pick [curZ l, I n] = some (.ret [I v] [curD c']) ∧ 0 ≤ v ∧ (v < n ∨ v = 0) ∧ c'.ok 2 := d_pick ⟨l, 0, 0⟩ n 0 (cur0 h) (by omega) hn
abbrev txs (l : List ByteArray) : D := .arr 1 (l.map T)
theorem mkTxs {l : List ByteArray} : mkArr 1 (l.map T) = some (txs l) := by
  have : lenOkD 1 (l.map T).length (l.map T) = true := by
    unfold lenOkD
    simp
  simp only [mkArr, this, if_true]
theorem d_of (c : Cur) (l : List ByteArray) (B : Nat) (h : c.ok B) (hB : B ≤ 100000000000) (hl : l ≠ []) (hn : l.length ≤ 1000000000) : ∃ v c', F_spec_l1Cur_of [curD c, txs l] = some (.ret [T v] [curD c']) ∧ v ∈ l ∧ c'.ok (B + 2) := by
  rw [t_spec_l1Cur_of]
  have hp : 0 < l.length := List.length_pos_iff.2 hl
  obtain ⟨v, c1, e1, l1, u1, k1⟩ := d_pick c l.length B h hB (by omega)
  obtain ⟨i, rfl⟩ := Int.eq_ofNat_of_zero_le l1
  have hi : i < l.length := by omega
  exact ⟨l[i], c1, by simp [e1, hi], List.getElem_mem hi, k1⟩

theorem char_at {w : ByteArray} {i : Nat} (h : i < w.size) : ∃ b : UInt8, charD (T w) (I (i : Int)) = some (U (b.toNat : Int)) := by
  have h' : i < (chars w).length := h
  refine ⟨(chars w)[i]'h', ?_⟩
  rw [charD_nat, List.getElem?_eq_getElem h']
  rfl
theorem str_byte (b : UInt8) : strD (.arr 1 [U (b.toNat : Int)]) = some (T ⟨#[b]⟩) := by
  have : bytesOf [U (b.toNat : Int)] = some [b] := by simp [bytesOf]
  simp only [strD, this, Option.map_some]
theorem mkU (n : Int) : mkArr 1 [U n] = some (.arr 1 [U n]) := by simp [mkArr, lenOkD]
theorem add_small {a b : ByteArray} (h : a.size + b.size ≤ 100000000) : bin .add false [] (T a) (T b) = some (T (a ++ b)) := by
  rw [bin_addS, if_pos (by omega)]
theorem size_ext (s : ByteArray) (i j : Nat) : (s.extract i j).size = min j s.size - i := by rw [ByteArray.size_extract]
theorem d_spoilt (c : Cur) (s w : ByteArray) (B : Nat) (h : c.ok B) (hB : B ≤ 1000000000) (hs : s.size ≤ 100000) (hw : 0 < w.size ∧ w.size ≤ 100) :
    ∃ (t : ByteArray) (c' : Cur), F_spec_l1Cur_spoilt [curD c, T s, T w] = some (.ret [T t] [curD c']) ∧ t.size ≤ s.size + 2 ∧ c'.ok (B + 20) := by
  obtain ⟨v, c1, e1, l1, u1, k1⟩ := d_pick c 2 B h (by omega) (by omega)
  obtain ⟨v, rfl⟩ := Int.eq_ofNat_of_zero_le l1
  have hw1 : IntKind.i64.wrap (1 + (v : Int)) = ((1 + v : Nat) : Int) := by rw [wrap_id (by omega) (by omega)]; omega
  rw [t_spec_l1Cur_spoilt]
  simp -implicitDefEqProofs only [liveD_agg, Option.bind_some, ref0_eq, e1, callK_ret, sl_zero, bin_add, hw1]
  refine loop_wf_bind (fun X => ∃ t c', X = some (.ret [T t] [curD c']) ∧ t.size ≤ s.size + 2 ∧ c'.ok (B + 20)) (fun a : Cur × ByteArray × Nat => [curD a.1, T a.2.1, T w, I (a.2.2 : Int)])
    (fun a => a.1.ok (B + 2 + 6 * (2 - a.2.2)) ∧ a.2.2 ≤ 2 ∧ a.2.1.size + a.2.2 ≤ s.size + 2) (fun a => a.2.2) (fun o => ∃ t c', o = .ext 0 [curD c', T t] ∧ t.size ≤ s.size + 2 ∧ c'.ok (B + 20)) ?_ (c1, s, 1 + v) ⟨k1.mono (by simp only; omega), by simp only; omega, by simp only; omega⟩ rfl ?_
  · rintro ⟨ca, t, n⟩ ⟨h1, h2, h3⟩
    simp only at h1 h2 h3
    by_cases hn : 0 < n
    case neg =>
      have hn' : ¬ (0 : Int) < (n : Int) := by omega
      refine .inr ⟨_, ?_, rfl, t, ca, rfl, by omega, h1.mono (by omega)⟩
      simp -implicitDefEqProofs only [sl_zero, sl_succ, bin_gtr, hn', decide_false, Option.bind_some, gate_t, gate_s, Bool.false_eq_true, if_false, pickD_B, ifD_B]
    have hn' : (0 : Int) < (n : Int) := by omega
    by_cases ht : 0 < t.size
    case neg =>
      have ht' : ¬ (0 : Int) < (t.size : Int) := by omega
      refine .inr ⟨_, ?_, rfl, t, ca, rfl, by omega, h1.mono (by omega)⟩
      simp -implicitDefEqProofs only [sl_zero, sl_succ, bin_gtr, hn', ht', decide_true, decide_false, lenD_str, Option.bind_some, gate_t, gate_s, Bool.false_eq_true, if_false, if_true, pickD_B, ifD_B]
    have ht' : (0 : Int) < (t.size : Int) := by omega
    obtain ⟨i, c2, e2, l2, u2, k2⟩ := d_pick ca (t.size : Int) _ h1 (by omega) (by omega)
    obtain ⟨i, rfl⟩ := Int.eq_ofNat_of_zero_le l2
    obtain ⟨j, c3, e3, l3, u3, k3⟩ := d_pick c2 (w.size : Int) _ k2 (by omega) (by omega)
    obtain ⟨j, rfl⟩ := Int.eq_ofNat_of_zero_le l3
    obtain ⟨b, hb⟩ := char_at (w := w) (i := j) (by omega)
    obtain ⟨k, c4, e4, l4, u4, k4⟩ := d_pick c3 3 _ k3 (by omega) (by omega)
    have hwn : IntKind.i64.wrap ((n : Int) - 1) = ((n - 1 : Nat) : Int) := by rw [wrap_id (by omega) (by omega)]; omega
    have hwi : IntKind.i64.wrap ((i : Int) + 1) = ((i + 1 : Nat) : Int) := by rw [wrap_id (by omega) (by omega)]; omega
    have s1 : sliceD true 0 (T t) (I 0) (I (i : Int)) = some (T (t.extract 0 i)) := sliceS (i := 0) (Nat.zero_le _) (by omega)
    have s2 : sliceHi true 0 (T t) (I (i : Int)) = some (T (t.extract i t.size)) := sliceHiS (by omega)
    have s3 : sliceHi true 0 (T t) (I ((i + 1 : Nat) : Int)) = some (T (t.extract (i + 1) t.size)) := sliceHiS (by omega)
    have z1 := size_ext t 0 i
    have z2 := size_ext t i t.size
    have z3 := size_ext t (i + 1) t.size
    have sb : (⟨#[b]⟩ : ByteArray).size = 1 := rfl
    have a1 := add_small (a := t.extract 0 i) (b := ⟨#[b]⟩) (by omega)
    have a2 := add_small (a := t.extract 0 i ++ ⟨#[b]⟩) (b := t.extract i t.size) (by rw [ByteArray.size_append]; omega)
    have a3 := add_small (a := t.extract 0 i ++ ⟨#[b]⟩) (b := t.extract (i + 1) t.size) (by rw [ByteArray.size_append]; omega)
    have a4 := add_small (a := t.extract 0 i) (b := t.extract (i + 1) t.size) (by omega)
    left
    by_cases q0 : k = 0
    · refine ⟨(c4, t.extract 0 i ++ ⟨#[b]⟩ ++ t.extract i t.size, n - 1), ?_, ⟨k4.mono (by simp only; omega), by simp only; omega, by simp only [ByteArray.size_append]; omega⟩, by simp only; omega⟩
      simp -implicitDefEqProofs only [sl_zero, sl_succ, bin_gtr, hn', ht', decide_true, lenD_str, Option.bind_some, gate_t, if_true, pickD_B, ifD_B, liveD_agg, ref0_eq, e2, e3, e4, callK_ret, hb, mkU, str_byte, bin_eql, q0, s1, s2, a1, a2, bin_sub, hwn]
    by_cases q1 : k = 1
    · refine ⟨(c4, t.extract 0 i ++ ⟨#[b]⟩ ++ t.extract (i + 1) t.size, n - 1), ?_, ⟨k4.mono (by simp only; omega), by simp only; omega, by simp only [ByteArray.size_append]; omega⟩, by simp only; omega⟩
      simp -implicitDefEqProofs only [sl_zero, sl_succ, bin_gtr, hn', ht', decide_true, decide_false, Bool.false_eq_true, if_false, lenD_str, Option.bind_some, gate_t, if_true, pickD_B, ifD_B, liveD_agg, ref0_eq, e2, e3, e4, callK_ret, hb, mkU, str_byte, bin_eql, q0, q1, show ¬ (1 : Int) = 0 by decide, s1, s3, a1, a3, bin_sub, bin_add, hwi, hwn]
    · refine ⟨(c4, t.extract 0 i ++ t.extract (i + 1) t.size, n - 1), ?_, ⟨k4.mono (by simp only; omega), by simp only; omega, by simp only [ByteArray.size_append]; omega⟩, by simp only; omega⟩
      simp -implicitDefEqProofs only [sl_zero, sl_succ, bin_gtr, hn', ht', decide_true, decide_false, Bool.false_eq_true, if_false, lenD_str, Option.bind_some, gate_t, if_true, pickD_B, ifD_B, liveD_agg, ref0_eq, e2, e3, e4, callK_ret, hb, mkU, str_byte, bin_eql, q0, q1, s1, s3, a4, bin_sub, bin_add, hwi, hwn]
  · rintro o ⟨t, c', rfl, g1, g2⟩
    refine ⟨t, c', ?_, g1, g2⟩
    simp -implicitDefEqProofs only [outK_ext, Nat.beq_refl, ifN_B, if_true, sl_zero, sl_succ, liveD_agg, Option.bind_some]
end Go.Proofs.YtoocdnbkiejihaaDoor
/-
  Layouts: what the functions compute.
-/
namespace Go.Proofs.YtoocdnbkiejihaaDoor
open Go Go.V
set_option linter.unusedSimpArgs false

/-! ### numbers in a text -/
theorem lib_join (c : UInt8) : ∀ (ws : List (List UInt8)), Lib.join ws [c] = joinL c ws
  | [] => rfl
  | [a] => by rw [Lib.join_one]; rfl
  | a :: b :: l => by
    have ih := lib_join c (b :: l)
    rw [Lib.join_cons] at ih ⊢
    have hj : joinL c (a :: b :: l) = a ++ c :: joinL c (b :: l) := rfl
    rw [hj, ← ih]
    simp [Lib.joinTail]
theorem joinOf_J (c : UInt8) (ns : List Int) : joinOf (ns.map intT) ⟨#[c]⟩ = numsJ c ns := by
  apply chars_inj
  rw [chars_numsJ, ← lib_join]
  unfold joinOf
  rw [chars_mk, List.map_map]
  rfl
theorem joinL_len {c : UInt8} {m : Nat} : ∀ (ws : List (List UInt8)), (∀ w ∈ ws, w.length ≤ m) → (joinL c ws).length ≤ ws.length * (m + 1)
  | [], _ => by simp [joinL]
  | [a], h => by
    have := h a (by simp)
    show a.length ≤ 1 * (m + 1)
    omega
  | a :: b :: l, h => by
    have ih := joinL_len (c := c) (b :: l) fun w hw => h w (by simp [hw])
    have ha := h a (by simp)
    have hj : joinL c (a :: b :: l) = a ++ c :: joinL c (b :: l) := rfl
    rw [hj, List.length_append, List.length_cons]
    have e : (a :: b :: l).length * (m + 1) = (b :: l).length * (m + 1) + (m + 1) := by rw [List.length_cons, Nat.succ_mul]
    omega
theorem numsJ_size {c : UInt8} {ns : List Int} (h : ∀ n ∈ ns, 0 ≤ n ∧ n < 1000000000000000000) : (numsJ c ns).size ≤ ns.length * 19 := by
  have : (numsJ c ns).size = (joinL c (ns.map fun n => chars (intT n))).length := by rw [size_list, chars_numsJ]
  rw [this]
  have := joinL_len (c := c) (m := 18) (ns.map fun n => chars (intT n)) fun w hw => by
    obtain ⟨n, hn, rfl⟩ := List.mem_map.1 hw
    exact intT_size 17 (h n hn).1 (by have := (h n hn).2; omega)
  rwa [List.length_map] at this
abbrev intsL (l : List Int) : D := .arr 1 (l.map I)
theorem txs_app {l m : List ByteArray} (h : l.length + m.length ≤ 1048577) : appD 1 16 (txs l) (txs m) = some (txs (l ++ m)) := by
  rw [appD_eq, if_pos (by simp only [List.length_map]; omega)]
  simp
theorem allI_In {a b : Int} : ∀ (l : List Int) (i : Nat), allI (fun _ x => decide (a ≤ x ∧ x ≤ b)) i l = l.all fun x => decide (a ≤ x ∧ x ≤ b)
  | [], _ => rfl
  | x :: l, i => by simp only [allI, allI_In l, List.all_cons]
theorem e_spec_l1All (l : List Int) (a b : Int) (h : l.length ≤ 1048577) : F_spec_l1All [intsL l, I a, I b] = some (.ret [B (l.all fun x => decide (a ≤ x ∧ x ≤ b))] []) := by
  rw [t_spec_l1All]
  simp only [lenD_arr, List.length_map, Option.bind_some]
  refine loop_bind _ (loop_all l (fun i => [I a, I b, intsL l, I l.length, I i]) (fun _ x => decide (a ≤ x ∧ x ≤ b)) (.ret [B false] []) (.ext 0 []) (fun i hi => ?_) ?_ rfl rfl rfl) ?_
  · have hw : IntKind.i64.wrap ((i : Int) + 1) = (i : Int) + 1 := wrap_id (by omega) (by omega)
    by_cases h1 : a ≤ l[i] ∧ l[i] ≤ b <;> simp -implicitDefEqProofs [hi, hw, h1, e_spec_l1In]
  · simp
  · rw [allI_In]
    by_cases hm : (l.all fun x => decide (a ≤ x ∧ x ≤ b)) = true
    · rw [if_pos hm, hm]; rfl
    · rw [if_neg hm]
      rw [Bool.not_eq_true] at hm
      rw [hm]
      rfl

/-! ### layouts -/
def pageB (n : Int) : Bool := decide (60 ≤ n ∧ n ≤ 2000)
theorem tpI (n : Int) (ds : List D) : tupAt (.tup (I n :: ds)) 0 = some (I n) := rfl
theorem tpA (l : List D) (ds : List D) : tupAt (.tup (.agg l :: ds)) 0 = some (.agg l) := rfl
theorem tp1 (a : D) (v : Value) (ds : List D) : tupAt (.tup (a :: .v v :: ds)) 1 = some (.v v) := rfl
theorem tp2 (a b : D) (v : Value) (ds : List D) : tupAt (.tup (a :: b :: .v v :: ds)) 2 = some (.v v) := rfl
def ifN0 (b : Bool) (n : Int) : Int := if b = true then n else 0
end Go.Proofs.YtoocdnbkiejihaaDoor
/-
  Strikes: what the functions compute.
-/
namespace Go.Proofs.YtoocdnbkiejihaaDoor
open Go Go.V
set_option linter.unusedSimpArgs false

/-! ### numbers of 64 bits joined by a byte -/
def i64s (l : List Int) : Prop := ∀ n ∈ l, -9223372036854775808 ≤ n ∧ n ≤ 9223372036854775807
theorem intT_any {n : Int} (h0 : -9223372036854775808 ≤ n) (h1 : n ≤ 9223372036854775807) : (intT n).size ≤ 20 := by
  by_cases h : 0 ≤ n
  · have := intT_size 18 (n := n) h (by omega)
    omega
  · have e : intT n = ⟨#[45]⟩ ++ intT (-n) := by
      obtain ⟨u, hu⟩ := Int.eq_ofNat_of_zero_le (show 0 ≤ -n by omega)
      have hn : n = -(u : Int) := by omega
      apply chars_inj
      rw [chars_append, hn, Int.neg_neg]
      unfold intT
      rw [chars_mk, chars_mk, Lib.itoa_neg u (by omega), Lib.itoa_nonneg]
      rfl
    have := intT_size 18 (n := -n) (by omega) (by omega)
    rw [e, ByteArray.size_append]
    have : (⟨#[45]⟩ : ByteArray).size = 1 := rfl
    omega
theorem numsJ_any {c : UInt8} {ns : List Int} (h : i64s ns) : (numsJ c ns).size ≤ ns.length * 21 := by
  have : (numsJ c ns).size = (joinL c (ns.map fun n => chars (intT n))).length := by rw [size_list, chars_numsJ]
  rw [this]
  have := joinL_len (c := c) (m := 20) (ns.map fun n => chars (intT n)) fun w hw => by
    obtain ⟨n, hn, rfl⟩ := List.mem_map.1 hw
    exact intT_any (h n hn).1 (h n hn).2
  rwa [List.length_map] at this
theorem numsG_any : ∀ (l : List ByteArray) (acc : List Int), i64s acc → i64s (numsG l acc)
  | [], acc, h => h
  | w :: l, acc, h => by
    unfold numsG
    cases hw : Lib.atoiAll (chars w) with
    | ok v =>
      refine numsG_any l _ fun n hn => ?_
      rcases List.mem_append.1 hn with hn | hn
      · exact h n hn
      · rw [List.mem_singleton.1 hn]
        exact Lib.atoiAll_bounds hw
    | _ => intro n hn; simp at hn
theorem numsT_any (s : ByteArray) : i64s (numsT s) := numsG_any _ _ fun n hn => by simp at hn

/-! ### strikes -/
abbrev Sk := Int × Int × Int × Int × Int
abbrev sk (s : Sk) : D := .agg [I s.1, I s.2.1, I s.2.2.1, I s.2.2.2.1, I s.2.2.2.2]
def skL (s : Sk) : List Int := [s.1, s.2.1, s.2.2.1, s.2.2.2.1, s.2.2.2.2]
def in1 (x : Int) : Bool := decide (1 ≤ x ∧ x ≤ 999)
def goodK (s : Sk) : Bool := (skL s).all in1
theorem goodK_iff {s : Sk} : goodK s = true ↔ (1 ≤ s.1 ∧ s.1 ≤ 999) ∧ (1 ≤ s.2.1 ∧ s.2.1 ≤ 999) ∧ (1 ≤ s.2.2.1 ∧ s.2.2.1 ≤ 999) ∧ (1 ≤ s.2.2.2.1 ∧ s.2.2.2.1 ≤ 999) ∧ (1 ≤ s.2.2.2.2 ∧ s.2.2.2.2 ≤ 999) := by
  simp only [goodK, skL, in1, List.all_cons, List.all_nil, Bool.and_true, Bool.and_eq_true, decide_eq_true_eq]
theorem goodK_in {s : Sk} (h : goodK s = true) : ∀ n ∈ skL s, 1 ≤ n ∧ n ≤ 999 := fun n hn => by simpa [in1] using List.all_eq_true.1 h n hn
theorem mk5 (a b c d e : Int) : mkArr 1 [I a, I b, I c, I d, I e] = some (intsL [a, b, c, d, e]) := mkInts (l := [a, b, c, d, e])
theorem box5 (s : Sk) : boxD 5 (sk s) = some (sk s) := by simp
theorem fld5 (s : Sk) : fldD true 5 0 (sk s) = some (sk s) := by simp
theorem st5 (s : Sk) : stD 5 (.agg [I 0, I 0, I 0, I 0, I 0]) (.ref 0 0) (sk s) = some (sk s) := by simp
theorem bld5 (a b c d e : Int) : bldD [(0, 1), (1, 1), (2, 1), (3, 1), (4, 1)] [I 0, I 0, I 0, I 0, I 0] [I a, I b, I c, I d, I e] = some (sk (a, b, c, d, e)) := by simp [bldD, fillD]
abbrev k0 : Sk := (0, 0, 0, 0, 0)
theorem bldk0 : bldD [] [I 0, I 0, I 0, I 0, I 0] [] = some (sk k0) := by simp [bldD, fillD]
/-! ### filings -/
def difL (a b : List Int) : List Int := List.zipWith (fun x y => x - y) a b
def geL (a b : List Int) : Bool := (List.zipWith (fun x y => decide (y ≤ x)) a b).all id
def canK (s t : Sk) : Bool := geL (skL s) (skL t) && decide (s.2.2.1 = t.2.2.1)
theorem difL_take {a b : List Int} (h : a.length = b.length) {i : Nat} (hi : i < a.length) : (difL a b).take (i + 1) = (difL a b).take i ++ [a[i] - b[i]'(by omega)] := by
  have hl : i < (difL a b).length := by simp [difL]; omega
  rw [List.take_succ_eq_append_getElem hl]
  simp [difL]
theorem geL_take {a b : List Int} (h : a.length = b.length) {i : Nat} (hi : i < a.length) : geL (a.take (i + 1)) (b.take (i + 1)) = (geL (a.take i) (b.take i) && decide (b[i]'(by omega) ≤ a[i])) := by
  unfold geL
  rw [List.take_succ_eq_append_getElem hi, List.take_succ_eq_append_getElem (show i < b.length by omega), List.zipWith_append (by simp; omega), List.all_append]
  simp
theorem ints_app {l : List Int} {n : Int} (h : l.length ≤ 1048576) : appD 1 8 (intsL l) (intsL [n]) = some (intsL (l ++ [n])) := by
  rw [appD_eq, if_pos (by simp; omega)]
  simp
theorem ints_one (n : Int) : mkArr 1 [I n] = some (intsL [n]) := mkInts (l := [n])
theorem ints_chk (l : List Int) : chkA (intsL l) = some (intsL l) := chkA_map (fun _ => rfl)
theorem gate_bool (b : Bool) (r : Option D) : gate (.tup []) (B b) true r = if b = true then r else some (.tup []) := by cases b <;> rfl
end Go.Proofs.YtoocdnbkiejihaaDoor
/-
  Strikes: filings, casts, files, centres, texts.
-/
namespace Go.Proofs.YtoocdnbkiejihaaDoor
open Go Go.V
set_option linter.unusedSimpArgs false

theorem allI_id : ∀ (l : List Bool) (i : Nat), allI (fun _ x => x) i l = l.all id
  | [], _ => rfl
  | x :: l, i => by simp only [allI, allI_id l, List.all_cons, id]
theorem tpL (l : List Int) (ds : List D) : tupAt (.tup (intsL l :: ds)) 0 = some (intsL l) := rfl
theorem tpC1 (a : D) (v : Value) (ds : List D) : tupAt (tupCut (.tup (a :: .v v :: ds)) 0) 1 = some (.v v) := rfl
def bothK (s t : Sk) : Bool := goodK s && goodK t
def filB (s t : Sk) : Bool := bothK s t && canK s t
def filR (s t : Sk) : List Int := if filB s t = true then difL (skL s) (skL t) else []
theorem e_laws_sameInts (l : List Int) (h : l.length ≤ 1048576) : F_laws_sameInts [intsL l, intsL l] = some (.ret [B true] []) := by
  rw [t_laws_sameInts]
  simp only [lenD_arr, List.length_map, Option.bind_some, bin_neq, decide_true, Bool.not_true, ifD_B, Bool.false_eq_true, if_false]
  refine loop_bind (.ext 0 []) (loop_for l.length (fun i => [intsL l, intsL l, I l.length, I i]) _ (fun i hi => ?_) ?_ rfl rfl) ?_
  · have hw : IntKind.i64.wrap ((i : Int) + 1) = (i : Int) + 1 := wrap_id (by omega) (by omega)
    simp -implicitDefEqProofs [hi, hw]
  · simp
  · simp
/-! ### casts -/
theorem e_spec_l1Least (a b : Int) : F_spec_l1Least [I a, I b] = some (.ret [I (if a < b then a else b)] []) := by
  rw [t_spec_l1Least]
  by_cases h : a < b <;> simp [h]
def casB (u v : Sk) (m : Int) : Bool := bothK u v && decide (0 ≤ m ∧ m ≤ 999) && decide (u.1 - v.1 ≤ m)
def casX (u v : Sk) (m : Int) : Int := 1000 * (v.1 + m - u.1) + 999
def casN (u v : Sk) (m : Int) : Int := if casB u v m = true then (if casX u v m < 1000000 then casX u v m else 1000000) else 0
theorem minD_I (a b : Int) : minD (I a) (I b) = some (I (if b < a then b else a)) := rfl
def depB (s : Sk) (n : Int) : Bool := goodK s && decide (0 ≤ n ∧ n ≤ 1000000)
/-! ### files, centres -/
def ofL (l : List Int) : Sk := (l.getD 0 0, l.getD 1 0, l.getD 2 0, l.getD 3 0, l.getD 4 0)
def fiK (s : Sk) (p b : Int) : Sk := ofL ((skL s).set p.toNat ((skL s).getD p.toNat 0 - b))
def fiB (s : Sk) (p b : Int) : Bool := goodK s && decide (0 ≤ p ∧ p ≤ 4) && !decide (p = 2) && decide (1 ≤ b ∧ b ≤ 999) && goodK (fiK s p b)
def fiR (s : Sk) (p b : Int) : Sk := if fiB s p b = true then fiK s p b else k0
def ceK (s : Sk) : Sk := (s.1, (if s.2.2.2.1 < s.2.1 then s.2.2.2.1 else s.2.1), s.2.2.1, (if s.2.2.2.1 < s.2.1 then s.2.2.2.1 else s.2.1), s.2.2.2.2)
def ceR (s : Sk) : Sk := if goodK s = true then ceK s else k0
end Go.Proofs.YtoocdnbkiejihaaDoor
/-
  Strikes: texts, draws.
-/
namespace Go.Proofs.YtoocdnbkiejihaaDoor
open Go Go.V
set_option linter.unusedSimpArgs false

theorem joinL_snoc (c : UInt8) (w : List UInt8) : ∀ (ws : List (List UInt8)), ws ≠ [] → joinL c (ws ++ [w]) = joinL c ws ++ c :: w
  | [], h => absurd rfl h
  | [a], _ => rfl
  | a :: b :: l, _ => by
    have ih := joinL_snoc c w (b :: l) (by simp)
    have h1 : joinL c ((a :: b :: l) ++ [w]) = a ++ c :: joinL c ((b :: l) ++ [w]) := rfl
    have h2 : joinL c (a :: b :: l) = a ++ c :: joinL c (b :: l) := rfl
    rw [h1, h2, ih]
    simp
theorem numsJ_one (c : UInt8) (n : Int) : numsJ c [n] = intT n := chars_inj (by rw [chars_numsJ]; rfl)
theorem numsJ_snoc (c : UInt8) (ns : List Int) (n : Int) (h : ns ≠ []) : numsJ c (ns ++ [n]) = numsJ c ns ++ ⟨#[c]⟩ ++ intT n := by
  apply chars_inj
  rw [chars_numsJ, List.map_append, List.map_cons, List.map_nil, joinL_snoc _ _ _ (by simpa using h), chars_append, chars_append, chars_numsJ, show chars ⟨#[c]⟩ = [c] from rfl]
  simp
def skT (s : Sk) : ByteArray := numsJ 47 (skL s)
theorem skL_in {s : Sk} (h : goodK s = true) : ∀ n ∈ skL s, 0 ≤ n ∧ n < 1000000 := fun n hn => by have := goodK_in h n hn; omega
theorem skT_size {s : Sk} (h : goodK s = true) : (skT s).size ≤ 100 := by
  have := numsJ_size (c := 47) (ns := skL s) fun n hn => by have := skL_in h n hn; omega
  exact Nat.le_trans this (by simp [skL])
/-! ### strikes read out of texts -/
def okK (ns : List Int) : Bool :=
  match ns with
  | [a, b, c, d, e] => goodK (a, b, c, d, e)
  | _ => false
theorem okK_in (ns : List Int) (h : okK ns = true) : ∀ n ∈ ns, 0 ≤ n ∧ n < 1000000 := by
  unfold okK at h
  split at h
  · exact skL_in h
  · cases h
def skO (o : Option (List Int)) : Sk :=
  match o with
  | some [a, b, c, d, e] => (a, b, c, d, e)
  | _ => k0
abbrev pK (s : ByteArray) : Option (List Int) := parseI 47 5 okK s
theorem pK_eq (s : ByteArray) : parseS readT 47 5 okK s = pK s := (parse_eq reads_T (by decide) (by decide) okK_in (by decide) s).symm
theorem pK_T {s : Sk} (h : goodK s = true) : pK (skT s) = some (skL s) := parseI_J reads_T (by decide) (by decide) okK_in (ns := skL s) h rfl
/-! ### draws -/
theorem curZ_eq (l : List Int) : curZ l = curD ⟨l, 0, 0⟩ := rfl
theorem box_cur (l : List Int) : boxD 3 (.agg [bytesD l, I 0, D.v (.int .u64 0)]) = some (curZ l) := by simp
theorem tS (l : List UInt8) : (D.v (Value.string { data := { toList := l } })) = T ⟨⟨l⟩⟩ := rfl
def exK : List ByteArray := [⟨⟨[]⟩⟩, ⟨⟨[49, 47, 49, 47, 49, 47, 49, 47, 49]⟩⟩, ⟨⟨[48, 47, 49, 47, 49, 47, 49, 47, 49]⟩⟩, ⟨⟨[49, 47, 49, 47, 49, 47, 49]⟩⟩, ⟨⟨[57, 57, 57, 47, 57, 57, 57, 47, 57, 57, 57, 47, 57, 57, 57, 47, 57, 57, 57]⟩⟩, ⟨⟨[49, 48, 48, 48, 47, 49, 47, 49, 47, 49, 47, 49]⟩⟩, ⟨⟨[48, 49, 47, 49, 47, 49, 47, 49, 47, 49]⟩⟩]
theorem exK_mk : mkArr 1 [T ⟨⟨[]⟩⟩, T ⟨⟨[49, 47, 49, 47, 49, 47, 49, 47, 49]⟩⟩, T ⟨⟨[48, 47, 49, 47, 49, 47, 49, 47, 49]⟩⟩, T ⟨⟨[49, 47, 49, 47, 49, 47, 49]⟩⟩, T ⟨⟨[57, 57, 57, 47, 57, 57, 57, 47, 57, 57, 57, 47, 57, 57, 57, 47, 57, 57, 57]⟩⟩, T ⟨⟨[49, 48, 48, 48, 47, 49, 47, 49, 47, 49, 47, 49]⟩⟩, T ⟨⟨[48, 49, 47, 49, 47, 49, 47, 49, 47, 49]⟩⟩] = some (txs exK) := mkTxs (l := exK)
theorem exK_size : ∀ s ∈ exK, s.size ≤ 20 := by decide
end Go.Proofs.YtoocdnbkiejihaaDoor
/-
  Stocks of rule slips: what the functions compute.
-/
namespace Go.Proofs.YtoocdnbkiejihaaDoor
open Go Go.V
set_option linter.unusedSimpArgs false

abbrev Slp := Int × Int
abbrev slp (x : Slp) : D := .agg [I x.1, I x.2]
abbrev sls (l : List Slp) : D := .arr 2 (l.map slp)
def okS (x : Slp) : Bool := decide (1 ≤ x.1 ∧ x.1 ≤ 200) && decide (0 ≤ x.2 ∧ x.2 ≤ 20)
def pS (l : List Slp) (i : Nat) (x : Slp) : Bool := okS x && !(decide (0 < i) && decide (x.1 ≤ (l.getD (i - 1) (0, 0)).1))
def goodS (l : List Slp) : Bool := allI (pS l) 0 l && decide (l.length ≤ 8)
theorem boxS (m : Slp) : boxD 2 (slp m) = some (slp m) := by simp
theorem fldS (m : Slp) : fldD true 2 0 (slp m) = some (slp m) := by simp
theorem stSz (m : Slp) : stD 2 (.agg [I 0, I 0]) (.ref 0 0) (slp m) = some (slp m) := by simp
theorem bldS (a b : Int) : bldD [(0, 1), (1, 1)] [I 0, I 0] [I a, I b] = some (slp (a, b)) := by simp [bldD, fillD]
theorem elS {l : List Slp} {i : Nat} (h : i < l.length) : elemD 2 (sls l) (I (i : Int)) = some [I l[i].1, I l[i].2] := by simp [h]
theorem ldS (a b : Int) : (ldD true 2 (.ptr [I a, I b])).bind chkV = some (slp (a, b)) := rfl
theorem sls_one (m : Slp) : mkArr 2 [slp m] = some (sls [m]) := by simp [mkArr, lenOkD]
theorem sls_chk (l : List Slp) : chkA (sls l) = some (sls l) := chkA_map (fun _ => rfl)
theorem sls_app {l m : List Slp} (h : l.length + m.length ≤ 1048576) : appD 2 16 (sls l) (sls m) = some (sls (l ++ m)) := by
  rw [appD_eq, if_pos (by simp; omega), ← List.map_append]
theorem sls_nil : (D.arr 2 []) = sls [] := rfl
theorem sls_set (l : List Slp) (i : Nat) (v : Int) (hi : i < l.length) : stD 1 (sls l) (.ref i 1) (I v) = some (sls (l.set i (l[i].1, v))) := by
  have := stD_part (z := 2) (i := i) (f := 1) (L := l.map slp) (c := [I l[i].1, I l[i].2]) (v := .int .i64 v) (by simp [hi]) (by simp)
  rw [this]
  show some (D.arr 2 ((l.map slp).set i (slp (l[i].1, v)))) = _
  rw [← List.map_set]

theorem e_spec_ruSlip (x : Slp) : F_spec_ruSlip [slp x] = some (.ret [B (okS x)] []) := by
  rw [t_spec_ruSlip]
  by_cases h1 : 1 ≤ x.1 ∧ x.1 ≤ 200 <;> simp -implicitDefEqProofs [e_spec_l1In, okS, h1]
theorem e_spec_ruGood (l : List Slp) (h : l.length ≤ 1048576) : F_spec_ruGood [sls l] = some (.ret [B (goodS l)] []) := by
  rw [t_spec_ruGood]
  simp only [lenD_arr, List.length_map, Option.bind_some]
  refine loop_bind _ (loop_all l (fun i => [sls l, sls l, I l.length, I i]) (pS l) (.ret [B false] []) (.ext 0 [sls l]) (fun i hi => ?_) ?_ rfl rfl rfl) ?_
  · have hw : IntKind.i64.wrap ((i : Int) + 1) = (i : Int) + 1 := wrap_id (by omega) (by omega)
    cases h1 : okS l[i]
    · simp -implicitDefEqProofs [hi, e_spec_ruSlip, h1, pS]
    · by_cases h0 : 0 < i
      · have hw2 : IntKind.i64.wrap ((i : Int) - 1) = ((i - 1 : Nat) : Int) := by rw [wrap_id (by omega) (by omega)]; omega
        have hy : i - 1 < l.length := by omega
        by_cases h2 : l[i].1 ≤ l[i - 1].1 <;> simp -implicitDefEqProofs [hi, hy, e_spec_ruSlip, h1, pS, hw, hw2, h0, h2]
      · simp -implicitDefEqProofs [hi, e_spec_ruSlip, h1, pS, hw, h0]
  · simp
  · by_cases hg : allI (pS l) 0 l = true <;> simp [hg, goodS]
    omega
theorem e_impl_IsStock (l : List Slp) (h : l.length ≤ 1048576) : F_impl_IsStock [sls l] = some (.ret [B (goodS l)] []) := by
  rw [t_impl_IsStock]
  simp only [lenD_arr, List.length_map, Option.bind_some]
  refine loop_bind _ (loop_all l (fun i => [sls l, sls l, I l.length, I i]) (pS l) (.ret [B false] []) (.ext 0 [sls l]) (fun i hi => ?_) ?_ rfl rfl rfl) ?_
  · have hw : IntKind.i64.wrap ((i : Int) + 1) = (i : Int) + 1 := wrap_id (by omega) (by omega)
    by_cases h1 : 1 ≤ l[i].1 ∧ l[i].1 ≤ 200
    case neg => simp -implicitDefEqProofs [hi, e_impl_within, h1, pS, okS]
    by_cases h3 : 0 ≤ l[i].2 ∧ l[i].2 ≤ 20
    case neg => simp -implicitDefEqProofs [hi, e_impl_within, h1, h3, pS, okS]
    by_cases h0 : 0 < i
    · have hw2 : IntKind.i64.wrap ((i : Int) - 1) = ((i - 1 : Nat) : Int) := by rw [wrap_id (by omega) (by omega)]; omega
      have hy : i - 1 < l.length := by omega
      by_cases h2 : l[i].1 ≤ l[i - 1].1 <;> simp -implicitDefEqProofs [hi, hy, e_impl_within, h1, h3, pS, okS, hw, hw2, h0, h2]
    · simp -implicitDefEqProofs [hi, e_impl_within, h1, h3, pS, okS, hw, h0]
  · simp
  · by_cases hg : allI (pS l) 0 l = true <;> simp [hg, goodS]
    omega

/-! ### pieces put into a stock -/
def findS (len : Int) : List Slp → Nat
  | [] => 0
  | x :: l => if x.1 < len then findS len l + 1 else 0
theorem findS_le (len : Int) : ∀ l : List Slp, findS len l ≤ l.length
  | [] => Nat.le_refl _
  | x :: l => by
    have := findS_le len l
    simp only [findS]
    split <;> simp <;> omega
theorem findS_lt (len : Int) : ∀ (l : List Slp) (i : Nat) (hi : i < l.length), i < findS len l → l[i].1 < len
  | x :: l, 0, _, h => by
    simp only [findS] at h
    split at h
    · assumption
    · omega
  | x :: l, i + 1, hi, h => by
    simp only [findS] at h
    split at h
    · exact findS_lt len l i (by simpa using hi) (by omega)
    · omega
theorem findS_at (len : Int) : ∀ (l : List Slp) (h : findS len l < l.length), ¬ l[findS len l].1 < len
  | x :: l, h => by
    by_cases hx : x.1 < len
    · have e : findS len (x :: l) = findS len l + 1 := by simp only [findS, hx, if_true]
      have h' : findS len l < l.length := by rw [e] at h; simpa using h
      have := findS_at len l h'
      simp only [e, List.getElem_cons_succ]
      exact this
    · have e : findS len (x :: l) = 0 := by simp only [findS, hx, if_false]
      simp only [e, List.getElem_cons_zero]
      exact hx
def putS (l : List Slp) (len cnt : Int) : List Slp :=
  if (l.getD (findS len l) (0, 0)).1 = len ∧ findS len l < l.length then l.set (findS len l) (len, IntKind.i64.wrap ((l.getD (findS len l) (0, 0)).2 + cnt))
  else l.take (findS len l) ++ [(len, cnt)] ++ l.drop (findS len l)
theorem putS_len (l : List Slp) (len cnt : Int) : (putS l len cnt).length ≤ l.length + 1 := by
  have := findS_le len l
  unfold putS
  split
  · simp
  · simp; omega
theorem e_spec_ruPut (l : List Slp) (len cnt : Int) (h : l.length ≤ 1000000) : F_spec_ruPut [sls l, I len, I cnt] = some (.ret [sls (putS l len cnt)] []) := by
  rw [t_spec_ruPut]
  have hle := findS_le len l
  refine loop_bind (.ext 0 [sls l, I len, I cnt, I (findS len l)]) (loop_for (findS len l) (fun i => [sls l, I len, I cnt, I i]) _ (fun i hi => ?_) ?_ rfl rfl) ?_
  · have hi2 : i < l.length := by omega
    have hi' : (i : Int) < (l.length : Int) := by omega
    have hw : IntKind.i64.wrap ((i : Int) + 1) = ((i + 1 : Nat) : Int) := by rw [wrap_id (by omega) (by omega)]; omega
    have hlt := findS_lt len l i hi2 hi
    simp -implicitDefEqProofs only [sl_zero, sl_succ, lenD_arr, List.length_map, Option.bind_some, bin_lss, hi', decide_true, gate_t, if_true, elS hi2, Option.map_some, offD_ptr, List.drop_zero, ldD_ptr, takeD_f, chkV_v, hlt, pickD_B, ifD_B, bin_add, hw]
  · by_cases hk : findS len l < l.length
    · have hi' : ((findS len l : Nat) : Int) < (l.length : Int) := by omega
      have hlt := findS_at len l hk
      simp -implicitDefEqProofs only [sl_zero, sl_succ, lenD_arr, List.length_map, Option.bind_some, bin_lss, hi', decide_true, gate_t, if_true, elS hk, Option.map_some, offD_ptr, List.drop_zero, ldD_ptr, takeD_f, chkV_v, hlt, decide_false, pickD_B, ifD_B, Bool.false_eq_true, if_false]
    · have hi' : ¬ ((findS len l : Nat) : Int) < (l.length : Int) := by omega
      simp -implicitDefEqProofs only [sl_zero, sl_succ, lenD_arr, List.length_map, Option.bind_some, bin_lss, hi', decide_false, gate_t, Bool.false_eq_true, if_false, pickD_B, ifD_B]
  · have ha0 := sls_app (l := []) (m := l) (by simp; omega)
    rw [List.nil_append] at ha0
    have hins : ¬ ((l.getD (findS len l) (0, 0)).1 = len ∧ findS len l < l.length) → ((sliceD false 2 (sls l) (I ((0 : Nat) : Int)) (I (findS len l))).bind fun z => (chkA z).bind fun b => (appD 2 16 (sls []) b).bind fun y => (bldD [(0, 1), (1, 1)] [I 0, I 0] [I len, I cnt]).bind fun z => (mkArr 2 [z]).bind fun a => (chkA a).bind fun b => (appD 2 16 y b).bind fun y =>
        (sliceHi false 2 (sls l) (I (findS len l))).bind fun z => (chkA z).bind fun b => (appD 2 16 y b).bind fun y => some (Out.ret [y] [])) = some (.ret [sls (putS l len cnt)] []) := by
      intro hn
      have e1 : sliceD false 2 (sls l) (I ((0 : Nat) : Int)) (I (findS len l)) = some (sls (l.take (findS len l))) := by
        rw [sliceD_nat (by omega) (by simpa using hle), List.drop_zero, ← List.map_take]
      have e2 : sliceHi false 2 (sls l) (I (findS len l)) = some (sls (l.drop (findS len l))) := by
        rw [sliceHi_nat (by simpa using hle), ← List.map_drop]
      have a1 := sls_app (l := []) (m := l.take (findS len l)) (by simp; omega)
      rw [List.nil_append] at a1
      have a2 := sls_app (l := l.take (findS len l)) (m := [(len, cnt)]) (by simp; omega)
      have a3 := sls_app (l := l.take (findS len l) ++ [(len, cnt)]) (m := l.drop (findS len l)) (by simp; omega)
      simp -implicitDefEqProofs only [e1, e2, Option.bind_some, sls_chk, a1, a2, a3, bldS, sls_one, putS, hn, if_false]
    by_cases hk : findS len l < l.length
    · have hi' : ((findS len l : Nat) : Int) < (l.length : Int) := by omega
      have eg : l.getD (findS len l) (0, 0) = l[findS len l] := by simp [List.getD_eq_getElem?_getD, hk]
      by_cases heq : l[findS len l].1 = len
      · have hr : refI 2 (sls l) (I (findS len l)) = some (.ref (findS len l) 0) := by rw [refI_nat, if_pos (by simpa using hk)]
        have hat : (atD (sls l) (.ref (findS len l) 1)).bind (takeD false 1) = some (I l[findS len l].2) := by simp [hk]
        have hs := sls_set l (findS len l) (IntKind.i64.wrap (l[findS len l].2 + cnt)) hk
        have hp : putS l len cnt = l.set (findS len l) (l[findS len l].1, IntKind.i64.wrap (l[findS len l].2 + cnt)) := by
          unfold putS
          rw [eg, if_pos ⟨heq, hk⟩, heq]
        rw [hp]
        simp -implicitDefEqProofs only [outK_ext, Nat.beq_refl, ifN_B, if_true, sl_zero, sl_succ, mkArr_nil, sls_nil, sls_chk, ha0, lenD_arr, List.length_map, Option.bind_some, bin_lss, hi', decide_true, gate_t, elS hk, Option.map_some, offD_ptr, List.drop_zero, ldD_ptr, takeD_f, chkV_v, bin_eql, heq, pickD_B, ifD_B, liveD_arr, liveD_ref, hr, refAdd_ref, Nat.zero_add, hat, bin_add, hs]
      · have := hins (by rw [eg]; exact fun g => heq g.1)
        simp -implicitDefEqProofs only [outK_ext, Nat.beq_refl, ifN_B, if_true, sl_zero, sl_succ, mkArr_nil, sls_nil, sls_chk, ha0, lenD_arr, List.length_map, Option.bind_some, bin_lss, hi', decide_true, gate_t, elS hk, Option.map_some, offD_ptr, List.drop_zero, ldD_ptr, takeD_f, chkV_v, bin_eql, heq, decide_false, pickD_B, ifD_B, Bool.false_eq_true, if_false]
        exact this
    · have hi' : ¬ ((findS len l : Nat) : Int) < (l.length : Int) := by omega
      have := hins (fun g => hk g.2)
      simp -implicitDefEqProofs only [outK_ext, Nat.beq_refl, ifN_B, if_true, sl_zero, sl_succ, mkArr_nil, sls_nil, sls_chk, ha0, lenD_arr, List.length_map, Option.bind_some, bin_lss, hi', decide_false, gate_t, pickD_B, ifD_B, Bool.false_eq_true, if_false]
      exact this
theorem e_impl_withPieces (l : List Slp) (len cnt : Int) (h : l.length ≤ 1000000) : F_impl_withPieces [sls l, I len, I cnt] = some (.ret [sls (putS l len cnt)] []) := by
  rw [t_impl_withPieces]
  have hle := findS_le len l
  refine loop_bind (.ext 0 [sls l, I len, I cnt, I (findS len l)]) (loop_for (findS len l) (fun i => [sls l, I len, I cnt, I i]) _ (fun i hi => ?_) ?_ rfl rfl) ?_
  · have hi2 : i < l.length := by omega
    have hi' : (i : Int) < (l.length : Int) := by omega
    have hw : IntKind.i64.wrap ((i : Int) + 1) = ((i + 1 : Nat) : Int) := by rw [wrap_id (by omega) (by omega)]; omega
    have hlt := findS_lt len l i hi2 hi
    simp -implicitDefEqProofs only [sl_zero, sl_succ, lenD_arr, List.length_map, Option.bind_some, bin_lss, hi', decide_true, gate_t, if_true, elS hi2, Option.map_some, offD_ptr, List.drop_zero, ldD_ptr, takeD_f, chkV_v, hlt, pickD_B, ifD_B, bin_add, hw]
  · by_cases hk : findS len l < l.length
    · have hi' : ((findS len l : Nat) : Int) < (l.length : Int) := by omega
      have hlt := findS_at len l hk
      simp -implicitDefEqProofs only [sl_zero, sl_succ, lenD_arr, List.length_map, Option.bind_some, bin_lss, hi', decide_true, gate_t, if_true, elS hk, Option.map_some, offD_ptr, List.drop_zero, ldD_ptr, takeD_f, chkV_v, hlt, decide_false, pickD_B, ifD_B, Bool.false_eq_true, if_false]
    · have hi' : ¬ ((findS len l : Nat) : Int) < (l.length : Int) := by omega
      simp -implicitDefEqProofs only [sl_zero, sl_succ, lenD_arr, List.length_map, Option.bind_some, bin_lss, hi', decide_false, gate_t, Bool.false_eq_true, if_false, pickD_B, ifD_B]
  · have ha0 := sls_app (l := []) (m := l) (by simp; omega)
    rw [List.nil_append] at ha0
    have hins : ¬ ((l.getD (findS len l) (0, 0)).1 = len ∧ findS len l < l.length) → ((sliceD false 2 (sls l) (I ((0 : Nat) : Int)) (I (findS len l))).bind fun z => (chkA z).bind fun b => (appD 2 16 (sls []) b).bind fun y => (bldD [(0, 1), (1, 1)] [I 0, I 0] [I len, I cnt]).bind fun z => (mkArr 2 [z]).bind fun a => (chkA a).bind fun b => (appD 2 16 y b).bind fun y =>
        (sliceHi false 2 (sls l) (I (findS len l))).bind fun z => (chkA z).bind fun b => (appD 2 16 y b).bind fun y => some (Out.ret [y] [])) = some (.ret [sls (putS l len cnt)] []) := by
      intro hn
      have e1 : sliceD false 2 (sls l) (I ((0 : Nat) : Int)) (I (findS len l)) = some (sls (l.take (findS len l))) := by
        rw [sliceD_nat (by omega) (by simpa using hle), List.drop_zero, ← List.map_take]
      have e2 : sliceHi false 2 (sls l) (I (findS len l)) = some (sls (l.drop (findS len l))) := by
        rw [sliceHi_nat (by simpa using hle), ← List.map_drop]
      have a1 := sls_app (l := []) (m := l.take (findS len l)) (by simp; omega)
      rw [List.nil_append] at a1
      have a2 := sls_app (l := l.take (findS len l)) (m := [(len, cnt)]) (by simp; omega)
      have a3 := sls_app (l := l.take (findS len l) ++ [(len, cnt)]) (m := l.drop (findS len l)) (by simp; omega)
      simp -implicitDefEqProofs only [e1, e2, Option.bind_some, sls_chk, a1, a2, a3, bldS, sls_one, putS, hn, if_false]
    by_cases hk : findS len l < l.length
    · have hi' : ((findS len l : Nat) : Int) < (l.length : Int) := by omega
      have eg : l.getD (findS len l) (0, 0) = l[findS len l] := by simp [List.getD_eq_getElem?_getD, hk]
      by_cases heq : l[findS len l].1 = len
      · have hr : refI 2 (sls l) (I (findS len l)) = some (.ref (findS len l) 0) := by rw [refI_nat, if_pos (by simpa using hk)]
        have hat : (atD (sls l) (.ref (findS len l) 1)).bind (takeD false 1) = some (I l[findS len l].2) := by simp [hk]
        have hs := sls_set l (findS len l) (IntKind.i64.wrap (l[findS len l].2 + cnt)) hk
        have hp : putS l len cnt = l.set (findS len l) (l[findS len l].1, IntKind.i64.wrap (l[findS len l].2 + cnt)) := by
          unfold putS
          rw [eg, if_pos ⟨heq, hk⟩, heq]
        rw [hp]
        simp -implicitDefEqProofs only [outK_ext, Nat.beq_refl, ifN_B, if_true, sl_zero, sl_succ, mkArr_nil, sls_nil, sls_chk, ha0, lenD_arr, List.length_map, Option.bind_some, bin_lss, hi', decide_true, gate_t, elS hk, Option.map_some, offD_ptr, List.drop_zero, ldD_ptr, takeD_f, chkV_v, bin_eql, heq, pickD_B, ifD_B, liveD_arr, liveD_ref, hr, refAdd_ref, Nat.zero_add, hat, bin_add, hs]
      · have := hins (by rw [eg]; exact fun g => heq g.1)
        simp -implicitDefEqProofs only [outK_ext, Nat.beq_refl, ifN_B, if_true, sl_zero, sl_succ, mkArr_nil, sls_nil, sls_chk, ha0, lenD_arr, List.length_map, Option.bind_some, bin_lss, hi', decide_true, gate_t, elS hk, Option.map_some, offD_ptr, List.drop_zero, ldD_ptr, takeD_f, chkV_v, bin_eql, heq, decide_false, pickD_B, ifD_B, Bool.false_eq_true, if_false]
        exact this
    · have hi' : ¬ ((findS len l : Nat) : Int) < (l.length : Int) := by omega
      have := hins (fun g => hk g.2)
      simp -implicitDefEqProofs only [outK_ext, Nat.beq_refl, ifN_B, if_true, sl_zero, sl_succ, mkArr_nil, sls_nil, sls_chk, ha0, lenD_arr, List.length_map, Option.bind_some, bin_lss, hi', decide_false, gate_t, pickD_B, ifD_B, Bool.false_eq_true, if_false]
      exact this
end Go.Proofs.YtoocdnbkiejihaaDoor
/-
  Stocks: lengths, cuts, joins.
-/
namespace Go.Proofs.YtoocdnbkiejihaaDoor
open Go Go.V
set_option linter.unusedSimpArgs false

theorem allI_get {β : Type} {p : Nat → β → Bool} : ∀ (l : List β) (s : Nat), allI p s l = true → ∀ (i : Nat) (hi : i < l.length), p (s + i) l[i] = true
  | [], _, _, _, hi => absurd hi (Nat.not_lt_zero _)
  | x :: l, s, h, 0, _ => by
    simp only [allI, Bool.and_eq_true] at h
    exact h.1
  | x :: l, s, h, i + 1, hi => by
    simp only [allI, Bool.and_eq_true] at h
    have := allI_get l (s + 1) h.2 i (by simpa using hi)
    rwa [show s + (i + 1) = s + 1 + i by omega]
theorem goodS_ok {l : List Slp} (h : goodS l = true) : ∀ x ∈ l, (1 ≤ x.1 ∧ x.1 ≤ 200) ∧ 0 ≤ x.2 ∧ x.2 ≤ 20 := by
  intro x hx
  obtain ⟨i, hi, rfl⟩ := List.getElem_of_mem hx
  simp only [goodS, Bool.and_eq_true] at h
  have := allI_get l 0 h.1 i hi
  simp only [pS, okS, Bool.and_eq_true, decide_eq_true_eq] at this
  exact this.1
theorem goodS_len {l : List Slp} (h : goodS l = true) : l.length ≤ 8 := by
  simp only [goodS, Bool.and_eq_true, decide_eq_true_eq] at h
  exact h.2
def lenS (l : List Slp) : Int := (l.map fun x => x.1 * x.2).sum
theorem lenS_app (a b : List Slp) : lenS (a ++ b) = lenS a + lenS b := by
  simp [lenS]
theorem lenS_one (x : Slp) : lenS [x] = x.1 * x.2 := by simp [lenS]
theorem lenS_take {l : List Slp} {i : Nat} (hi : i < l.length) : lenS (l.take (i + 1)) = lenS (l.take i) + l[i].1 * l[i].2 := by
  rw [List.take_succ_eq_append_getElem hi, lenS_app, lenS_one]
theorem pr_b {x : Slp} (h : (1 ≤ x.1 ∧ x.1 ≤ 200) ∧ 0 ≤ x.2 ∧ x.2 ≤ 20) : 0 ≤ x.1 * x.2 ∧ x.1 * x.2 ≤ 4000 := by
  refine ⟨Int.mul_nonneg (by omega) h.2.1, ?_⟩
  have := Int.mul_le_mul h.1.2 h.2.2 h.2.1 (show (0 : Int) ≤ 200 by omega)
  omega
theorem lenS_b {l : List Slp} (h : ∀ x ∈ l, (1 ≤ x.1 ∧ x.1 ≤ 200) ∧ 0 ≤ x.2 ∧ x.2 ≤ 20) : 0 ≤ lenS l ∧ lenS l ≤ 4000 * (l.length : Int) := by
  induction l with
  | nil => simp [lenS]
  | cons x l ih =>
    have := ih fun y hy => h y (List.mem_cons_of_mem _ hy)
    have hb := pr_b (h x (List.mem_cons_self ..))
    have e : lenS (x :: l) = x.1 * x.2 + lenS l := by simp [lenS]
    rw [e, List.length_cons]
    omega
theorem e_impl_StockLength (l : List Slp) (h : l.length ≤ 1048576) : F_impl_StockLength [sls l] = some (.ret [I (if goodS l = true then lenS l else 0), B (goodS l)] []) := by
  rw [t_impl_StockLength]
  cases hg : goodS l
  · simp -implicitDefEqProofs only [e_impl_IsStock l h, hg, callK_ret, sl_zero, un_not, Bool.not_false, Option.bind_some, ifD_B, if_true, Bool.false_eq_true, if_false]
  have hok := goodS_ok hg
  have h8 := goodS_len hg
  simp -implicitDefEqProofs only [e_impl_IsStock l h, hg, callK_ret, sl_zero, un_not, Bool.not_true, Option.bind_some, ifD_B, Bool.false_eq_true, if_false, if_true, lenD_arr, List.length_map]
  refine loop_bind (.ext 0 [I (lenS l)]) (loop_for l.length (fun i => [I (lenS (l.take i)), sls l, I l.length, I i]) _ (fun i hi => ?_) ?_ rfl rfl) ?_
  · have hi' : (i : Int) < (l.length : Int) := by omega
    have hw : IntKind.i64.wrap ((i : Int) + 1) = ((i + 1 : Nat) : Int) := by rw [wrap_id (by omega) (by omega)]; omega
    have hb := pr_b (hok l[i] (List.getElem_mem hi))
    have hs := lenS_b (l := l.take i) fun x hx => hok x (List.mem_of_mem_take hx)
    have hl : (l.take i).length ≤ 8 := by rw [List.length_take]; omega
    have w1 : IntKind.i64.wrap (l[i].1 * l[i].2) = l[i].1 * l[i].2 := wrap_id (by omega) (by omega)
    have w2 : IntKind.i64.wrap (lenS (l.take i) + l[i].1 * l[i].2) = lenS (l.take (i + 1)) := by rw [lenS_take hi]; exact wrap_id (by omega) (by omega)
    simp -implicitDefEqProofs only [sl_zero, sl_succ, bin_lss, hi', decide_true, Option.bind_some, ifD_B, if_true, elS hi, Option.map_some, ldS, stSz, liveD_agg, atD_agg, List.drop_zero, List.drop_succ_cons, takeD_f, bin_mul, w1, bin_add, w2, hw]
  · simp
  · simp -implicitDefEqProofs only [outK_ext, Nat.beq_refl, ifN_B, if_true, sl_zero]
theorem e_laws_pSameSlips (l : List Slp) (h : l.length ≤ 1048576) : F_laws_pSameSlips [sls l, sls l] = some (.ret [B true] []) := by
  rw [t_laws_pSameSlips]
  simp -implicitDefEqProofs only [lenD_arr, List.length_map, Option.bind_some, bin_neq, decide_true, Bool.not_true, ifD_B, Bool.false_eq_true, if_false]
  refine loop_bind (.ext 0 []) (loop_for l.length (fun i => [sls l, sls l, I l.length, I i]) _ (fun i hi => ?_) ?_ rfl rfl) ?_
  · have hi' : (i : Int) < (l.length : Int) := by omega
    have hw : IntKind.i64.wrap ((i : Int) + 1) = ((i + 1 : Nat) : Int) := by rw [wrap_id (by omega) (by omega)]; omega
    have hn : bin .neq false [1, 1] (slp (l[i].1, l[i].2)) (slp (l[i].1, l[i].2)) = some (B false) := by simp [bin, allEq]
    simp -implicitDefEqProofs only [sl_zero, sl_succ, bin_lss, hi', decide_true, Option.bind_some, ifD_B, if_true, elS hi, Option.map_some, ldS, hn, Bool.false_eq_true, if_false, bin_add, hw]
  · simp
  · simp
/-! ### what is checked at the end -/
def ckS (l : List Slp) : List Slp := if goodS l = true then l else []
theorem e_impl_checkedStock (l : List Slp) (h : l.length ≤ 1048576) : F_impl_checkedStock [sls l] = some (.ret [sls (ckS l), B (goodS l)] []) := by
  rw [t_impl_checkedStock]
  unfold ckS
  cases hg : goodS l
  · simp -implicitDefEqProofs only [e_impl_IsStock l h, hg, callK_ret, sl_zero, un_not, Bool.not_false, Option.bind_some, ifD_B, if_true, mkArr_nil, Bool.false_eq_true, if_false]
    rfl
  · simp -implicitDefEqProofs only [e_impl_IsStock l h, hg, callK_ret, sl_zero, un_not, Bool.not_true, Option.bind_some, ifD_B, Bool.false_eq_true, if_false, if_true]
theorem e_spec_ruIf (l : List Slp) (h : l.length ≤ 1048576) : F_spec_ruIf [sls l] = some (.ret [sls (ckS l), B (goodS l)] []) := by
  rw [t_spec_ruIf]
  unfold ckS
  cases hg : goodS l
  · simp -implicitDefEqProofs only [e_spec_ruGood l h, hg, callK_ret, sl_zero, un_not, Bool.not_false, Option.bind_some, ifD_B, if_true, Bool.false_eq_true, if_false]
    rfl
  · simp -implicitDefEqProofs only [e_spec_ruGood l h, hg, callK_ret, sl_zero, un_not, Bool.not_true, Option.bind_some, ifD_B, Bool.false_eq_true, if_false, if_true]
/-! ### joins -/
def jnS (a b : List Slp) : List Slp := b.foldl (fun l x => putS l x.1 x.2) a
def jnB (a b : List Slp) : Bool := goodS a && goodS b && goodS (jnS a b)
def jnR (a b : List Slp) : List Slp := if jnB a b = true then jnS a b else []
theorem jnS_take {a b : List Slp} {i : Nat} (hi : i < b.length) : jnS a (b.take (i + 1)) = putS (jnS a (b.take i)) b[i].1 b[i].2 := by
  unfold jnS
  rw [List.take_succ_eq_append_getElem hi, List.foldl_append]
  rfl
theorem jnS_len : ∀ b : List Slp, ∀ a : List Slp, (jnS a b).length ≤ a.length + b.length
  | [], _ => Nat.le_refl _
  | x :: b, a => by
    have h1 := jnS_len b (putS a x.1 x.2)
    have h2 := putS_len a x.1 x.2
    have e : jnS a (x :: b) = jnS (putS a x.1 x.2) b := rfl
    rw [e, List.length_cons]
    omega
theorem tpSl (l : List Slp) (ds : List D) : tupAt (.tup (sls l :: ds)) 0 = some (sls l) := rfl
theorem tpSv (l : List Slp) (v : Value) (ds : List D) : tupAt (.tup (sls l :: .v v :: ds)) 1 = some (.v v) := rfl
theorem e_impl_JoinStocks (a b : List Slp) (ha : a.length ≤ 1000) (hb : b.length ≤ 1000) : F_impl_JoinStocks [sls a, sls b] = some (.ret [sls (jnR a b), B (jnB a b)] []) := by
  rw [t_impl_JoinStocks]
  unfold jnR
  cases h1 : goodS a
  · have hj : jnB a b = false := by simp only [jnB, h1, Bool.false_and]
    rw [hj]
    simp -implicitDefEqProofs only [e_impl_IsStock a (by omega), h1, callK_ret, sl_zero, un_not, Bool.not_false, Option.bind_some, gate_f, if_true, gateC_f, pickD_B, ifD_B, mkArr_nil, Bool.false_eq_true, if_false]
    rfl
  cases h2 : goodS b
  · have hj : jnB a b = false := by simp only [jnB, h1, h2, Bool.false_and, Bool.and_false]
    rw [hj]
    simp -implicitDefEqProofs only [e_impl_IsStock a (by omega), e_impl_IsStock b (by omega), h1, h2, callK_ret, sl_zero, un_not, Bool.not_true, Bool.not_false, Option.bind_some, gate_f, if_true, gateC_f, nrmK_some, pickD_B, ifD_B, mkArr_nil, Bool.false_eq_true, if_false]
    rfl
  have ha0 := sls_app (l := []) (m := a) (by simp; omega)
  rw [List.nil_append] at ha0
  have hj : jnB a b = goodS (jnS a b) := by simp only [jnB, h1, h2, Bool.true_and]
  rw [hj]
  simp -implicitDefEqProofs only [e_impl_IsStock a (by omega), e_impl_IsStock b (by omega), h1, h2, callK_ret, sl_zero, un_not, Bool.not_true, Option.bind_some, gate_f, gateC_f, nrmK_some, pickD_B, ifD_B, mkArr_nil, sls_nil, ha0, Bool.false_eq_true, if_false, lenD_arr, List.length_map]
  refine loop_bind (.ext 0 [sls (jnS a b)]) (loop_for b.length (fun i => [sls (jnS a (b.take i)), sls b, I b.length, I i]) _ (fun i hi => ?_) ?_ rfl rfl) ?_
  · have hi' : (i : Int) < (b.length : Int) := by omega
    have hw : IntKind.i64.wrap ((i : Int) + 1) = ((i + 1 : Nat) : Int) := by rw [wrap_id (by omega) (by omega)]; omega
    have hz := jnS_len (b.take i) a
    have hp := e_impl_withPieces (jnS a (b.take i)) b[i].1 b[i].2 (by rw [List.length_take] at hz; omega)
    rw [← jnS_take hi] at hp
    simp -implicitDefEqProofs only [sl_zero, sl_succ, bin_lss, hi', decide_true, Option.bind_some, ifD_B, if_true, elS hi, Option.map_some, ldS, stSz, liveD_agg, atD_agg, List.drop_zero, List.drop_succ_cons, takeD_f, hp, callK_ret, bin_add, hw]
  · simp
  · have hz := jnS_len b a
    simp -implicitDefEqProofs only [outK_ext, Nat.beq_refl, ifN_B, if_true, sl_zero, e_impl_checkedStock (jnS a b) (by omega), callK_ret, tpSl, tpSv, Option.bind_some, ckS]
theorem e_spec_JoinStocks (a b : List Slp) (ha : a.length ≤ 1000) (hb : b.length ≤ 1000) : F_spec_JoinStocks [sls a, sls b] = some (.ret [sls (jnR a b), B (jnB a b)] []) := by
  rw [t_spec_JoinStocks]
  unfold jnR
  cases h1 : goodS a
  · have hj : jnB a b = false := by simp only [jnB, h1, Bool.false_and]
    rw [hj]
    simp -implicitDefEqProofs only [e_spec_ruGood a (by omega), h1, callK_ret, sl_zero, un_not, Bool.not_false, Option.bind_some, gate_f, if_true, gateC_f, pickD_B, ifD_B, mkArr_nil, Bool.false_eq_true, if_false]
    rfl
  cases h2 : goodS b
  · have hj : jnB a b = false := by simp only [jnB, h1, h2, Bool.false_and, Bool.and_false]
    rw [hj]
    simp -implicitDefEqProofs only [e_spec_ruGood a (by omega), e_spec_ruGood b (by omega), h1, h2, callK_ret, sl_zero, un_not, Bool.not_true, Bool.not_false, Option.bind_some, gate_f, if_true, gateC_f, nrmK_some, pickD_B, ifD_B, mkArr_nil, Bool.false_eq_true, if_false]
    rfl
  have ha0 := sls_app (l := []) (m := a) (by simp; omega)
  rw [List.nil_append] at ha0
  have hj : jnB a b = goodS (jnS a b) := by simp only [jnB, h1, h2, Bool.true_and]
  rw [hj]
  simp -implicitDefEqProofs only [e_spec_ruGood a (by omega), e_spec_ruGood b (by omega), h1, h2, callK_ret, sl_zero, un_not, Bool.not_true, Option.bind_some, gate_f, gateC_f, nrmK_some, pickD_B, ifD_B, mkArr_nil, sls_nil, ha0, Bool.false_eq_true, if_false, lenD_arr, List.length_map]
  refine loop_bind (.ext 0 [sls (jnS a b)]) (loop_for b.length (fun i => [sls (jnS a (b.take i)), sls b, I b.length, I i]) _ (fun i hi => ?_) ?_ rfl rfl) ?_
  · have hi' : (i : Int) < (b.length : Int) := by omega
    have hw : IntKind.i64.wrap ((i : Int) + 1) = ((i + 1 : Nat) : Int) := by rw [wrap_id (by omega) (by omega)]; omega
    have hz := jnS_len (b.take i) a
    have hp := e_spec_ruPut (jnS a (b.take i)) b[i].1 b[i].2 (by rw [List.length_take] at hz; omega)
    rw [← jnS_take hi] at hp
    simp -implicitDefEqProofs only [sl_zero, sl_succ, bin_lss, hi', decide_true, Option.bind_some, ifD_B, if_true, elS hi, Option.map_some, ldS, stSz, liveD_agg, atD_agg, List.drop_zero, List.drop_succ_cons, takeD_f, hp, callK_ret, bin_add, hw]
  · simp
  · have hz := jnS_len b a
    simp -implicitDefEqProofs only [outK_ext, Nat.beq_refl, ifN_B, if_true, sl_zero, e_spec_ruIf (jnS a b) (by omega), callK_ret, tpSl, tpSv, Option.bind_some, ckS]
/-! ### cuts -/
def cuK (l : List Slp) (u : Nat) (len : Int) : List Slp :=
  putS (putS (l.set u ((l.getD u (0, 0)).1, (l.getD u (0, 0)).2 - 1)) len 1) ((l.getD u (0, 0)).1 - len) 1
def cuA (l : List Slp) (i len : Int) : Bool := goodS l && decide (0 ≤ i ∧ i ≤ (l.length : Int) - 1) && !decide ((l.getD i.toNat (0, 0)).2 = 0) && decide (1 ≤ len ∧ len ≤ (l.getD i.toNat (0, 0)).1 - 1)
def cuB (l : List Slp) (i len : Int) : Bool := cuA l i len && goodS (cuK l i.toNat len)
def cuR (l : List Slp) (i len : Int) : List Slp := if cuB l i len = true then cuK l i.toNat len else []
theorem e_impl_CutSlip (l : List Slp) (i len : Int) (h : l.length ≤ 1000) : F_impl_CutSlip [sls l, I i, I len] = some (.ret [sls (cuR l i len), B (cuB l i len)] []) := by
  rw [t_impl_CutSlip]
  unfold cuR
  cases h1 : goodS l
  · have hj : cuB l i len = false := by simp only [cuB, cuA, h1, Bool.false_and]
    rw [hj]
    simp -implicitDefEqProofs only [e_impl_IsStock l (by omega), h1, callK_ret, sl_zero, un_not, Bool.not_false, Option.bind_some, gate_f, if_true, gateC_f, pickD_B, ifD_B, mkArr_nil, Bool.false_eq_true, if_false]
    rfl
  have wl : IntKind.i64.wrap ((l.length : Int) - 1) = (l.length : Int) - 1 := wrap_id (by omega) (by omega)
  by_cases hr : 0 ≤ i ∧ i ≤ (l.length : Int) - 1
  case neg =>
    have hj : cuB l i len = false := by simp only [cuB, cuA, hr, decide_false, Bool.and_false, Bool.false_and]
    rw [hj]
    simp -implicitDefEqProofs only [e_impl_IsStock l (by omega), h1, callK_ret, sl_zero, un_not, Bool.not_true, Bool.not_false, Option.bind_some, gate_f, gateC_f, lenD_arr, List.length_map, bin_sub, wl, e_impl_within, hr, decide_false, nrmK_some, if_true, pickD_B, ifD_B, mkArr_nil, Bool.false_eq_true, if_false]
    rfl
  obtain ⟨u, rfl⟩ := Int.eq_ofNat_of_zero_le hr.1
  have hu : u < l.length := by omega
  have eg : l.getD u (0, 0) = l[u] := by simp [List.getD_eq_getElem?_getD, hu]
  have hok := goodS_ok h1 l[u] (List.getElem_mem hu)
  have hcA : cuA l (u : Int) len = (!decide (l[u].2 = 0) && decide (1 ≤ len ∧ len ≤ l[u].1 - 1)) := by simp only [cuA, h1, hr, and_self, decide_true, Bool.true_and, Int.toNat_natCast, eg]
  by_cases h0 : l[u].2 = 0
  · have hj : cuB l (u : Int) len = false := by simp only [cuB, hcA, h0, decide_true, Bool.not_true, Bool.false_and]
    rw [hj]
    simp -implicitDefEqProofs only [e_impl_IsStock l (by omega), h1, callK_ret, sl_zero, un_not, Bool.not_true, Bool.not_false, Option.bind_some, gate_f, gateC_f, lenD_arr, List.length_map, bin_sub, wl, e_impl_within, hr, and_self, decide_true, nrmK_some, if_true, pickD_B, ifD_B, mkArr_nil, Bool.false_eq_true, if_false, elS hu, Option.map_some, offD_ptr, List.drop_succ_cons, List.drop_zero, ldD_ptr, takeD_f, chkV_v, bin_eql, h0]
    rfl
  have wu : IntKind.i64.wrap (l[u].1 - 1) = l[u].1 - 1 := wrap_id (by omega) (by omega)
  by_cases h2 : 1 ≤ len ∧ len ≤ l[u].1 - 1
  case neg =>
    have hj : cuB l (u : Int) len = false := by simp only [cuB, hcA, h2, decide_false, Bool.and_false, Bool.false_and]
    rw [hj]
    simp -implicitDefEqProofs only [e_impl_IsStock l (by omega), h1, callK_ret, sl_zero, un_not, Bool.not_true, Bool.not_false, Option.bind_some, gate_f, gateC_f, lenD_arr, List.length_map, bin_sub, wl, e_impl_within, hr, and_self, decide_true, nrmK_some, if_true, pickD_B, ifD_B, mkArr_nil, Bool.false_eq_true, if_false, elS hu, Option.map_some, offD_ptr, List.drop_succ_cons, List.drop_zero, ldD_ptr, takeD_f, chkV_v, bin_eql, h0, wu, h2, decide_false]
    rfl
  have hj : cuB l (u : Int) len = goodS (cuK l u len) := by simp only [cuB, hcA, h0, h2, and_self, decide_true, decide_false, Bool.not_false, Bool.true_and, Int.toNat_natCast]
  have ha0 := sls_app (l := []) (m := l) (by simp; omega)
  rw [List.nil_append] at ha0
  have hri : refI 2 (sls l) (I (u : Int)) = some (.ref u 0) := by rw [refI_nat, if_pos (by simpa using hu)]
  have hat : (atD (sls l) (.ref u 1)).bind (takeD false 1) = some (I l[u].2) := by simp [hu]
  have w3 : IntKind.i64.wrap (l[u].2 - 1) = l[u].2 - 1 := wrap_id (by omega) (by omega)
  have w4 : IntKind.i64.wrap (l[u].1 - len) = l[u].1 - len := wrap_id (by omega) (by omega)
  have hs := sls_set l u (l[u].2 - 1) hu
  have z1 := putS_len (l.set u (l[u].1, l[u].2 - 1)) len 1
  rw [List.length_set] at z1
  have z2 := putS_len (putS (l.set u (l[u].1, l[u].2 - 1)) len 1) (l[u].1 - len) 1
  have p1 := e_impl_withPieces (l.set u (l[u].1, l[u].2 - 1)) len 1 (by rw [List.length_set]; omega)
  have p2 := e_impl_withPieces (putS (l.set u (l[u].1, l[u].2 - 1)) len 1) (l[u].1 - len) 1 (by omega)
  have hk : cuK l u len = putS (putS (l.set u (l[u].1, l[u].2 - 1)) len 1) (l[u].1 - len) 1 := by unfold cuK; rw [eg]
  rw [← hk] at p2 z2
  have p3 := e_impl_checkedStock (cuK l u len) (by omega)
  rw [hj, Int.toNat_natCast]
  simp -implicitDefEqProofs only [e_impl_IsStock l (by omega), h1, callK_ret, sl_zero, un_not, Bool.not_true, Option.bind_some, gate_f, gateC_f, lenD_arr, List.length_map, bin_sub, wl, e_impl_within, hr, and_self, decide_true, nrmK_some, pickD_B, ifD_B, mkArr_nil, sls_nil, sls_chk, ha0, Bool.false_eq_true, if_false, elS hu, Option.map_some, offD_ptr, List.drop_succ_cons, List.drop_zero, ldD_ptr, takeD_f, chkV_v, bin_eql, h0, decide_false, wu, h2, liveD_arr, liveD_ref, hri, refAdd_ref, Nat.zero_add, hat, w3, hs, p1, w4, p2, p3, tpSl, tpSv, ckS]
theorem e_spec_CutSlip (l : List Slp) (i len : Int) (h : l.length ≤ 1000) : F_spec_CutSlip [sls l, I i, I len] = some (.ret [sls (cuR l i len), B (cuB l i len)] []) := by
  rw [t_spec_CutSlip]
  unfold cuR
  cases h1 : goodS l
  · have hj : cuB l i len = false := by simp only [cuB, cuA, h1, Bool.false_and]
    rw [hj]
    simp -implicitDefEqProofs only [e_spec_ruGood l (by omega), h1, callK_ret, sl_zero, un_not, Bool.not_false, Option.bind_some, gate_f, if_true, gateC_f, pickD_B, ifD_B, mkArr_nil, Bool.false_eq_true, if_false]
    rfl
  have wl : IntKind.i64.wrap ((l.length : Int) - 1) = (l.length : Int) - 1 := wrap_id (by omega) (by omega)
  by_cases hr : 0 ≤ i ∧ i ≤ (l.length : Int) - 1
  case neg =>
    have hj : cuB l i len = false := by simp only [cuB, cuA, hr, decide_false, Bool.and_false, Bool.false_and]
    rw [hj]
    simp -implicitDefEqProofs only [e_spec_ruGood l (by omega), h1, callK_ret, sl_zero, un_not, Bool.not_true, Bool.not_false, Option.bind_some, gate_f, gateC_f, lenD_arr, List.length_map, bin_sub, wl, e_spec_l1In, hr, decide_false, nrmK_some, if_true, pickD_B, ifD_B, mkArr_nil, Bool.false_eq_true, if_false]
    rfl
  obtain ⟨u, rfl⟩ := Int.eq_ofNat_of_zero_le hr.1
  have hu : u < l.length := by omega
  have eg : l.getD u (0, 0) = l[u] := by simp [List.getD_eq_getElem?_getD, hu]
  have hok := goodS_ok h1 l[u] (List.getElem_mem hu)
  have hcA : cuA l (u : Int) len = (!decide (l[u].2 = 0) && decide (1 ≤ len ∧ len ≤ l[u].1 - 1)) := by simp only [cuA, h1, hr, and_self, decide_true, Bool.true_and, Int.toNat_natCast, eg]
  by_cases h0 : l[u].2 = 0
  · have hj : cuB l (u : Int) len = false := by simp only [cuB, hcA, h0, decide_true, Bool.not_true, Bool.false_and]
    rw [hj]
    simp -implicitDefEqProofs only [e_spec_ruGood l (by omega), h1, callK_ret, sl_zero, un_not, Bool.not_true, Bool.not_false, Option.bind_some, gate_f, gateC_f, lenD_arr, List.length_map, bin_sub, wl, e_spec_l1In, hr, and_self, decide_true, nrmK_some, if_true, pickD_B, ifD_B, mkArr_nil, Bool.false_eq_true, if_false, elS hu, Option.map_some, offD_ptr, List.drop_succ_cons, List.drop_zero, ldD_ptr, takeD_f, chkV_v, bin_eql, h0]
    rfl
  have wu : IntKind.i64.wrap (l[u].1 - 1) = l[u].1 - 1 := wrap_id (by omega) (by omega)
  by_cases h2 : 1 ≤ len ∧ len ≤ l[u].1 - 1
  case neg =>
    have hj : cuB l (u : Int) len = false := by simp only [cuB, hcA, h2, decide_false, Bool.and_false, Bool.false_and]
    rw [hj]
    simp -implicitDefEqProofs only [e_spec_ruGood l (by omega), h1, callK_ret, sl_zero, un_not, Bool.not_true, Bool.not_false, Option.bind_some, gate_f, gateC_f, lenD_arr, List.length_map, bin_sub, wl, e_spec_l1In, hr, and_self, decide_true, nrmK_some, if_true, pickD_B, ifD_B, mkArr_nil, Bool.false_eq_true, if_false, elS hu, Option.map_some, offD_ptr, List.drop_succ_cons, List.drop_zero, ldD_ptr, takeD_f, chkV_v, bin_eql, h0, wu, h2, decide_false]
    rfl
  have hj : cuB l (u : Int) len = goodS (cuK l u len) := by simp only [cuB, hcA, h0, h2, and_self, decide_true, decide_false, Bool.not_false, Bool.true_and, Int.toNat_natCast]
  have ha0 := sls_app (l := []) (m := l) (by simp; omega)
  rw [List.nil_append] at ha0
  have hri : refI 2 (sls l) (I (u : Int)) = some (.ref u 0) := by rw [refI_nat, if_pos (by simpa using hu)]
  have hat : (atD (sls l) (.ref u 1)).bind (takeD false 1) = some (I l[u].2) := by simp [hu]
  have w3 : IntKind.i64.wrap (l[u].2 - 1) = l[u].2 - 1 := wrap_id (by omega) (by omega)
  have w4 : IntKind.i64.wrap (l[u].1 - len) = l[u].1 - len := wrap_id (by omega) (by omega)
  have hs := sls_set l u (l[u].2 - 1) hu
  have z1 := putS_len (l.set u (l[u].1, l[u].2 - 1)) len 1
  rw [List.length_set] at z1
  have z2 := putS_len (putS (l.set u (l[u].1, l[u].2 - 1)) len 1) (l[u].1 - len) 1
  have p1 := e_spec_ruPut (l.set u (l[u].1, l[u].2 - 1)) len 1 (by rw [List.length_set]; omega)
  have p2 := e_spec_ruPut (putS (l.set u (l[u].1, l[u].2 - 1)) len 1) (l[u].1 - len) 1 (by omega)
  have hk : cuK l u len = putS (putS (l.set u (l[u].1, l[u].2 - 1)) len 1) (l[u].1 - len) 1 := by unfold cuK; rw [eg]
  rw [← hk] at p2 z2
  have p3 := e_spec_ruIf (cuK l u len) (by omega)
  rw [hj, Int.toNat_natCast]
  simp -implicitDefEqProofs only [e_spec_ruGood l (by omega), h1, callK_ret, sl_zero, un_not, Bool.not_true, Option.bind_some, gate_f, gateC_f, lenD_arr, List.length_map, bin_sub, wl, e_spec_l1In, hr, and_self, decide_true, nrmK_some, pickD_B, ifD_B, mkArr_nil, sls_nil, sls_chk, ha0, Bool.false_eq_true, if_false, elS hu, Option.map_some, offD_ptr, List.drop_succ_cons, List.drop_zero, ldD_ptr, takeD_f, chkV_v, bin_eql, h0, decide_false, wu, h2, liveD_arr, liveD_ref, hri, refAdd_ref, Nat.zero_add, hat, w3, hs, p1, w4, p2, p3, tpSl, tpSv, ckS]
end Go.Proofs.YtoocdnbkiejihaaDoor
/-
  Stocks: the tables of fewest pieces.
-/
namespace Go.Proofs.YtoocdnbkiejihaaDoor
open Go Go.V
set_option linter.unusedSimpArgs false

/-! ### plain -/
def minO (a b : Option Nat) : Option Nat :=
  match a, b with
  | none, b => b
  | some a, none => some a
  | some a, some b => if b < a then some b else some a
def row0 (k : Nat) : Option Nat := if k = 0 then some 0 else none
def bestO (row : Nat → Option Nat) (w k : Nat) : Nat → Option Nat
  | 0 => none
  | m + 1 => minO (bestO row w k m) ((row (k - m * w)).map (· + m))
def mostO (w c k : Nat) : Nat := min c (k / w) + 1
def stepO (w c : Nat) (row : Nat → Option Nat) (k : Nat) : Option Nat := bestO row w k (mostO w c k)
def rowF (l : List Slp) : Nat → Option Nat := l.foldl (fun row x => stepO x.1.toNat x.2.toNat row) row0
theorem rowF_take {l : List Slp} {i : Nat} (hi : i < l.length) : rowF (l.take (i + 1)) = stepO l[i].1.toNat l[i].2.toNat (rowF (l.take i)) := by
  unfold rowF
  rw [List.take_succ_eq_append_getElem hi, List.foldl_append]
  rfl
def encI (o : Option Nat) : Int :=
  match o with
  | none => -1
  | some v => (v : Int)
def encS (o : Option Nat) : Int :=
  match o with
  | none => 1048576
  | some v => (v : Int)
theorem minO_b {a b : Option Nat} {z : Nat} (ha : ∀ v, a = some v → v ≤ z) (hb : ∀ v, b = some v → v ≤ z) : ∀ v, minO a b = some v → v ≤ z := by
  intro v h
  cases a with
  | none => exact hb v h
  | some a =>
    cases b with
    | none => exact ha v h
    | some b =>
      simp only [minO] at h
      split at h
      · exact hb v h
      · exact ha v h
theorem bestO_b {row : Nat → Option Nat} {w k z c : Nat} (hr : ∀ j v, row j = some v → v ≤ z) : ∀ m, m ≤ c + 1 → ∀ v, bestO row w k m = some v → v ≤ z + c
  | 0, _, v, h => by cases h
  | m + 1, hm, v, h => by
    refine minO_b (z := z + c) (bestO_b hr m (by omega)) (fun v h => ?_) v h
    obtain ⟨u, h1, rfl⟩ := Option.map_eq_some_iff.1 h
    have := hr _ _ h1
    omega
theorem rowF_b {l : List Slp} (hl : ∀ x ∈ l, x.2 ≤ 20) : ∀ (i : Nat), i ≤ l.length → ∀ k v, rowF (l.take i) k = some v → v ≤ 20 * i
  | 0, _, k, v, h => by
    simp only [List.take_zero, rowF, List.foldl_nil, row0] at h
    split at h
    · cases h; omega
    · cases h
  | i + 1, hi, k, v, h => by
    have hi' : i < l.length := hi
    rw [rowF_take hi'] at h
    have hc := hl l[i] (List.getElem_mem hi')
    have := bestO_b (c := l[i].2.toNat) (rowF_b hl i (by omega)) (mostO l[i].1.toNat l[i].2.toNat k) (by unfold mostO; omega) v h
    omega
theorem most_iff {w c k m : Nat} (hw : 0 < w) : m < mostO w c k ↔ m ≤ c ∧ m * w ≤ k := by
  have := Nat.le_div_iff_mul_le (x := m) (y := k) hw
  unfold mostO
  omega

/-! ### rows under way -/
def fillI (f : Nat → Int) (n k : Nat) : List Int := (List.range k).map f ++ List.replicate (n - k) 0
def fullI (f : Nat → Int) (n : Nat) : List Int := (List.range n).map f
theorem fillI_len {f : Nat → Int} {n k : Nat} (h : k ≤ n) : (fillI f n k).length = n := by simp [fillI]; omega
theorem fillI_zero (f : Nat → Int) (n : Nat) : fillI f n 0 = List.replicate n 0 := by simp [fillI]
theorem fillI_full (f : Nat → Int) (n : Nat) : fillI f n n = fullI f n := by simp [fillI, fullI]
theorem fillI_set {f : Nat → Int} {n k : Nat} (h : k < n) : (fillI f n k).set k (f k) = fillI f n (k + 1) := by
  obtain ⟨m, hm⟩ : ∃ m, n - k = m + 1 := ⟨n - k - 1, by omega⟩
  rw [fillI, fillI, hm, show n - (k + 1) = m by omega, List.replicate_succ, List.set_append_right _ _ (by simp)]
  simp [List.range_succ]
theorem fullI_get {f : Nat → Int} {n k : Nat} (h : k < n) : (fullI f n)[k]'(by simpa [fullI] using h) = f k := by simp [fullI]
abbrev tabD (rows : List (List Int)) : D := .arr 1 (rows.map fun r => intsL r)
theorem ref_ints {l : List Int} {i : Nat} (h : i < l.length) : refI 1 (intsL l) (I (i : Int)) = some (.ref i 0) := by rw [refI_nat, if_pos (by simpa using h)]
theorem st_ints (l : List Int) (i : Nat) (v : Int) (h : i < l.length) : stD 1 (intsL l) (.ref i 0) (I v) = some (intsL (l.set i v)) := by
  rw [stD_arr1 (w := .int .i64 l[i]) (by simp [h])]
  show some (D.arr 1 ((l.map I).set i (I v))) = _
  rw [← List.map_set]
theorem at_ints {l : List Int} {i : Nat} (h : i < l.length) : (atD (intsL l) (.ref i 0)).bind (takeD false 1) = some (I l[i]) := by simp [h]
theorem el_ints {l : List Int} {i : Nat} (h : i < l.length) : elemD 1 (intsL l) (I (i : Int)) = some [I l[i]] := by simp [h]
theorem ref_tab {l : List (List Int)} {i : Nat} (h : i < l.length) : refI 1 (tabD l) (I (i : Int)) = some (.ref i 0) := by rw [refI_nat, if_pos (by simpa using h)]
theorem at_tab {l : List (List Int)} {i : Nat} (h : i < l.length) : (atD (tabD l) (.ref i 0)).bind (takeD false 1) = some (intsL l[i]) := by simp [h]
theorem el_tab {l : List (List Int)} {i : Nat} (h : i < l.length) : elemD 1 (tabD l) (I (i : Int)) = some [intsL l[i]] := by simp [h]
theorem tab_one (r : List Int) : mkArr 1 [intsL r] = some (tabD [r]) := by simp [mkArr, lenOkD]
theorem tab_app {l m : List (List Int)} (h : l.length + m.length ≤ 1000000) : appD 1 24 (tabD l) (tabD m) = some (tabD (l ++ m)) := by
  rw [appD_eq, if_pos (by simp; omega), ← List.map_append]
theorem mak_ints {n : Nat} (h : n ≤ 1000000) : makD 1 8 (I 0) (I (n : Int)) (I (n : Int)) = some (intsL (List.replicate n 0)) := by
  rw [makD_nat, if_pos (by omega)]
  show _ = some (D.arr 1 ((List.replicate n (0 : Int)).map I))
  rw [List.map_replicate]
end Go.Proofs.YtoocdnbkiejihaaDoor
/-
  Stocks: the tables of fewest pieces, walked.
-/
namespace Go.Proofs.YtoocdnbkiejihaaDoor
open Go Go.V
set_option linter.unusedSimpArgs false

theorem e_impl_lengthsOf (l : List Slp) (h : l.length ≤ 1000000) : F_impl_lengthsOf [sls l] = some (.ret [intsL (l.map (·.1)), intsL (l.map (·.2))] []) := by
  rw [t_impl_lengthsOf]
  simp -implicitDefEqProofs only [mkArr_nil, Option.bind_some, lenD_arr, List.length_map]
  refine loop_bind (.ext 0 [intsL (l.map (·.1)), intsL (l.map (·.2))]) (loop_for l.length (fun i => [intsL ((l.take i).map (·.1)), intsL ((l.take i).map (·.2)), sls l, I l.length, I i]) _ (fun i hi => ?_) ?_ rfl rfl) ?_
  · have hi' : (i : Int) < (l.length : Int) := by omega
    have hw : IntKind.i64.wrap ((i : Int) + 1) = ((i + 1 : Nat) : Int) := by rw [wrap_id (by omega) (by omega)]; omega
    have a1 := ints_app (l := (l.take i).map (·.1)) (n := l[i].1) (by rw [List.length_map, List.length_take]; omega)
    have a2 := ints_app (l := (l.take i).map (·.2)) (n := l[i].2) (by rw [List.length_map, List.length_take]; omega)
    have e1 : (l.take (i + 1)).map (·.1) = (l.take i).map (·.1) ++ [l[i].1] := by rw [List.take_succ_eq_append_getElem hi, List.map_append]; rfl
    have e2 : (l.take (i + 1)).map (·.2) = (l.take i).map (·.2) ++ [l[i].2] := by rw [List.take_succ_eq_append_getElem hi, List.map_append]; rfl
    rw [← e1] at a1
    rw [← e2] at a2
    simp -implicitDefEqProofs only [sl_zero, sl_succ, bin_lss, hi', decide_true, Option.bind_some, ifD_B, if_true, elS hi, Option.map_some, ldS, stSz, liveD_agg, atD_agg, List.drop_zero, List.drop_succ_cons, takeD_f, ints_one, ints_chk, a1, a2, bin_add, hw]
  · simp
  · simp -implicitDefEqProofs only [outK_ext, Nat.beq_refl, ifN_B, if_true, sl_zero, sl_succ]
theorem viaD_ref (i f : Nat) (x : D) : viaD (.ref i f) x = x := rfl
def rowI (n : Nat) (F : Nat → Option Nat) : List Int := fullI (fun k => encI (F k)) (n + 1)
def tabI (n : Nat) (l : List Slp) (i : Nat) : List (List Int) := (List.range i).map fun j => rowI n (rowF (l.take j))
theorem tabI_len (n : Nat) (l : List Slp) (i : Nat) : (tabI n l i).length = i := by simp [tabI]
theorem tabI_get {n : Nat} {l : List Slp} {i j : Nat} (h : j < i) : (tabI n l i)[j]'(by rw [tabI_len]; exact h) = rowI n (rowF (l.take j)) := by simp [tabI]
theorem tabI_snoc (n : Nat) (l : List Slp) (i : Nat) : tabI n l i ++ [rowI n (rowF (l.take i))] = tabI n l (i + 1) := by simp [tabI, List.range_succ]
theorem rowI_len (n : Nat) (F : Nat → Option Nat) : (rowI n F).length = n + 1 := by simp [rowI, fullI]
theorem rowI_get {n : Nat} {F : Nat → Option Nat} {k : Nat} (h : k < n + 1) : (rowI n F)[k]'(by rw [rowI_len]; exact h) = encI (F k) := by simp [rowI, fullI]
theorem encI_neg (o : Option Nat) : (0 ≤ encI o ↔ o.isSome = true) := by
  cases o <;> simp [encI]
end Go.Proofs.YtoocdnbkiejihaaDoor
/-
  Stocks: impl's table of fewest pieces.
-/
namespace Go.Proofs.YtoocdnbkiejihaaDoor
open Go Go.V
set_option linter.unusedSimpArgs false

theorem encI_n : encI none = -1 := rfl
theorem encI_s (v : Nat) : encI (some v) = (v : Int) := rfl
theorem wI {i : Nat} (h : i ≤ 1000000) : IntKind.i64.wrap ((i : Int) + 1) = ((i + 1 : Nat) : Int) := by rw [wrap_id (by omega) (by omega)]; omega
theorem set_get {l : List Int} {i : Nat} {v : Int} (h : i < l.length) : (l.set i v)[i]'(by rw [List.length_set]; exact h) = v := by simp
theorem e_impl_fewest (l : List Slp) (n : Nat) (hl : l.length ≤ 8) (hn : n ≤ 400) (hok : ∀ x ∈ l, (1 ≤ x.1 ∧ x.1 ≤ 200) ∧ 0 ≤ x.2 ∧ x.2 ≤ 20) :
    F_impl_fewest [intsL (l.map (·.1)), intsL (l.map (·.2)), I (n : Int)] = some (.ret [tabD (tabI n l (l.length + 1))] []) := by
  rw [t_impl_fewest]
  simp -implicitDefEqProofs only [bin_add, wI (show n ≤ 1000000 by omega), mak_ints (show n + 1 ≤ 1000000 by omega), liveD_arr, Option.bind_some]
  refine loop_bind (.ext 0 [intsL (l.map (·.1)), intsL (l.map (·.2)), I (n : Int), .ref 0 0, intsL (rowI n row0)]) (loop_for n (fun i => [intsL (l.map (·.1)), intsL (l.map (·.2)), I (n : Int), .ref 0 0, I ((i + 1 : Nat) : Int), intsL (fillI (fun k => encI (row0 k)) (n + 1) (i + 1))]) _ (fun i hi => ?_) ?_ rfl ?_) ?_
  · have h1 : ((i + 1 : Nat) : Int) ≤ (n : Int) := by omega
    have hlen := fillI_len (f := fun k => encI (row0 k)) (n := n + 1) (k := i + 1) (by omega)
    have hr := ref_ints (l := fillI (fun k => encI (row0 k)) (n + 1) (i + 1)) (i := i + 1) (by omega)
    have hs := st_ints (fillI (fun k => encI (row0 k)) (n + 1) (i + 1)) (i + 1) (-1) (by omega)
    have hf := fillI_set (f := fun k => encI (row0 k)) (n := n + 1) (k := i + 1) (by omega)
    have hm : encI (row0 (i + 1)) = -1 := by simp [row0, encI]
    simp only [hm] at hf
    rw [hf] at hs
    simp -implicitDefEqProofs only [sl_zero, sl_succ, bin_leq, h1, decide_true, Option.bind_some, ifD_B, if_true, liveD_ref, hr, hs, bin_add, wI (show i + 1 ≤ 1000000 by omega)]
  · have h1 : ¬ ((n + 1 : Nat) : Int) ≤ (n : Int) := by omega
    simp -implicitDefEqProofs only [sl_zero, sl_succ, bin_leq, h1, decide_false, Option.bind_some, ifD_B, Bool.false_eq_true, if_false, fillI_full]
    rfl
  · have : fillI (fun k => encI (row0 k)) (n + 1) (0 + 1) = List.replicate (n + 1) 0 := by
      simp [fillI, row0, encI, List.replicate_succ]
    rw [this]
    rfl
  have t0 : [rowI n row0] = tabI n l 1 := by simp [tabI, rowF]
  simp -implicitDefEqProofs only [outK_ext, Nat.beq_refl, ifN_B, if_true, sl_zero, sl_succ, viaD_ref, tab_one, t0, lenD_arr, List.length_map, Option.bind_some]
  refine loop_bind (.ext 2 [tabD (tabI n l (l.length + 1))]) (loop_for l.length (fun i => [intsL (l.map (·.2)), I (n : Int), tabD (tabI n l (i + 1)), intsL (l.map (·.1)), I l.length, I i]) _ (fun i hi => ?_) ?_ rfl rfl) ?_
  case refine_2 =>
    simp
  case refine_3 => simp -implicitDefEqProofs only [outK_ext, Nat.beq_refl, ifN_B, if_true, sl_zero, sl_succ]
  have hi' : (i : Int) < (l.length : Int) := by omega
  have ho := hok l[i] (List.getElem_mem hi)
  obtain ⟨w, hw⟩ := Int.eq_ofNat_of_zero_le (show 0 ≤ l[i].1 by omega)
  obtain ⟨c, hc⟩ := Int.eq_ofNat_of_zero_le ho.2.1
  have hwp : 0 < w := by omega
  have ew : elemD 1 (intsL (l.map (·.1))) (I (i : Int)) = some [I (w : Int)] := by rw [el_ints (by simpa using hi)]; simp [← hw]
  have ec : elemD 1 (intsL (l.map (·.2))) (I (i : Int)) = some [I (c : Int)] := by rw [el_ints (by simpa using hi)]; simp [← hc]
  have hstep : rowF (l.take (i + 1)) = stepO w c (rowF (l.take i)) := by rw [rowF_take hi, hw, hc]; rfl
  have hb := rowF_b (l := l) (fun x hx => (hok x hx).2.2) i (by omega)
  have htab := at_tab (l := tabI n l (i + 1)) (i := i) (by rw [tabI_len]; omega)
  have hrt := ref_tab (l := tabI n l (i + 1)) (i := i) (by rw [tabI_len]; omega)
  rw [tabI_get (by omega)] at htab
  simp -implicitDefEqProofs only [sl_zero, sl_succ, bin_lss, hi', decide_true, Option.bind_some, ifD_B, if_true, ew, Option.map_some, ldD_ptr, takeD_f, chkV_v, bin_add, wI (show n ≤ 1000000 by omega), mak_ints (show n + 1 ≤ 1000000 by omega), liveD_arr, liveD_ref, lenD_arr, List.length_map, List.length_replicate]
  generalize hF : rowF (l.take i) = F at *
  refine loop_bind (.ext 4 [intsL (l.map (·.2)), I (n : Int), tabD (tabI n l (i + 1)), .ref 0 0, intsL (l.map (·.1)), I l.length, I i, intsL (rowI n (stepO w c F))]) (loop_for (n + 1) (fun k => [intsL (l.map (·.2)), I (n : Int), tabD (tabI n l (i + 1)), I i, I (w : Int), .ref 0 0, intsL (l.map (·.1)), I l.length, I i, intsL (fillI (fun k => encI (stepO w c F k)) (n + 1) k), I ((n + 1 : Nat) : Int), I k]) _ (fun k hk => ?_) ?_ rfl ?_) ?_
  case refine_2 =>
    have h1 : ¬ ((n + 1 : Nat) : Int) < ((n + 1 : Nat) : Int) := by omega
    simp -implicitDefEqProofs only [sl_zero, sl_succ, bin_lss, h1, decide_false, Option.bind_some, ifD_B, Bool.false_eq_true, if_false, fillI_full]
    rfl
  case refine_3 =>
    rw [fillI_zero]
    rfl
  case refine_4 =>
    have hap := tab_app (l := tabI n l (i + 1)) (m := [rowI n (stepO w c F)]) (by rw [tabI_len]; simp; omega)
    have hsn := tabI_snoc n l (i + 1)
    rw [hstep] at hsn
    rw [hsn] at hap
    simp -implicitDefEqProofs only [outK_ext, Nat.beq_refl, ifN_B, if_true, sl_zero, sl_succ, viaD_ref, tab_one, hap, Option.bind_some, bin_add, wI (show i ≤ 1000000 by omega)]
  have hk' : (k : Int) < ((n + 1 : Nat) : Int) := by omega
  generalize hL : fillI (fun k => encI (stepO w c F k)) (n + 1) k = L
  have hlen : L.length = n + 1 := by rw [← hL]; exact fillI_len (by omega)
  have hfill : L.set k (encI (stepO w c F k)) = fillI (fun k => encI (stepO w c F k)) (n + 1) (k + 1) := by rw [← hL]; exact fillI_set (by omega)
  have hrf := ref_ints (l := L) (i := k) (by omega)
  have hst := st_ints L k (-1) (by omega)
  simp -implicitDefEqProofs only [sl_zero, sl_succ, bin_lss, hk', decide_true, Option.bind_some, ifD_B, if_true, liveD_ref, hrf, hst]
  refine loop_bind (.ext 6 [intsL (l.map (·.2)), I (n : Int), tabD (tabI n l (i + 1)), I i, I (w : Int), .ref 0 0, intsL (l.map (·.1)), I l.length, I i, intsL (L.set k (encI (stepO w c F k))), I ((n + 1 : Nat) : Int), I k]) (loop_for (mostO w c k) (fun m => [intsL (l.map (·.2)), I (n : Int), tabD (tabI n l (i + 1)), I i, I (w : Int), .ref 0 0, I k, I m, intsL (l.map (·.1)), I l.length, I i, intsL (L.set k (encI (bestO F w k m))), I ((n + 1 : Nat) : Int), I k]) _ (fun m hm => ?_) ?_ rfl rfl) ?_
  case refine_2 =>
    have hno : ¬ (mostO w c k ≤ c ∧ mostO w c k * w ≤ k) := fun h => Nat.lt_irrefl _ ((most_iff hwp).2 h)
    have hM : mostO w c k ≤ 21 := by unfold mostO; omega
    by_cases h1 : ((mostO w c k : Nat) : Int) ≤ (c : Int)
    · have h2 : ¬ ((mostO w c k : Nat) : Int) * (w : Int) ≤ (k : Int) := by
        intro h
        exact hno ⟨by omega, by exact_mod_cast h⟩
      have hmb : mostO w c k * w ≤ 21 * 200 := Nat.mul_le_mul hM (by omega)
      have hwr : IntKind.i64.wrap (((mostO w c k : Nat) : Int) * (w : Int)) = ((mostO w c k : Nat) : Int) * (w : Int) := by
        rw [← Int.natCast_mul]
        exact wrap_id (by omega) (by omega)
      simp -implicitDefEqProofs only [sl_zero, sl_succ, ec, Option.map_some, ldD_ptr, takeD_f, chkV_v, Option.bind_some, bin_leq, h1, decide_true, gate_t, if_true, bin_mul, hwr, h2, decide_false, pickD_B, ifD_B, Bool.false_eq_true, if_false]
      rfl
    · simp -implicitDefEqProofs only [sl_zero, sl_succ, ec, Option.map_some, ldD_ptr, takeD_f, chkV_v, Option.bind_some, bin_leq, h1, decide_false, gate_t, Bool.false_eq_true, if_false, pickD_B, ifD_B]
      rfl
  case refine_3 =>
    simp -implicitDefEqProofs only [outK_ext, Nat.beq_refl, ifN_B, if_true, sl_zero, sl_succ, Option.bind_some, bin_add, wI (show k ≤ 1000000 by omega), hfill]
  obtain ⟨m1, m2⟩ := (most_iff hwp).1 hm
  have h1 : (m : Int) ≤ (c : Int) := by omega
  have h2 : (m : Int) * (w : Int) ≤ (k : Int) := by exact_mod_cast m2
  have hwr : IntKind.i64.wrap ((m : Int) * (w : Int)) = ((m * w : Nat) : Int) := by
    rw [← Int.natCast_mul]
    exact wrap_id (by omega) (by omega)
  have h2' : ((m * w : Nat) : Int) ≤ (k : Int) := by omega
  have hsub : IntKind.i64.wrap ((k : Int) - ((m * w : Nat) : Int)) = ((k - m * w : Nat) : Int) := by rw [wrap_id (by omega) (by omega)]; omega
  have hel := el_ints (l := rowI n F) (i := k - m * w) (by rw [rowI_len]; omega)
  rw [rowI_get (by omega)] at hel
  have hwm := wI (show m ≤ 1000000 by omega)
  have hln : (L.set k (encI (bestO F w k m))).length = n + 1 := by rw [List.length_set, hlen]
  have hrf2 := ref_ints (l := L.set k (encI (bestO F w k m))) (i := k) (by omega)
  have hat2 := at_ints (l := L.set k (encI (bestO F w k m))) (i := k) (by omega)
  rw [set_get (by omega)] at hat2
  have hst2 : ∀ v : Int, stD 1 (intsL (L.set k (encI (bestO F w k m)))) (.ref k 0) (I v) = some (intsL (L.set k v)) := fun v => by rw [st_ints _ k v (by omega), List.set_set]
  have hbn : bestO F w k (m + 1) = minO (bestO F w k m) ((F (k - m * w)).map (· + m)) := rfl
  have hBb := bestO_b (row := F) (w := w) (k := k) (z := 20 * i) (c := c) hb m (by omega)
  rw [hbn]
  have hFb := hb (k - m * w)
  generalize hG : F (k - m * w) = o at hel hFb ⊢
  generalize hH : bestO F w k m = q at *
  cases o with
  | none =>
    have hmin : minO q (Option.map (· + m) none) = q := by cases q <;> rfl
    rw [hmin]
    simp -implicitDefEqProofs only [sl_zero, sl_succ, ec, Option.map_some, ldD_ptr, takeD_f, chkV_v, Option.bind_some, bin_leq, h1, decide_true, gate_t, if_true, bin_mul, hwr, h2', pickD_B, ifD_B, liveD_ref, liveD_arr, hrt, htab, bin_sub, hsub, hel, encI_n, encI_s, bin_geq, show ¬ (0 : Int) ≤ -1 by decide, decide_false, Bool.false_eq_true, if_false, gate_s, gate_f, bin_add, hwm]
  | some v =>
    have hv := hFb v rfl
    have hvm : IntKind.i64.wrap ((v : Int) + (m : Int)) = ((v + m : Nat) : Int) := by rw [wrap_id (by omega) (by omega)]; omega
    have hv0 : (0 : Int) ≤ (v : Int) := by omega
    cases q with
    | none =>
      simp only [encI_n] at hrf2 hat2 hst2
      have hmin : minO none (Option.map (· + m) (some v)) = some (v + m) := rfl
      rw [hmin]
      simp -implicitDefEqProofs only [sl_zero, sl_succ, ec, Option.map_some, ldD_ptr, takeD_f, chkV_v, Option.bind_some, bin_leq, h1, decide_true, gate_t, if_true, bin_mul, hwr, h2', pickD_B, ifD_B, liveD_ref, liveD_arr, hrt, htab, bin_sub, hsub, hel, encI_n, encI_s, bin_geq, hv0, hrf2, hat2, bin_lss, show (-1 : Int) < 0 by decide, gate_f, gate_s, bin_add, hvm, hst2, hwm]
    | some b =>
      simp only [encI_s] at hrf2 hat2 hst2
      have hnb : ¬ (b : Int) < 0 := by omega
      by_cases hlt : v + m < b
      · have hlt' : ((v + m : Nat) : Int) < (b : Int) := by omega
        have hmin : minO (some b) (Option.map (· + m) (some v)) = some (v + m) := by simp [minO, hlt]
        rw [hmin]
        simp -implicitDefEqProofs only [sl_zero, sl_succ, ec, Option.map_some, ldD_ptr, takeD_f, chkV_v, Option.bind_some, bin_leq, h1, decide_true, gate_t, if_true, bin_mul, hwr, h2', pickD_B, ifD_B, liveD_ref, liveD_arr, hrt, htab, bin_sub, hsub, hel, encI_n, encI_s, bin_geq, hv0, hrf2, hat2, bin_lss, hnb, hlt', decide_false, Bool.false_eq_true, if_false, gate_f, gate_s, bin_add, hvm, hst2, hwm]
      · have hlt' : ¬ ((v + m : Nat) : Int) < (b : Int) := by omega
        have hmin : minO (some b) (Option.map (· + m) (some v)) = some b := by simp [minO, hlt]
        rw [hmin]
        simp -implicitDefEqProofs only [sl_zero, sl_succ, ec, Option.map_some, ldD_ptr, takeD_f, chkV_v, Option.bind_some, bin_leq, h1, decide_true, gate_t, if_true, bin_mul, hwr, h2', pickD_B, ifD_B, liveD_ref, liveD_arr, hrt, htab, bin_sub, hsub, hel, encI_n, encI_s, bin_geq, hv0, hrf2, hat2, bin_lss, hnb, hlt', decide_false, Bool.false_eq_true, if_false, gate_f, gate_s, bin_add, hvm, hwm]
end Go.Proofs.YtoocdnbkiejihaaDoor
