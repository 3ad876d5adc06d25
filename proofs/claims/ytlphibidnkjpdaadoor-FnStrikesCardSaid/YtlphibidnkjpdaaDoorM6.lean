/-
  Texts cut at a byte.
-/
import Derived.Test.YtlphibidnkjpdaaDoorRows
import Derived.Test.YtlphibidnkjpdaaDoorTie
import Derived.Test.YtlphibidnkjpdaaDoorCards
import Derived.Test.YtlphibidnkjpdaaDoorM5
import Derived.Lib.IndexBytes
import Derived.Laws.RangeString
import Derived.Laws.Bits64b
namespace Go.Proofs.YtlphibidnkjpdaaDoor
open Go Go.V
set_option linter.unusedSimpArgs false

theorem chars_inj {a b : ByteArray} (h : chars a = chars b) : a = b := by
  cases a with | mk a => cases b with | mk b =>
    cases a with | mk a => cases b with | mk b =>
      simp [chars] at h
      rw [h]
theorem chars_extract (s : ByteArray) (i j : Nat) : chars (s.extract i j) = ((chars s).take j).drop i := by
  simp [chars, List.drop_take]
theorem chars_mk (l : List UInt8) : chars ⟨l.toArray⟩ = l := by simp [chars]
theorem mk_chars (s : ByteArray) : (⟨(chars s).toArray⟩ : ByteArray) = s := chars_inj (chars_mk _)
theorem chars_append (a b : ByteArray) : chars (a ++ b) = chars a ++ chars b := by simp [chars]
theorem sliceS {s : ByteArray} {z i j : Nat} (h1 : i ≤ j) (h2 : j ≤ s.size) : sliceD true z (T s) (I (i : Int)) (I (j : Int)) = some (T (s.extract i j)) := by
  simp only [sliceD, Int.toNat_natCast]
  rw [if_pos (by omega)]
theorem sliceHiS {s : ByteArray} {z i : Nat} (h : i ≤ s.size) : sliceHi true z (T s) (I (i : Int)) = some (T (s.extract i s.size)) := by
  simp only [sliceHi, Int.toNat_natCast]
  rw [if_pos (by omega)]

/-! ### the pieces -/
def consH (x : UInt8) : List (List UInt8) → List (List UInt8)
  | [] => [[x]]
  | h :: t => (x :: h) :: t
/-- A text cut at each c. -/
def splitL (c : UInt8) : List UInt8 → List (List UInt8)
  | [] => [[]]
  | x :: l => if x = c then [] :: splitL c l else consH x (splitL c l)
theorem splitL_ne (c : UInt8) (l : List UInt8) : splitL c l ≠ [] := by
  cases l with
  | nil => simp [splitL]
  | cons x l =>
    simp only [splitL]
    split
    · simp
    · cases splitL c l <;> simp [consH]
theorem splitL_miss {c : UInt8} : ∀ {l : List UInt8}, c ∉ l → splitL c l = [l]
  | [], _ => rfl
  | x :: l, h => by
    simp only [List.mem_cons, not_or] at h
    simp only [splitL]
    rw [if_neg (Ne.symm h.1), splitL_miss h.2]
    rfl
theorem splitL_hit {c : UInt8} {b : List UInt8} : ∀ {a : List UInt8}, c ∉ a → splitL c (a ++ c :: b) = a :: splitL c b
  | [], _ => by simp [splitL]
  | x :: a, h => by
    simp only [List.mem_cons, not_or] at h
    rw [List.cons_append]
    simp only [splitL]
    rw [if_neg (Ne.symm h.1), splitL_hit h.2]
    rfl
theorem splitL_snoc (c x : UInt8) : ∀ (l : List UInt8) (o : List (List UInt8)) (p : List UInt8), splitL c l = o ++ [p] → splitL c (l ++ [x]) = if x = c then (o ++ [p]) ++ [[]] else o ++ [p ++ [x]]
  | [], o, p, h => by
    have h : [[]] = o ++ [p] := h
    have : o = [] ∧ p = [] := by
      cases o with
      | nil => simpa using h.symm
      | cons y o => cases o <;> simp at h
    obtain ⟨rfl, rfl⟩ := this
    simp only [List.nil_append, splitL]
    split <;> rfl
  | y :: l, o, p, h => by
    simp only [splitL] at h
    rw [List.cons_append]
    simp only [splitL]
    by_cases hy : y = c
    · rw [if_pos hy] at h ⊢
      cases o with
      | nil => exact absurd (List.cons.inj h).2 (splitL_ne c l)
      | cons z o =>
        rw [List.cons_append, List.cons.injEq] at h
        obtain ⟨rfl, h⟩ := h
        rw [splitL_snoc c x l o p h]
        split <;> rfl
    · rw [if_neg hy] at h ⊢
      generalize hs : splitL c l = s at h
      cases s with
      | nil => exact absurd hs (splitL_ne c l)
      | cons z s =>
        simp only [consH] at h
        cases o with
        | nil =>
          have : s = [] ∧ p = y :: z := by
            rw [List.nil_append, List.cons.injEq] at h
            exact ⟨h.2, h.1.symm⟩
          obtain ⟨rfl, rfl⟩ := this
          rw [splitL_snoc c x l [] z hs]
          split <;> simp [consH]
        | cons w o =>
          rw [List.cons_append, List.cons.injEq] at h
          obtain ⟨rfl, h⟩ := h
          rw [splitL_snoc c x l (z :: o) p (by rw [hs, h]; rfl)]
          split <;> simp [consH]

/-! ### the library's own words -/
theorem index_spec (c : UInt8) : ∀ (l : List UInt8), (Lib.index l [c] = -1 ∧ c ∉ l) ∨ ∃ a b, l = a ++ c :: b ∧ c ∉ a ∧ Lib.index l [c] = a.length
  | [] => .inl ⟨by simp [Lib.index], by simp⟩
  | x :: l => by
    rw [Lib.index_one]
    simp only [Lib.indexByte]
    by_cases hx : x = c
    · subst hx
      exact .inr ⟨[], l, rfl, by simp, by simp⟩
    · have ih := index_spec c l
      rw [Lib.index_one] at ih
      rw [if_neg (by simpa using hx)]
      rcases ih with ⟨h1, h2⟩ | ⟨a, b, rfl, h2, h3⟩
      · exact .inl ⟨by rw [h1]; rfl, by simp [h2, Ne.symm hx]⟩
      · refine .inr ⟨x :: a, b, rfl, by simp [h2, Ne.symm hx], ?_⟩
        rw [if_neg (by rw [h3]; simp), h3]
        simp
theorem splitK_eq (c : UInt8) : ∀ (n : Nat) (l : List UInt8), l.length ≤ n → Lib.splitK [c] 0 (Lib.count l [c]) l = splitL c l
  | n, l, hn => by
    rcases index_spec c l with ⟨h1, h2⟩ | ⟨a, b, rfl, h2, h3⟩
    · rw [Lib.count_miss h1, splitL_miss h2]
      rfl
    · rw [Lib.count_hit (by simp) h3, splitL_hit h2, Nat.add_comm 1]
      have hb : (a ++ c :: b).drop (a.length + [c].length) = b := by
        rw [← List.drop_drop]
        simp
      cases n with
      | zero => simp at hn
      | succ n =>
        rw [hb]
        unfold Lib.splitK
        rw [if_neg (by rw [h3]; simp), h3]
        have e : ((a.length : Int)).toNat = a.length := by omega
        rw [e, hb, splitK_eq c n b (by simp at hn; omega)]
        simp
/-- A text cut at each c. -/
def splitT (c : UInt8) (s : ByteArray) : List ByteArray := (splitL c (chars s)).map fun l => ⟨l.toArray⟩
theorem splitOf_eq (c : UInt8) (s : ByteArray) : splitOf s ⟨#[c]⟩ = splitT c s := by
  have h : (splitOf s ⟨#[c]⟩).map chars = splitL c (chars s) := by
    have := Lib.splitB_data ⟨#[c]⟩ 0 (Lib.countB s ⟨#[c]⟩) s
    rw [show (fun x : ByteArray => x.data.toList) = chars from rfl] at this
    rw [splitOf, this]
    exact splitK_eq c _ _ (Nat.le_refl _)
  have h2 : (splitOf s ⟨#[c]⟩).map (fun x => (⟨(chars x).toArray⟩ : ByteArray)) = splitT c s := by
    rw [splitT, ← h, List.map_map]
    rfl
  rw [← h2]
  have : (fun x : ByteArray => (⟨(chars x).toArray⟩ : ByteArray)) = id := funext mk_chars
  rw [this, List.map_id]
theorem e_Split {c : UInt8} {s : ByteArray} (h : s.size < 4294967281) : fSplit [T s, T ⟨#[c]⟩] = some (.ret [.arr 1 ((splitT c s).map T)] []) := by
  have h1 : 1 ≤ (⟨#[c]⟩ : ByteArray).size := Nat.le_refl 1
  simp only [fSplit, h, h1, and_self, if_true, splitOf_eq]
theorem cut_miss {c : UInt8} {l : List UInt8} (h : c ∉ l) : Lib.cut l [c] = (l, [], false) := by
  rcases index_spec c l with ⟨h1, _⟩ | ⟨a, b, rfl, _, _⟩
  · unfold Lib.cut
    rw [h1, if_neg (by decide)]
  · simp at h
theorem cut_hit {c : UInt8} {a b : List UInt8} (h : c ∉ a) : Lib.cut (a ++ c :: b) [c] = (a, b, true) := by
  rcases index_spec c (a ++ c :: b) with ⟨_, h2⟩ | ⟨a', b', e, h2, h3⟩
  · simp at h2
  · have hl : a.length = a'.length := by
      have key : ∀ (a a' b b' : List UInt8), c ∉ a → c ∉ a' → a ++ c :: b = a' ++ c :: b' → a.length = a'.length := by
        intro a
        induction a with
        | nil =>
          intro a' b b' _ h2 e
          cases a' with
          | nil => rfl
          | cons y a' =>
            simp at e
            simp [e.1] at h2
        | cons x a ih =>
          intro a' b b' h1 h2 e
          cases a' with
          | nil =>
            simp at e
            simp [e.1] at h1
          | cons y a' =>
            simp at e h1 h2 ⊢
            exact ih a' b b' h1.2 h2.2 e.2
      exact key a a' b b' h h2 e
    unfold Lib.cut
    rw [h3, if_pos (by omega)]
    have e2 : ((a'.length : Int)).toNat = a.length := by omega
    rw [e2]
    have hb : (a ++ c :: b).drop (a.length + [c].length) = b := by
      rw [← List.drop_drop]
      simp
    rw [hb]
    simp

theorem splitL_length (c : UInt8) : ∀ (l : List UInt8), (splitL c l).length ≤ l.length + 1
  | [] => by simp [splitL]
  | x :: l => by
    have ih := splitL_length c l
    simp only [splitL]
    split
    · simp; omega
    · generalize splitL c l = s at ih
      cases s <;> simp [consH] at ih ⊢ <;> omega
theorem one_text (s : ByteArray) : mkArr 1 [T s] = some (.arr 1 [T s]) := by simp [mkArr, lenOkD]
theorem chkA_texts (l : List ByteArray) : chkA (.arr 1 (l.map T)) = some (.arr 1 (l.map T)) := chkA_map fun _ => rfl

theorem e_spec_l1Split (s : ByteArray) (c : UInt8) (h : s.size ≤ 4294967296) : F_spec_l1Split [T s, U c.toNat] = some (.ret [.arr 1 ((splitT c s).map T)] []) := by
  rw [t_spec_l1Split]
  let mk : List UInt8 → ByteArray := fun l => ⟨l.toArray⟩
  refine loop_wf_bind (fun r => r = _) (fun (a : List (List UInt8) × Nat × Nat) => [T s, U c.toNat, .arr 1 ((a.1.map mk).map T), I (a.2.1 : Int), I (a.2.2 : Int)])
    (fun a => a.2.2 ≤ s.size ∧ a.2.1 ≤ a.2.2 ∧ a.1.length ≤ a.2.2 ∧ splitL c ((chars s).take a.2.2) = a.1 ++ [((chars s).take a.2.2).drop a.2.1])
    (fun a => s.size - a.2.2) (fun o => ∃ (outs : List (List UInt8)) (fr : Nat), o = .ext 0 [T s, .arr 1 ((outs.map mk).map T), I (fr : Int)] ∧ fr ≤ s.size ∧ outs.length ≤ s.size ∧ splitL c (chars s) = outs ++ [(chars s).drop fr])
    ?_ ([], 0, 0) ⟨Nat.zero_le _, Nat.le_refl _, Nat.le_refl _, by simp [splitL]⟩ rfl ?_
  · rintro ⟨outs, fr, i⟩ ⟨h1, h2, h3, h4⟩
    simp only at h1 h2 h3 h4
    by_cases hi : i < s.size
    · left
      have hl : i < (chars s).length := by rw [← size_list]; exact hi
      have hi' : (i : Int) < (s.size : Int) := by omega
      have hw : IntKind.i64.wrap ((i : Int) + 1) = ((i + 1 : Nat) : Int) := by rw [wrap_id (by omega) (by omega)]; omega
      have hch : charD (T s) (I (i : Int)) = some (U ((chars s)[i].toNat : Int)) := by
        rw [charD_nat, List.getElem?_eq_getElem hl]
        rfl
      have htk : (chars s).take (i + 1) = (chars s).take i ++ [(chars s)[i]] := List.take_succ_eq_append_getElem hl
      have hdr : ((chars s).take i ++ [(chars s)[i]]).drop fr = ((chars s).take i).drop fr ++ [(chars s)[i]] := by
        rw [List.drop_append_of_le_length (by rw [List.length_take]; omega)]
      by_cases hc : (chars s)[i] = c
      · refine ⟨(outs ++ [((chars s).take i).drop fr], i + 1, i + 1), ?_, ⟨by simp only; omega, Nat.le_refl _, by simp; omega, ?_⟩, by simp only; omega⟩
        · have hsl := sliceS (s := s) (z := 0) (i := fr) (j := i) h2 (by omega)
          have hmk : mk (((chars s).take i).drop fr) = s.extract fr i := chars_inj (by rw [chars_extract]; exact chars_mk _)
          have hap : (outs.length + 1) * 16 ≤ 140737488355328 ∧ outs.length + 1 ≤ 1152921504606846976 := by omega
          have e2 : (outs ++ [((chars s).take i).drop fr]).map mk = outs.map mk ++ [s.extract fr i] := by rw [List.map_append, List.map_cons, List.map_nil, hmk]
          have e1 : ((outs.map mk).map T).length + [T (s.extract fr i)].length = outs.length + 1 := by simp
          have hck : chkA (.arr 1 [T (s.extract fr i)]) = some (.arr 1 [T (s.extract fr i)]) := chkA_texts [s.extract fr i]
          simp only [sl_zero, sl_succ, lenD_str, Option.bind_some, bin_lss, hi', decide_true, ifD_B, if_true, hch, bin_eql, hc, hsl, one_text, hck, appD_eq, e1, hap, and_self, bin_add, hw, e2, List.map_append, List.map_cons, List.map_nil]
        · have := splitL_snoc c (chars s)[i] _ _ _ h4
          rw [if_pos hc, ← htk] at this
          simp only
          have hz : ((chars s).take (i + 1)).drop (i + 1) = [] := List.drop_eq_nil_of_le (by rw [List.length_take]; omega)
          rw [this, hz]
      · refine ⟨(outs, fr, i + 1), ?_, ⟨by simp only; omega, by simp only; omega, by simp only; omega, ?_⟩, by simp only; omega⟩
        · have hne : ¬ ((chars s)[i].toNat : Int) = (c.toNat : Int) := fun e => hc (UInt8.toNat_inj.1 (by omega))
          simp only [sl_zero, sl_succ, lenD_str, Option.bind_some, bin_lss, hi', decide_true, ifD_B, if_true, hch, bin_eql, hne, decide_false, Bool.false_eq_true, if_false, bin_add, hw]
        · have := splitL_snoc c (chars s)[i] _ _ _ h4
          rw [if_neg hc, ← htk] at this
          simp only
          rw [this, htk, hdr]
    · right
      have hi' : ¬ (i : Int) < (s.size : Int) := by omega
      have hie : i = s.size := by omega
      refine ⟨_, ?_, rfl, outs, fr, rfl, by omega, by omega, ?_⟩
      · simp only [sl_zero, sl_succ, lenD_str, Option.bind_some, bin_lss, hi', decide_false, ifD_B, Bool.false_eq_true, if_false]
      · rw [hie, size_list, List.take_length] at h4
        exact h4
  · rintro o ⟨outs, fr, rfl, h1, h2, h3⟩
    have hsl := sliceHiS (s := s) (z := 0) (i := fr) h1
    have hmk : mk ((chars s).drop fr) = s.extract fr s.size := chars_inj (by rw [chars_extract, size_list, List.take_length]; exact chars_mk _)
    have hap : (outs.length + 1) * 16 ≤ 140737488355328 ∧ outs.length + 1 ≤ 1152921504606846976 := by omega
    have e1 : ((outs.map mk).map T).length + [T (s.extract fr s.size)].length = outs.length + 1 := by simp
    have hck : chkA (.arr 1 [T (s.extract fr s.size)]) = some (.arr 1 [T (s.extract fr s.size)]) := chkA_texts [s.extract fr s.size]
    have e2 : splitT c s = outs.map mk ++ [s.extract fr s.size] := by rw [splitT, h3, List.map_append, List.map_cons, List.map_nil]; exact congrArg _ (congrArg (fun x => [x]) hmk)
    simp only [outK_ext, Nat.beq_refl, ifN_B, if_true, sl_zero, sl_succ, hsl, Option.bind_some, one_text, hck, appD_eq, e1, hap, and_self, e2, List.map_append, List.map_cons, List.map_nil]
end Go.Proofs.YtlphibidnkjpdaaDoor
/-
  Numbers read out of texts: the plain laws; 'l1Read', 'numbersIn'.
-/
namespace Go.Proofs.YtlphibidnkjpdaaDoor
open Go Go.V
set_option linter.unusedSimpArgs false

/-! ### digits -/
def dig (b : UInt8) : Bool := decide (48 ≤ b.toNat) && decide (b.toNat ≤ 57)
theorem dig_iff {b : UInt8} : dig b = true ↔ 48 ≤ b.toNat ∧ b.toNat ≤ 57 := by simp [dig]
theorem toNat_digit {u : Nat} (h : u < 10) : (UInt8.ofNat (48 + u)).toNat = 48 + u := by
  simp
  omega
theorem dig_ofNat {u : Nat} (h : u < 10) : dig (UInt8.ofNat (48 + u)) = true := by
  rw [dig_iff, toNat_digit h]
  omega
theorem decDigits_step {u : Nat} (h : ¬ u < 10) : Lib.decDigits u = Lib.decDigits (u / 10) ++ [UInt8.ofNat (48 + u % 10)] := by rw [Lib.decDigits, dif_neg h]
theorem decDigits_ind {P : Nat → Prop} (h0 : ∀ u, u < 10 → P u) (h1 : ∀ u, ¬ u < 10 → P (u / 10) → P u) : ∀ u, P u := by
  intro u
  induction u using Nat.strongRecOn with
  | _ u ih =>
    by_cases h : u < 10
    · exact h0 u h
    · exact h1 u h (ih (u / 10) (by omega))
theorem decDigits_dig : ∀ u, ∀ b ∈ Lib.decDigits u, dig b = true := by
  refine decDigits_ind (fun u h b hb => ?_) (fun u h ih b hb => ?_)
  · rw [Lib.decDigits_one h] at hb
    rw [List.mem_singleton.1 hb]
    exact dig_ofNat h
  · rw [decDigits_step h] at hb
    rcases List.mem_append.1 hb with hb | hb
    · exact ih b hb
    · rw [List.mem_singleton.1 hb]
      exact dig_ofNat (Nat.mod_lt u (show 10 > 0 by decide))
theorem decDigits_ne : ∀ u, Lib.decDigits u ≠ [] := by
  refine decDigits_ind (fun u h => ?_) (fun u h ih => ?_)
  · rw [Lib.decDigits_one h]; simp
  · rw [decDigits_step h]; simp
/-- The first digit is 0 just at 0. -/
theorem decDigits_head : ∀ u, 0 < u → ∀ b t, Lib.decDigits u = b :: t → b ≠ 48 := by
  refine decDigits_ind (fun u h h0 b t e => ?_) (fun u h ih h0 b t e => ?_)
  · rw [Lib.decDigits_one h] at e
    obtain ⟨rfl, _⟩ := List.cons.inj e
    intro e2
    have := congrArg UInt8.toNat e2
    rw [toNat_digit h] at this
    have h48 : (48 : UInt8).toNat = 48 := rfl
    omega
  · rw [decDigits_step h] at e
    cases hd : Lib.decDigits (u / 10) with
    | nil => exact absurd hd (decDigits_ne _)
    | cons b' t' =>
      rw [hd, List.cons_append] at e
      obtain ⟨rfl, _⟩ := List.cons.inj e
      exact ih (by omega) _ _ hd
/-- What digits spell. -/
def valF (a : Nat) (l : List UInt8) : Nat := l.foldl (fun a b => a * 10 + (b.toNat - 48)) a
theorem valF_dec : ∀ u, valF 0 (Lib.decDigits u) = u := by
  refine decDigits_ind (fun u h => ?_) (fun u h ih => ?_)
  · rw [Lib.decDigits_one h]
    simp only [valF, List.foldl_cons, List.foldl_nil, toNat_digit h]
    omega
  · rw [decDigits_step h]
    simp only [valF] at ih ⊢
    rw [List.foldl_append, ih]
    simp only [List.foldl_cons, List.foldl_nil, toNat_digit (Nat.mod_lt u (show 10 > 0 by decide))]
    omega

/-! ### strconv.Atoi -/
theorem parse_append : ∀ (l r : List UInt8) (a b : Nat), Lib.parseUint10 a l = .ok b → Lib.parseUint10 a (l ++ r) = Lib.parseUint10 b r
  | [], r, a, b, h => by
    simp only [Lib.parseUint10] at h
    injection h with h
    subst h
    rfl
  | c :: l, r, a, b, h => by
    simp only [Lib.parseUint10] at h
    rw [List.cons_append]
    simp only [Lib.parseUint10]
    split at h
    · rename_i h1
      rw [if_pos h1]
      split at h
      · cases h
      · rename_i h2
        rw [if_neg h2]
        split at h
        · cases h
        · rename_i h3
          rw [if_neg h3]
          exact parse_append l r _ b h
    · cases h
theorem parse_dec : ∀ u, u < 1844674407370955162 → Lib.parseUint10 0 (Lib.decDigits u) = .ok u := by
  refine decDigits_ind (fun u h hu => ?_) (fun u h ih hu => ?_)
  · rw [Lib.decDigits_one h]
    simp only [Lib.parseUint10, toNat_digit h]
    rw [if_pos (by omega), if_neg (by omega), if_neg (by omega)]
    congr 1
    omega
  · have h10 := toNat_digit (Nat.mod_lt u (show 10 > 0 by decide))
    rw [decDigits_step h, parse_append _ _ _ _ (ih (by omega))]
    simp only [Lib.parseUint10, h10]
    rw [if_pos (by omega), if_neg (by omega), if_neg (by omega)]
    congr 1
    omega
theorem atoi_dec {u : Nat} (h : u < 1844674407370955162) : Lib.atoiAll (Lib.decDigits u) = .ok (u : Int) := by
  have hp := parse_dec u h
  cases hd : Lib.decDigits u with
  | nil => exact absurd hd (decDigits_ne u)
  | cons c r =>
    have hc := dig_iff.1 (decDigits_dig u c (by rw [hd]; simp))
    rw [hd] at hp
    unfold Lib.atoiAll
    simp only
    rw [if_neg (by omega)]
    unfold Lib.parseMag
    rw [if_neg (by simp), hp]
    simp only
    have h45 : ¬ c.toNat = 45 := by omega
    rw [if_neg (by omega), if_neg (by simp [h45]), if_neg h45]

/-! ### the fields of a text -/
def sepB (b : UInt8) : Bool := isSep b.toNat
theorem sepB_dig (b : UInt8) : sepB b = !dig b := by
  simp only [sepB, isSep, dig]
  by_cases h1 : b.toNat < 48 <;> by_cases h2 : 57 < b.toNat <;> simp [h1, h2] <;> omega
def flds : Option (List UInt8) → List UInt8 → List (List UInt8)
  | none, [] => []
  | some c, [] => [c]
  | none, b :: l => if sepB b = true then flds none l else flds (some [b]) l
  | some c, b :: l => if sepB b = true then c :: flds none l else flds (some (c ++ [b])) l
theorem flds_sep : ∀ {a : List UInt8} (l : List UInt8), (∀ b ∈ a, dig b = false) → flds none (a ++ l) = flds none l
  | [], _, _ => rfl
  | x :: a, l, h => by
    rw [List.cons_append]
    simp only [flds]
    rw [if_pos (by rw [sepB_dig, h x (by simp)]; rfl)]
    exact flds_sep l fun b hb => h b (by simp [hb])
theorem flds_cur : ∀ {w : List UInt8} (c l : List UInt8), (∀ b ∈ w, dig b = true) → flds (some c) (w ++ l) = flds (some (c ++ w)) l
  | [], c, l, _ => by simp
  | x :: w, c, l, h => by
    rw [List.cons_append]
    simp only [flds]
    rw [if_neg (by rw [sepB_dig, h x (by simp)]; simp), flds_cur (c ++ [x]) l fun b hb => h b (by simp [hb])]
    simp
theorem flds_word {w : List UInt8} (hn : w ≠ []) (h : ∀ b ∈ w, dig b = true) {x : UInt8} (hx : dig x = false) (l : List UInt8) : flds none (w ++ x :: l) = w :: flds none l := by
  cases w with
  | nil => exact absurd rfl hn
  | cons y w =>
    rw [List.cons_append]
    simp only [flds]
    rw [if_neg (by rw [sepB_dig, h y (by simp)]; simp), flds_cur [y] _ fun b hb => h b (by simp [hb])]
    simp only [flds]
    rw [if_pos (by rw [sepB_dig, hx]; rfl)]
    rfl
theorem flds_last {w : List UInt8} (hn : w ≠ []) (h : ∀ b ∈ w, dig b = true) : flds none w = [w] := by
  cases w with
  | nil => exact absurd rfl hn
  | cons y w =>
    simp only [flds]
    rw [if_neg (by rw [sepB_dig, h y (by simp)]; simp)]
    have := flds_cur (w := w) [y] [] fun b hb => h b (by simp [hb])
    rw [List.append_nil] at this
    rw [this]
    rfl

theorem fields_spans (s : ByteArray) (hs : ∀ b ∈ chars s, b.toNat < 128) : ∀ (f pos : Nat) (st : Option Nat) (acc : List (Nat × Nat)), s.size ≤ pos + f → pos ≤ s.size → (∀ a, st = some a → a < pos) →
    (Lib.closeSpans s (Lib.spansFromP isSep s f pos st acc)).map (fun x => chars (s.extract x.1 x.2)) = acc.map (fun x => chars (s.extract x.1 x.2)) ++ flds (st.map fun a => ((chars s).take pos).drop a) ((chars s).drop pos) := by
  intro f
  induction f with
  | zero =>
    intro pos st acc h1 h2 h3
    have hp : pos = s.size := by omega
    have hd : (chars s).drop pos = [] := List.drop_eq_nil_of_le (by rw [← size_list]; omega)
    rw [hd]
    cases st with
    | none => simp [Lib.spansFromP, Lib.closeSpans, flds]
    | some a => simp only [Lib.spansFromP, Lib.closeSpans, flds, Option.map_some, List.map_append, List.map_cons, List.map_nil, chars_extract, hp]
  | succ f ih =>
    intro pos st acc h1 h2 h3
    by_cases hp : pos < s.size
    case neg =>
      have hpe : pos = s.size := by omega
      have hd : (chars s).drop pos = [] := List.drop_eq_nil_of_le (by rw [← size_list]; omega)
      rw [hd, Lib.spansFromP_end _ _ _ _ _ _ hp]
      cases st with
      | none => simp [Lib.closeSpans, flds]
      | some a => simp only [Lib.closeSpans, flds, Option.map_some, List.map_append, List.map_cons, List.map_nil, chars_extract, hpe]
    have hl : pos < (chars s).length := by rw [← size_list]; exact hp
    have hb : (chars s)[pos].toNat < 128 := hs _ (List.getElem_mem hl)
    have hdec : Utf8.decode s pos = ((chars s)[pos].toNat, 1) := decode_ascii s pos hp hb
    have hcons : (chars s).drop pos = (chars s)[pos] :: (chars s).drop (pos + 1) := List.drop_eq_getElem_cons hl
    have htk : (chars s).take (pos + 1) = (chars s).take pos ++ [(chars s)[pos]] := List.take_succ_eq_append_getElem hl
    rw [hcons]
    unfold Lib.spansFromP
    rw [if_pos hp, hdec]
    simp only
    by_cases hsep : isSep (chars s)[pos].toNat = true
    · rw [if_pos hsep]
      cases st with
      | none =>
        simp only [Option.map_none, flds]
        rw [if_pos (show sepB _ = true from hsep)]
        exact ih (pos + 1) none acc (by omega) (by omega) (by simp)
      | some a =>
        simp only [Option.map_some, flds]
        rw [if_pos (show sepB _ = true from hsep), ih (pos + 1) none (acc ++ [(a, pos)]) (by omega) (by omega) (by simp)]
        simp only [List.map_append, List.map_cons, List.map_nil, List.append_assoc, chars_extract, Option.map_none, List.cons_append, List.nil_append]
    · rw [if_neg hsep]
      cases st with
      | none =>
        simp only [Option.map_none, flds]
        rw [if_neg (show ¬ sepB _ = true from hsep), ih (pos + 1) (some pos) acc (by omega) (by omega) (by intro a ha; cases ha; omega)]
        simp only [Option.map_some]
        rw [htk, List.drop_append_of_le_length (by rw [List.length_take]; omega), List.drop_eq_nil_of_le (by rw [List.length_take]; omega)]
        rfl
      | some a =>
        have ha := h3 a rfl
        simp only [Option.map_some, flds]
        rw [if_neg (show ¬ sepB _ = true from hsep), ih (pos + 1) (some a) acc (by omega) (by omega) (by intro a' ha'; cases ha'; omega)]
        simp only [Option.map_some]
        rw [htk, List.drop_append_of_le_length (by rw [List.length_take]; omega)]
theorem fields_ascii (s : ByteArray) (hs : ∀ b ∈ chars s, b.toNat < 128) : (Lib.goFieldsP isSep s).map chars = flds none (chars s) := by
  have := fields_spans s hs s.size 0 none [] (by omega) (Nat.zero_le _) (by simp)
  simpa [Lib.goFieldsP, Lib.spansOfP, List.map_map, Function.comp_def] using this

/-! ### numbersIn -/
/-- The numbers that words spell; none, if one is no number. -/
def numsG : List ByteArray → List Int → List Int
  | [], acc => acc
  | w :: l, acc => match Lib.atoiAll (chars w) with
    | .ok v => numsG l (acc ++ [v])
    | _ => []
def numsT (s : ByteArray) : List Int := numsG (Lib.goFieldsP isSep s) []
abbrev ints (l : List Int) : D := .arr 1 (l.map I)
theorem spans_length (p : Nat → Bool) (s : ByteArray) : ∀ (f pos : Nat) (st : Option Nat) (acc : List (Nat × Nat)), (Lib.spansFromP p s f pos st acc).1.length ≤ acc.length + f
  | 0, pos, st, acc => by simp [Lib.spansFromP]
  | f + 1, pos, st, acc => by
    unfold Lib.spansFromP
    by_cases hp : pos < s.size
    case neg =>
      rw [if_neg hp]
      exact Nat.le_add_right _ _
    rw [if_pos hp]
    by_cases hq : p (Utf8.decode s pos).1 = true
    · rw [if_pos hq]
      cases st with
      | none => exact Nat.le_trans (spans_length p s f _ none acc) (by omega)
      | some a =>
        have h := spans_length p s f (pos + (Utf8.decode s pos).2) none (acc ++ [(a, pos)])
        rw [List.length_append, List.length_singleton] at h
        exact Nat.le_trans h (by omega)
    · rw [if_neg hq]
      cases st with
      | none => exact Nat.le_trans (spans_length p s f _ _ acc) (by omega)
      | some a => exact Nat.le_trans (spans_length p s f _ _ acc) (by omega)
theorem fields_length (p : Nat → Bool) (s : ByteArray) : (Lib.goFieldsP p s).length ≤ s.size + 1 := by
  unfold Lib.goFieldsP Lib.spansOfP
  rw [List.length_map]
  have := spans_length p s s.size 0 none []
  unfold Lib.closeSpans
  split
  · simp only [List.length_append, List.length_cons, List.length_nil] at this ⊢; omega
  · simp only [List.length_nil] at this; omega
theorem fields_size (p : Nat → Bool) (s : ByteArray) : ∀ w ∈ Lib.goFieldsP p s, w.size ≤ s.size := by
  intro w hw
  unfold Lib.goFieldsP at hw
  obtain ⟨x, _, rfl⟩ := List.mem_map.1 hw
  rw [size_list, chars_extract, List.length_drop, List.length_take, ← size_list]
  omega
theorem e_FieldsFunc (s : ByteArray) (k : Nat) (p : Nat → Bool) (h : s.size ≤ 4294967296) : fFieldsFunc k p [T s, .clo k []] = some (.ret [.arr 1 ((Lib.goFieldsP p s).map T)] []) := by
  simp only [fFieldsFunc, h, and_self, if_true]
theorem one_int (a : Int) : mkArr 1 [I a] = some (ints [a]) := by simp [mkArr, lenOkD]
theorem chkA_ints (l : List Int) : chkA (ints l) = some (ints l) := chkA_map fun _ => rfl
theorem e_Atoi (w : ByteArray) (h : w.size ≤ 4294967296) : fAtoi [T w] = some (match Lib.atoiAll (chars w) with
    | .ok v => Out.ret [I v, .v .nilIface] []
    | .range => Out.ret [I (Lib.atoiSat (chars w)), .ifc] []
    | _ => Out.ret [I 0, .ifc] []) := by
  have h2 : w.size ≤ 281474976710656 := by omega
  simp only [fAtoi, h2, if_true]
  rw [show w.data.toList = chars w from rfl]
  cases Lib.atoiAll (chars w) <;> rfl
theorem e_impl_numbersIn (s : ByteArray) (h : s.size ≤ 1048576) : F_impl_numbersIn [T s] = some (.ret [ints (numsT s)] []) := by
  rw [t_impl_numbersIn]
  have hl := fields_length isSep s
  have hz := fields_size isSep s
  rw [e_FieldsFunc s _ isSep (by omega)]
  simp only [mkArr_nil, Option.bind_some, callK_ret, sl_zero, lenD_arr, List.length_map]
  generalize hw : Lib.goFieldsP isSep s = ws at hl hz
  have hnum : numsT s = numsG ws [] := by rw [numsT, hw]
  rw [hnum]
  refine loop_wf_bind (fun r => r = _) (fun (a : List Int × Nat) => [ints a.1, .arr 1 (ws.map T), I ws.length, I (a.2 : Int)]) (fun a => a.2 ≤ ws.length ∧ a.1.length ≤ a.2 ∧ numsG (ws.drop a.2) a.1 = numsG ws [])
    (fun a => ws.length - a.2) (fun o => o = .ext 0 [ints (numsG ws [])] ∨ o = .ret [ints (numsG ws [])] []) ?_ ([], 0) ⟨Nat.zero_le _, Nat.le_refl _, rfl⟩ rfl ?_
  · rintro ⟨acc, i⟩ ⟨h1, h2, h3⟩
    simp only at h1 h2 h3
    by_cases hi : i < ws.length
    · have hi' : (i : Int) < (ws.length : Int) := by omega
      have hw : IntKind.i64.wrap ((i : Int) + 1) = ((i + 1 : Nat) : Int) := by rw [wrap_id (by omega) (by omega)]; omega
      have hat := e_Atoi ws[i] (by have := hz ws[i] (List.getElem_mem hi); omega)
      have hel : elemD 1 (.arr 1 (ws.map T)) (I (i : Int)) = some [T ws[i]] := by simp [hi]
      rw [List.drop_eq_getElem_cons hi] at h3
      simp only [numsG] at h3
      cases ha : Lib.atoiAll (chars ws[i]) with
      | ok v =>
        rw [ha] at h3 hat
        left
        refine ⟨(acc ++ [v], i + 1), ?_, ⟨by simp only; omega, by simp; omega, h3⟩, by simp only; omega⟩
        have e1 : (acc.map I).length + ([v].map I).length = acc.length + 1 := by simp
        have hap : (acc.length + 1) * 8 ≤ 140737488355328 ∧ acc.length + 1 ≤ 1152921504606846976 := by omega
        simp only [sl_zero, sl_succ, Option.bind_some, bin_lss, hi', decide_true, ifD_B, if_true, hel, Option.map_some, ldD_ptr, takeD_f, chkV_v, hat, callK_ret, show tupAt (.tup [I v, .v .nilIface]) 0 = some (I v) from rfl,
          show tupAt (.tup [I v, .v .nilIface]) 1 = some (.v .nilIface) from rfl, show binI true BinOp.neq (.v .nilIface) (.v .nilIface) = some (B false) from rfl, Bool.false_eq_true, if_false, one_int, chkA_ints, appD_eq, e1, hap, and_self, bin_add, hw]
        rw [← List.map_append]
      | range =>
        rw [ha] at h3 hat
        right
        refine ⟨.ret [ints []] [], ?_, rfl, .inr (by rw [← h3])⟩
        simp only [sl_zero, sl_succ, Option.bind_some, bin_lss, hi', decide_true, ifD_B, if_true, hel, Option.map_some, ldD_ptr, takeD_f, chkV_v, hat, callK_ret, show ∀ n : Int, tupAt (.tup [I n, .ifc]) 0 = some (I n) from fun _ => rfl,
          show ∀ n : Int, tupAt (.tup [I n, .ifc]) 1 = some .ifc from fun _ => rfl, show binI true BinOp.neq .ifc (.v .nilIface) = some (B true) from rfl, mkArr_nil]
        rfl
      | _ =>
        rw [ha] at h3 hat
        right
        refine ⟨.ret [ints []] [], ?_, rfl, .inr (by rw [← h3])⟩
        simp only [sl_zero, sl_succ, Option.bind_some, bin_lss, hi', decide_true, ifD_B, if_true, hel, Option.map_some, ldD_ptr, takeD_f, chkV_v, hat, callK_ret, show tupAt (.tup [I 0, .ifc]) 0 = some (I 0) from rfl,
          show tupAt (.tup [I 0, .ifc]) 1 = some .ifc from rfl, show binI true BinOp.neq .ifc (.v .nilIface) = some (B true) from rfl, mkArr_nil]
        rfl
    · right
      have hi' : ¬ (i : Int) < (ws.length : Int) := by omega
      refine ⟨.ext 0 [ints acc], ?_, rfl, .inl ?_⟩
      · simp only [sl_zero, sl_succ, Option.bind_some, bin_lss, hi', decide_false, ifD_B, Bool.false_eq_true, if_false]
      · rw [List.drop_eq_nil_of_le (by omega)] at h3
        rw [← h3]
        rfl
  · rintro o (rfl | rfl)
    · simp only [outK_ext, Nat.beq_refl, ifN_B, if_true, sl_zero]
    · rfl
end Go.Proofs.YtlphibidnkjpdaaDoor
/-
  Orders read out of texts.
-/
namespace Go.Proofs.YtlphibidnkjpdaaDoor
open Go Go.V
set_option linter.unusedSimpArgs false

/-! ### l1Read -/
def readL (l : List UInt8) : Int :=
  if (1 ≤ l.length ∧ l.length ≤ 6) ∧ ¬ (l.head? = some 48 ∧ 1 < l.length) ∧ l.all dig = true then (valF 0 l : Int) else -1
def readT (s : ByteArray) : Int := readL (chars s)
theorem valF_snoc (l : List UInt8) (x : UInt8) (a : Nat) : valF a (l ++ [x]) = valF a l * 10 + (x.toNat - 48) := by simp [valF, List.foldl_append]
theorem valF_lt : ∀ (n : Nat) (l : List UInt8), l.length = n → (∀ b ∈ l, dig b = true) → valF 0 l < 10 ^ n := by
  intro n
  induction n with
  | zero =>
    intro l hl _
    rw [List.eq_nil_of_length_eq_zero hl]
    decide
  | succ n ih =>
    intro l hl hd
    have hne : l ≠ [] := fun e => by rw [e] at hl; simp at hl
    have hsp := List.dropLast_concat_getLast hne
    have h1 := ih l.dropLast (by rw [List.length_dropLast]; omega) fun b hb => hd b ((List.dropLast_sublist l).subset hb)
    have h2 := dig_iff.1 (hd _ (List.getLast_mem hne))
    rw [← hsp, valF_snoc, Nat.pow_succ]
    omega
theorem e_spec_l1Read (s : ByteArray) (h : s.size ≤ 4294967296) : F_spec_l1Read [T s] = some (.ret [I (readT s)] []) := by
  rw [t_spec_l1Read]
  have hsz : s.size = (chars s).length := rfl
  by_cases h1 : 1 ≤ (s.size : Int) ∧ (s.size : Int) ≤ 6
  case neg =>
    have hr : readT s = -1 := by
      unfold readT readL
      rw [if_neg (by rintro ⟨⟨g1, g2⟩, _⟩; exact h1 (by omega))]
    rw [hr]
    simp -implicitDefEqProofs [e_spec_l1In, h1]
  have hpos : 0 < (chars s).length := by omega
  have hch0 : charD (T s) (I 0) = some (U ((chars s)[0].toNat : Int)) := by
    have := charD_nat (s := s) (k := .i64) (i := 0)
    rw [List.getElem?_eq_getElem hpos] at this
    exact this
  have hhead : (chars s).head? = some (chars s)[0] := by rw [List.head?_eq_getElem?, List.getElem?_eq_getElem hpos]
  have h48 : (48 : UInt8).toNat = 48 := rfl
  have hc48 : ((chars s)[0].toNat : Int) = 48 ↔ (chars s)[0] = 48 := ⟨fun e => UInt8.toNat_inj.1 (by omega), fun e => by rw [e]; rfl⟩
  by_cases h2 : (chars s)[0] = 48 ∧ 1 < (chars s).length
  · have hr : readT s = -1 := by
      unfold readT readL
      rw [if_neg (by rintro ⟨_, g, _⟩; exact g ⟨by rw [hhead, h2.1], h2.2⟩)]
    have hl : (1 : Int) < (s.size : Int) := by omega
    have hc := hc48.2 h2.1
    rw [hr]
    simp -implicitDefEqProofs [e_spec_l1In, h1, hch0, hc, hl]
  have hgo : ∀ (K : D → Option Out), ((bin BinOp.eql false [] (U ((chars s)[0].toNat : Int)) (D.v (Value.int IntKind.u8 48))).bind fun z_3 => (gate (D.tup []) (B false) false (some z_3)).bind fun z_4 => (gate (D.tup []) z_4 true (some (T s))).bind fun z_5 =>
      (gate (D.tup []) z_4 true (lenD true z_5)).bind fun z_6 => (gate (D.tup []) z_4 true (bin BinOp.gtr false [] z_6 (D.v (Value.int IntKind.i64 1)))).bind fun z_7 => (gate (D.tup []) (B false) false (pickD z_4 z_7 (D.v (Value.bool false)))).bind K) = K (B false) := by
    intro K
    by_cases e : ((chars s)[0].toNat : Int) = 48
    · have : ¬ (1 : Int) < (s.size : Int) := fun hl => h2 ⟨hc48.1 e, by omega⟩
      simp -implicitDefEqProofs [e, this]
    · simp -implicitDefEqProofs [e]
  simp only [lenD_str, Option.bind_some, e_spec_l1In, h1, and_self, decide_true, callK_ret, sl_zero, un_not, Bool.not_true, gate_f, Bool.false_eq_true, if_false, hch0]
  have hgo' := hgo
  simp only [gate_f, Bool.false_eq_true, if_false, Option.bind_some] at hgo'
  rw [hgo']
  simp only [pickD_B, Bool.false_eq_true, if_false, Option.bind_some, ifD_B]
  refine loop_wf_bind (fun r => r = _) (fun (a : Nat × Nat) => [T s, I (a.1 : Int), I (a.2 : Int)]) (fun a => a.2 ≤ s.size ∧ a.1 = valF 0 ((chars s).take a.2) ∧ ∀ b ∈ (chars s).take a.2, dig b = true) (fun a => s.size - a.2)
    (fun o => o = if (chars s).all dig = true then .ext 0 [I (valF 0 (chars s) : Int)] else .ret [I (-1)] []) ?_ (0, 0) ⟨Nat.zero_le _, rfl, by simp⟩ rfl ?_
  · rintro ⟨n, i⟩ ⟨g1, g2, g3⟩
    simp only at g1 g2 g3
    by_cases hi : i < s.size
    · have hl : i < (chars s).length := by rw [← hsz]; exact hi
      have hi' : (i : Int) < (s.size : Int) := by omega
      have hch : charD (T s) (I (i : Int)) = some (U ((chars s)[i].toNat : Int)) := by
        rw [charD_nat, List.getElem?_eq_getElem hl]
        rfl
      have htk : (chars s).take (i + 1) = (chars s).take i ++ [(chars s)[i]] := List.take_succ_eq_append_getElem hl
      by_cases hd : dig (chars s)[i] = true
      · left
        have hd' := dig_iff.1 hd
        have hn : n < 10 ^ i := by
          rw [g2]
          exact valF_lt i _ (by rw [List.length_take]; omega) g3
        have h10 : 10 ^ i ≤ 10 ^ 6 := Nat.pow_le_pow_right (by decide) (by omega)
        have hw : IntKind.i64.wrap ((i : Int) + 1) = ((i + 1 : Nat) : Int) := by rw [wrap_id (by omega) (by omega)]; omega
        have hw1 : IntKind.i64.wrap (10 * (n : Int)) = 10 * (n : Int) := wrap_id (by omega) (by omega)
        have hw2 : IntKind.u8.wrap (((chars s)[i].toNat : Int) - 48) = ((chars s)[i].toNat : Int) - 48 := wrap8 _ (by omega) (by omega)
        have hw3 : IntKind.i64.wrap (((chars s)[i].toNat : Int) - 48) = ((chars s)[i].toNat : Int) - 48 := wrap_id (by omega) (by omega)
        have hw4 : IntKind.i64.wrap (10 * (n : Int) + (((chars s)[i].toNat : Int) - 48)) = ((n * 10 + ((chars s)[i].toNat - 48) : Nat) : Int) := by rw [wrap_id (by omega) (by omega)]; omega
        have c1 : ¬ ((chars s)[i].toNat : Int) < 48 := by omega
        have c2 : ¬ (57 : Int) < ((chars s)[i].toNat : Int) := by omega
        refine ⟨(n * 10 + ((chars s)[i].toNat - 48), i + 1), ?_, ⟨by simp only; omega, ?_, ?_⟩, by simp only; omega⟩
        · simp only [sl_zero, sl_succ, lenD_str, Option.bind_some, bin_lss, hi', decide_true, ifD_B, if_true, hch, c1, decide_false, gate_f, Bool.false_eq_true, if_false, bin_gtr, c2, pickD_B, bin_mul, hw1, bin_sub, hw2, convD, hw3, bin_add, hw4, hw]
        · simp only
          rw [htk, valF_snoc, g2]
        · simp only
          rw [htk]
          intro b hb
          rcases List.mem_append.1 hb with hb | hb
          · exact g3 b hb
          · rw [List.mem_singleton.1 hb]; exact hd
      · right
        refine ⟨.ret [I (-1)] [], ?_, rfl, ?_⟩
        · by_cases c1 : ((chars s)[i].toNat : Int) < 48
          · simp -implicitDefEqProofs [hi', hch, c1]
          · have c2 : (57 : Int) < ((chars s)[i].toNat : Int) := by
              have : ¬ (48 ≤ (chars s)[i].toNat ∧ (chars s)[i].toNat ≤ 57) := fun e => hd (dig_iff.2 e)
              omega
            simp -implicitDefEqProofs [hi', hch, c1, c2]
        · rw [if_neg]
          intro hall
          exact hd (List.all_eq_true.1 hall _ (List.getElem_mem hl))
    · right
      have hi' : ¬ (i : Int) < (s.size : Int) := by omega
      have hie : (chars s).take i = chars s := List.take_of_length_le (by omega)
      rw [hie] at g2 g3
      refine ⟨.ext 0 [I (n : Int)], ?_, rfl, ?_⟩
      · simp -implicitDefEqProofs [hi']
      · rw [if_pos (List.all_eq_true.2 g3), g2]
  · rintro o rfl
    by_cases ha : (chars s).all dig = true
    · have hr : readT s = (valF 0 (chars s) : Int) := by
        unfold readT readL
        rw [if_pos ⟨⟨by omega, by omega⟩, fun g => h2 ⟨by have := g.1; rw [hhead] at this; exact Option.some.inj this, g.2⟩, ha⟩]
      rw [if_pos ha, hr]
      rfl
    · have hr : readT s = -1 := by
        unfold readT readL
        rw [if_neg (fun g => ha g.2.2)]
      rw [if_neg ha, hr]
      rfl
theorem decDigits_len {u : Nat} (h : u < 1000000) : (Lib.decDigits u).length ≤ 6 := numT_size 5 u (by omega)
theorem readL_dec {u : Nat} (h : u < 1000000) : readL (Lib.decDigits u) = (u : Int) := by
  have h1 := decDigits_ne u
  have h2 := decDigits_len h
  have h3 : 1 ≤ (Lib.decDigits u).length := List.length_pos_iff.2 h1
  have hno : ¬ ((Lib.decDigits u).head? = some 48 ∧ 1 < (Lib.decDigits u).length) := by
    rintro ⟨g1, g2⟩
    by_cases hu : 0 < u
    · cases hd : Lib.decDigits u with
      | nil => exact h1 hd
      | cons b t =>
        rw [hd] at g1
        exact decDigits_head u hu b t hd (by simpa using g1)
    · have : u = 0 := by omega
      subst this
      rw [Lib.decDigits_one (by decide)] at g2
      simp at g2
  unfold readL
  rw [if_pos ⟨⟨h3, h2⟩, hno, List.all_eq_true.2 (decDigits_dig u)⟩, valF_dec]
theorem chars_intT (n : Int) (h : 0 ≤ n) : chars (intT n) = Lib.decDigits n.toNat := by
  obtain ⟨u, rfl⟩ := Int.eq_ofNat_of_zero_le h
  rw [intT_nat]
  exact chars_mk _
theorem readT_int {n : Int} (h0 : 0 ≤ n) (h1 : n < 1000000) : readT (intT n) = n := by
  unfold readT
  rw [chars_intT n h0, readL_dec (by omega)]
  omega
theorem atoi_int {n : Int} (h0 : 0 ≤ n) (h1 : n < 1000000) : Lib.atoiAll (chars (intT n)) = .ok n := by
  rw [chars_intT n h0, atoi_dec (by omega)]
  congr 1
  omega
theorem dig_int {n : Int} (h0 : 0 ≤ n) : chars (intT n) ≠ [] ∧ ∀ b ∈ chars (intT n), dig b = true := by
  rw [chars_intT n h0]
  exact ⟨decDigits_ne _, decDigits_dig _⟩
theorem dig_lt {b : UInt8} (h : dig b = true) : b.toNat < 128 := by
  have := dig_iff.1 h
  omega
/-- The numbers of a text whose fields are numerals. -/
theorem numsT_of {s : ByteArray} (hs : ∀ b ∈ chars s, b.toNat < 128) {ns : List Int} (hn : ∀ n ∈ ns, 0 ≤ n ∧ n < 1000000) (h : flds none (chars s) = ns.map fun n => chars (intT n)) : numsT s = ns := by
  unfold numsT
  have hf := fields_ascii s hs
  rw [h] at hf
  have key : ∀ (ws : List ByteArray) (ns : List Int) (acc : List Int), (∀ n ∈ ns, 0 ≤ n ∧ n < 1000000) → ws.map chars = ns.map (fun n => chars (intT n)) → numsG ws acc = acc ++ ns := by
    intro ws
    induction ws with
    | nil =>
      intro ns acc _ e
      cases ns with
      | nil => simp [numsG]
      | cons _ _ => simp at e
    | cons w ws ih =>
      intro ns acc hn e
      cases ns with
      | nil => simp at e
      | cons n ns =>
        rw [List.map_cons, List.map_cons, List.cons.injEq] at e
        have hr := hn n (by simp)
        simp only [numsG]
        rw [e.1, atoi_int hr.1 hr.2]
        simp only
        rw [ih ns (acc ++ [n]) (fun m hm => hn m (by simp [hm])) e.2]
        simp
  simpa using key _ ns [] hn hf

/-! ### orders -/
theorem not_dig {b : UInt8} {l : List UInt8} (h : ∀ x ∈ l, dig x = true) (hb : dig b = false) : b ∉ l := fun hm => by rw [h b hm] at hb; cases hb
theorem splitT_size (c : UInt8) (s : ByteArray) : ∀ w ∈ splitT c s, w.size ≤ s.size := by
  intro w hw
  unfold splitT at hw
  obtain ⟨l, hl, rfl⟩ := List.mem_map.1 hw
  have key : ∀ (m : List UInt8), ∀ l ∈ splitL c m, l.length ≤ m.length := by
    intro m
    induction m with
    | nil => intro l hl; simp [splitL] at hl; simp [hl]
    | cons x m ih =>
      intro l hl
      simp only [splitL] at hl
      split at hl
      · rcases List.mem_cons.1 hl with rfl | hl
        · simp
        · have := ih l hl
          simp; omega
      · generalize hs : splitL c m = t at hl ih
        cases t with
        | nil => exact absurd hs (splitL_ne c m)
        | cons y t =>
          simp only [consH] at hl
          rcases List.mem_cons.1 hl with rfl | hl
          · have := ih y (by simp)
            simp; omega
          · have := ih l (by simp [hl])
            simp; omega
  have := key _ l hl
  rw [size_list, chars_mk]
  exact this
theorem splitT_length (c : UInt8) (s : ByteArray) : (splitT c s).length = (splitL c (chars s)).length := by simp [splitT]
end Go.Proofs.YtlphibidnkjpdaaDoor
/-
  Numbers in a text with a byte between them: written, read back in two ways.
-/
namespace Go.Proofs.YtlphibidnkjpdaaDoor
open Go Go.V
set_option linter.unusedSimpArgs false

/-- Texts with a byte between them. -/
def joinL (c : UInt8) : List (List UInt8) → List UInt8
  | [] => []
  | [a] => a
  | a :: b :: l => a ++ c :: joinL c (b :: l)
theorem splitL_joinL {c : UInt8} : ∀ (ws : List (List UInt8)), ws ≠ [] → (∀ w ∈ ws, c ∉ w) → splitL c (joinL c ws) = ws
  | [], h, _ => absurd rfl h
  | [a], _, h => splitL_miss (h a (by simp))
  | a :: b :: l, _, h => by
    have hj : joinL c (a :: b :: l) = a ++ c :: joinL c (b :: l) := rfl
    rw [hj, splitL_hit (h a (by simp)), splitL_joinL (b :: l) (by simp) fun w hw => h w (by simp [hw])]
theorem joinL_splitL (c : UInt8) : ∀ (l : List UInt8), joinL c (splitL c l) = l
  | [] => rfl
  | x :: l => by
    have ih := joinL_splitL c l
    simp only [splitL]
    split
    · rename_i hx
      cases hs : splitL c l with
      | nil => exact absurd hs (splitL_ne c l)
      | cons y t =>
        rw [hs] at ih
        have : joinL c ([] :: y :: t) = [] ++ c :: joinL c (y :: t) := rfl
        rw [this, ih, hx]
        rfl
    · cases hs : splitL c l with
      | nil => exact absurd hs (splitL_ne c l)
      | cons y t =>
        rw [hs] at ih
        cases t with
        | nil =>
          have e : joinL c [y] = y := rfl
          rw [e] at ih
          show x :: y = x :: l
          rw [ih]
        | cons z t =>
          have e : joinL c (y :: z :: t) = y ++ c :: joinL c (z :: t) := rfl
          rw [e] at ih
          show (x :: y) ++ c :: joinL c (z :: t) = x :: l
          rw [← ih]
          rfl
theorem flds_joinL {c : UInt8} (hc : dig c = false) : ∀ (ws : List (List UInt8)), (∀ w ∈ ws, w ≠ [] ∧ ∀ b ∈ w, dig b = true) → flds none (joinL c ws) = ws
  | [], _ => rfl
  | [a], h => flds_last (h a (by simp)).1 (h a (by simp)).2
  | a :: b :: l, h => by
    have hj : joinL c (a :: b :: l) = a ++ c :: joinL c (b :: l) := rfl
    rw [hj, flds_word (h a (by simp)).1 (h a (by simp)).2 hc, flds_joinL hc (b :: l) fun w hw => h w (by simp [hw])]
theorem mem_joinL {c b : UInt8} : ∀ {ws : List (List UInt8)}, b ∈ joinL c ws → b = c ∨ ∃ w ∈ ws, b ∈ w
  | [], h => by cases h
  | [a], h => .inr ⟨a, by simp, h⟩
  | a :: a' :: l, h => by
    have hj : joinL c (a :: a' :: l) = a ++ c :: joinL c (a' :: l) := rfl
    rw [hj, List.mem_append, List.mem_cons] at h
    rcases h with h | h | h
    · exact .inr ⟨a, by simp, h⟩
    · exact .inl h
    · rcases mem_joinL h with h | ⟨w, hw, hb⟩
      · exact .inl h
      · exact .inr ⟨w, by simp only [List.mem_cons] at hw ⊢; exact .inr hw, hb⟩

/-! ### numerals are read back -/
theorem decDigits_val : ∀ (n : Nat) (l : List UInt8), l.length = n + 1 → (∀ b ∈ l, dig b = true) → (l.head? = some 48 → n = 0) → Lib.decDigits (valF 0 l) = l := by
  intro n
  induction n with
  | zero =>
    intro l hl hd _
    obtain ⟨x, rfl⟩ := List.length_eq_one_iff.1 hl
    have hx := dig_iff.1 (hd x (by simp))
    have hv : valF 0 [x] = x.toNat - 48 := by simp [valF]
    rw [hv, Lib.decDigits_one (by omega)]
    congr 1
    apply UInt8.toNat_inj.1
    rw [toNat_digit (by omega)]
    omega
  | succ n ih =>
    intro l hl hd hz
    have hne : l ≠ [] := fun e => by rw [e] at hl; simp at hl
    have hsp := List.dropLast_concat_getLast hne
    have hlen : l.dropLast.length = n + 1 := by rw [List.length_dropLast]; omega
    have hne2 : l.dropLast ≠ [] := fun e => by rw [e] at hlen; simp at hlen
    have hx := dig_iff.1 (hd _ (List.getLast_mem hne))
    have hhead : l.head? = l.dropLast.head? := by
      conv => lhs; rw [← hsp]
      cases h : l.dropLast with
      | nil => exact absurd h hne2
      | cons a t => rfl
    have h48 : l.dropLast.head? ≠ some 48 := fun e => by have := hz (hhead.trans e); omega
    have hi := ih l.dropLast hlen (fun b hb => hd b ((List.dropLast_sublist l).subset hb)) fun e => absurd e h48
    have hpos : 1 ≤ valF 0 l.dropLast := by
      rcases Nat.lt_or_ge 0 (valF 0 l.dropLast) with g | g
      · exact g
      · have h0 : valF 0 l.dropLast = 0 := by omega
        rw [h0, Lib.decDigits_one (by decide)] at hi
        rw [← hi] at h48
        exact absurd rfl h48
    have hv : valF 0 l = valF 0 l.dropLast * 10 + ((l.getLast hne).toNat - 48) := by
      conv => lhs; rw [← hsp]
      exact valF_snoc _ _ _
    rw [hv, decDigits_step (by omega)]
    have h1 : (valF 0 l.dropLast * 10 + ((l.getLast hne).toNat - 48)) / 10 = valF 0 l.dropLast := by omega
    have h2 : (valF 0 l.dropLast * 10 + ((l.getLast hne).toNat - 48)) % 10 = (l.getLast hne).toNat - 48 := by omega
    rw [h1, h2, hi]
    conv => rhs; rw [← hsp]
    congr 1
    congr 1
    apply UInt8.toNat_inj.1
    rw [toNat_digit (by omega)]
    omega
theorem readT_canon {w : ByteArray} {n : Int} (h : readT w = n) (h0 : 0 ≤ n) : w = intT n := by
  unfold readT readL at h
  split at h
  · rename_i hc
    obtain ⟨⟨g1, g2⟩, g3, g4⟩ := hc
    subst h
    apply chars_inj
    rw [chars_intT _ h0]
    have : ((valF 0 (chars w) : Int)).toNat = valF 0 (chars w) := by omega
    rw [this]
    refine (decDigits_val ((chars w).length - 1) (chars w) (by omega) (List.all_eq_true.1 g4) fun e => ?_).symm
    rcases Nat.lt_or_ge 1 (chars w).length with g | g
    · exact absurd ⟨e, g⟩ g3
    · omega
  · omega

/-! ### numbers with a byte between them -/
def numsJ (c : UInt8) (ns : List Int) : ByteArray := ⟨(joinL c (ns.map fun n => chars (intT n))).toArray⟩
def fewI (ns : List Int) : Prop := ∀ n ∈ ns, 0 ≤ n ∧ n < 1000000000000000000
theorem chars_numsJ (c : UInt8) (ns : List Int) : chars (numsJ c ns) = joinL c (ns.map fun n => chars (intT n)) := chars_mk _
theorem atoi_int' {n : Int} (h0 : 0 ≤ n) (h1 : n < 1000000000000000000) : Lib.atoiAll (chars (intT n)) = .ok n := by
  rw [chars_intT n h0, atoi_dec (by omega)]
  congr 1
  omega
/-- The numbers of a text whose fields are numerals. -/
theorem numsT_of' {s : ByteArray} (hs : ∀ b ∈ chars s, b.toNat < 128) {ns : List Int} (hn : fewI ns) (h : flds none (chars s) = ns.map fun n => chars (intT n)) : numsT s = ns := by
  unfold numsT
  have hf := fields_ascii s hs
  rw [h] at hf
  have key : ∀ (ws : List ByteArray) (ns : List Int) (acc : List Int), fewI ns → ws.map chars = ns.map (fun n => chars (intT n)) → numsG ws acc = acc ++ ns := by
    intro ws
    induction ws with
    | nil =>
      intro ns acc _ e
      cases ns with
      | nil => simp [numsG]
      | cons _ _ => simp at e
    | cons w ws ih =>
      intro ns acc hn e
      cases ns with
      | nil => simp at e
      | cons n ns =>
        rw [List.map_cons, List.map_cons, List.cons.injEq] at e
        have hr := hn n (by simp)
        simp only [numsG]
        rw [e.1, atoi_int' hr.1 hr.2]
        simp only
        rw [ih ns (acc ++ [n]) (fun m hm => hn m (by simp [hm])) e.2]
        simp
  simpa using key _ ns [] hn hf
theorem numsT_J {c : UInt8} {ns : List Int} (hc : dig c = false) (hb : c.toNat < 128) (h : fewI ns) : numsT (numsJ c ns) = ns := by
  have hw : ∀ w ∈ ns.map (fun n => chars (intT n)), w ≠ [] ∧ ∀ b ∈ w, dig b = true := by
    intro w hw
    obtain ⟨n, hn, rfl⟩ := List.mem_map.1 hw
    exact dig_int (h n hn).1
  refine numsT_of' (fun b hb' => ?_) h ?_
  · rw [chars_numsJ] at hb'
    rcases mem_joinL hb' with rfl | ⟨w, hw', hb'⟩
    · exact hb
    · exact dig_lt ((hw w hw').2 b hb')
  · rw [chars_numsJ]
    exact flds_joinL hc _ hw
theorem splitT_J {c : UInt8} {ns : List Int} (hc : dig c = false) (hne : ns ≠ []) (h : fewI ns) : splitT c (numsJ c ns) = ns.map intT := by
  unfold splitT
  rw [chars_numsJ, splitL_joinL _ (by simpa using hne)]
  · rw [List.map_map]
    refine List.map_congr_left fun n _ => ?_
    exact mk_chars _
  · intro w hw
    obtain ⟨n, hn, rfl⟩ := List.mem_map.1 hw
    exact not_dig (dig_int (h n hn).1).2 hc
/-- A way to read numerals back. -/
structure Reads (rd : ByteArray → Int) (few : Int) : Prop where
  le : few ≤ 1000000000000000000
  of : ∀ n, 0 ≤ n → n < few → rd (intT n) = n
  canon : ∀ w, 0 ≤ rd w → w = intT (rd w)
theorem reads_T : Reads readT 1000000 := ⟨by decide, fun _ h0 h1 => readT_int h0 h1, fun _ h => readT_canon rfl h⟩
section
variable {rd : ByteArray → Int} {few : Int} (hr : Reads rd few) {c : UInt8} (hc : dig c = false) (hb : c.toNat < 128)
include hr hc
theorem readT_J {ns : List Int} (hne : ns ≠ []) (h : ∀ n ∈ ns, 0 ≤ n ∧ n < few) : (splitT c (numsJ c ns)).map rd = ns := by
  rw [splitT_J hc hne (fun n hn => ⟨(h n hn).1, Int.lt_of_lt_of_le (h n hn).2 hr.le⟩), List.map_map]
  have : ns.map (rd ∘ intT) = ns.map id := List.map_congr_left fun n hn => hr.of n (h n hn).1 (h n hn).2
  rw [this, List.map_id]
omit hc in
theorem split_read {s : ByteArray} (h : ∀ n ∈ (splitT c s).map rd, 0 ≤ n) : numsJ c ((splitT c s).map rd) = s := by
  apply chars_inj
  rw [chars_numsJ, List.map_map]
  have e : (splitT c s).map ((fun n => chars (intT n)) ∘ rd) = (splitT c s).map chars := List.map_congr_left fun w hw => by
    have := hr.canon w (h _ (List.mem_map_of_mem hw))
    exact congrArg chars this.symm
  rw [e]
  have e2 : (splitT c s).map chars = splitL c (chars s) := by
    unfold splitT
    rw [List.map_map]
    have : ((chars ∘ fun l : List UInt8 => (⟨l.toArray⟩ : ByteArray))) = id := funext fun l => chars_mk l
    rw [this, List.map_id]
  rw [e2, joinL_splitL]
end
/-- Numbers read out of a text: all numbers in it, which are written so; the numbers between the bytes. -/
def parseI (c : UInt8) (k : Nat) (good : List Int → Bool) (s : ByteArray) : Option (List Int) :=
  if (numsT s).length = k ∧ good (numsT s) = true ∧ numsJ c (numsT s) = s then some (numsT s) else none
def parseS (rd : ByteArray → Int) (c : UInt8) (k : Nat) (good : List Int → Bool) (s : ByteArray) : Option (List Int) :=
  if (splitT c s).length = k ∧ good ((splitT c s).map rd) = true then some ((splitT c s).map rd) else none
section
variable {rd : ByteArray → Int} {few : Int} (hr : Reads rd few) {c : UInt8} (hc : dig c = false) (hb : c.toNat < 128) {k : Nat} {good : List Int → Bool} (hg : ∀ ns, good ns = true → ∀ n ∈ ns, 0 ≤ n ∧ n < few)
include hr hc hg
include hb in
theorem parseI_J {ns : List Int} (h : good ns = true) (hk : ns.length = k) : parseI c k good (numsJ c ns) = some ns := by
  unfold parseI
  rw [numsT_J hc hb fun n hn => ⟨(hg ns h n hn).1, Int.lt_of_lt_of_le (hg ns h n hn).2 hr.le⟩, if_pos ⟨hk, h, rfl⟩]
theorem parseS_J (hk0 : 0 < k) {ns : List Int} (h : good ns = true) (hk : ns.length = k) : parseS rd c k good (numsJ c ns) = some ns := by
  have hne : ns ≠ [] := fun e => by rw [e] at hk; simp at hk; omega
  unfold parseS
  rw [readT_J hr hc hne (hg ns h), if_pos]
  refine ⟨?_, h⟩
  have := congrArg List.length (readT_J hr hc hne (hg ns h))
  rw [List.length_map] at this
  exact this.trans hk
include hb in
theorem parse_eq (hk0 : 0 < k) (s : ByteArray) : parseI c k good s = parseS rd c k good s := by
  by_cases h : (numsT s).length = k ∧ good (numsT s) = true ∧ numsJ c (numsT s) = s
  · obtain ⟨h1, h2, h3⟩ := h
    have a := parseI_J hr hc hb hg h2 h1
    have b := parseS_J hr hc hg hk0 h2 h1
    rw [h3] at a b
    rw [a, b]
  · by_cases h' : (splitT c s).length = k ∧ good ((splitT c s).map rd) = true
    · obtain ⟨h1, h2⟩ := h'
      have hl : ((splitT c s).map rd).length = k := by rw [List.length_map]; exact h1
      have a := parseI_J hr hc hb hg h2 hl
      have b := parseS_J hr hc hg hk0 h2 hl
      have h3 := split_read hr (c := c) (s := s) fun n hn => (hg _ h2 n hn).1
      rw [h3] at a b
      rw [a, b]
    · rw [parseI, parseS, if_neg h, if_neg h']
end
theorem parse_some {c : UInt8} {k : Nat} {good : List Int → Bool} {s : ByteArray} {ns : List Int} (h : parseI c k good s = some ns) : ns.length = k ∧ good ns = true ∧ numsJ c ns = s := by
  unfold parseI at h
  split at h
  · rename_i hc
    cases h
    exact hc
  · cases h
end Go.Proofs.YtlphibidnkjpdaaDoor
/-
  Draws: what the cursor gives.
-/
namespace Go.Proofs.YtlphibidnkjpdaaDoor
open Go Go.V
set_option linter.unusedSimpArgs false

structure Cur where
  code : List Int
  at_ : Nat
  seed : Int
abbrev bytesD (l : List Int) : D := .arr 1 (l.map U)
abbrev curD (c : Cur) : D := .agg [bytesD c.code, I c.at_, .v (.int .u64 c.seed)]
structure Cur.ok (c : Cur) (B : Nat) : Prop where
  by_ : ∀ n ∈ c.code, 0 ≤ n ∧ n ≤ 255
  len : c.code.length ≤ 1048576
  at_ : c.at_ ≤ B
  lo : 0 ≤ c.seed
  hi : c.seed < 18446744073709551616

theorem convD_i64 {k : IntKind} {n : Int} : convD (some .i64) false (.v (.int k n)) = some (I (IntKind.i64.wrap n)) := rfl
theorem convD_u64 {k : IntKind} {n : Int} : convD (some .u64) false (.v (.int k n)) = some (.v (.int .u64 (IntKind.u64.wrap n))) := rfl
theorem bin_shr40 {n : Int} {bl : Bool} {eq : List Nat} : bin .shr bl eq (.v (.int .u64 n)) (.v (.int .u64 40)) = some (.v (.int .u64 (n.fdiv 1099511627776))) := by
  simp [bin, IntKind.bits]
theorem bin_and {a b : Int} {bl : Bool} {eq : List Nat} : bin .and bl eq (.v (.int .u64 a)) (.v (.int .u64 b)) = some (.v (.int .u64 (bits .and .u64 a b))) := by simp [bin, intBin]
theorem and255 {n : Int} (h0 : 0 ≤ n) (h1 : n < 18446744073709551616) : 0 ≤ bits .and .u64 n 255 ∧ bits .and .u64 n 255 ≤ 255 := by
  obtain ⟨m, rfl⟩ := Int.eq_ofNat_of_zero_le h0
  have := bits_and_u64_nat m 255 (by omega) (by omega)
  rw [show ((255 : Int)) = ((255 : Nat) : Int) from rfl, this]
  have h2 : m &&& 255 ≤ 255 := Nat.and_le_right
  omega
theorem wrap64 (n : Int) : 0 ≤ IntKind.u64.wrap n ∧ IntKind.u64.wrap n < 18446744073709551616 := by
  rw [IntKind.wrap_u64]
  omega

def seedOf (s n : Int) : Int := IntKind.u64.wrap (IntKind.u64.wrap (IntKind.u64.wrap (s * 6364136223846793005) + IntKind.u64.wrap n) + 1442695040888963407)
def topOf (s : Int) : Int := bits .and .u64 (s.fdiv 1099511627776) 255
theorem seedOf_in (s n : Int) : 0 ≤ seedOf s n ∧ seedOf s n < 18446744073709551616 := wrap64 _
theorem topOf_in {s : Int} (h0 : 0 ≤ s) (h1 : s < 18446744073709551616) : 0 ≤ topOf s ∧ topOf s ≤ 255 := by
  unfold topOf
  rw [Int.fdiv_eq_ediv_of_nonneg _ (by omega)]
  exact and255 (by omega) (by omega)
theorem seed_run {s n : Int} : ((bin BinOp.mul false [] (.v (.int .u64 s)) (.v (.int .u64 6364136223846793005))).bind fun x => (bin BinOp.add false [] x (.v (.int .u64 (IntKind.u64.wrap n)))).bind fun y => bin BinOp.add false [] y (.v (.int .u64 1442695040888963407))) = some (.v (.int .u64 (seedOf s n))) := by
  simp only [bin_mul, bin_add, Option.bind_some, seedOf]
theorem next1 (c : Cur) (B : Nat) (h : c.ok B) (hB : B ≤ 1000000000000) (hc : c.at_ < c.code.length) : F_spec_l1Cur_next [curD c] = some (.ret [I c.code[c.at_]] [curD ⟨c.code, c.at_ + 1, seedOf c.seed c.code[c.at_]⟩]) := by
  have hl := h.len
  have ha := h.at_
  have hw : IntKind.i64.wrap ((c.at_ : Int) + 1) = (c.at_ : Int) + 1 := wrap_id (by omega) (by omega)
  have hn := h.by_ c.code[c.at_] (List.getElem_mem hc)
  have hv : IntKind.i64.wrap c.code[c.at_] = c.code[c.at_] := wrap_id (by omega) (by omega)
  have hle : (c.at_ : Int) + 1 ≤ (c.code.length : Int) := by omega
  rw [t_spec_l1Cur_next]
  simp -implicitDefEqProofs [hc, hw, hv, hle, convD_i64, convD_u64, seedOf]
theorem next2 (c : Cur) (B : Nat) (h : c.ok B) (hB : B ≤ 1000000000000) (hc : ¬ c.at_ < c.code.length) : F_spec_l1Cur_next [curD c] = some (.ret [I (topOf (seedOf c.seed 0))] [curD ⟨c.code, c.at_ + 1, seedOf c.seed 0⟩]) := by
  have hl := h.len
  have ha := h.at_
  have hw : IntKind.i64.wrap ((c.at_ : Int) + 1) = (c.at_ : Int) + 1 := wrap_id (by omega) (by omega)
  have hle : ¬ (c.at_ : Int) + 1 ≤ (c.code.length : Int) := by omega
  have hq := topOf_in (seedOf_in c.seed 0).1 (seedOf_in c.seed 0).2
  have hv : IntKind.i64.wrap (topOf (seedOf c.seed 0)) = topOf (seedOf c.seed 0) := wrap_id (by omega) (by omega)
  unfold topOf seedOf at hv
  rw [t_spec_l1Cur_next]
  simp -implicitDefEqProofs [hc, hw, hle, convD_i64, convD_u64, bin_shr40, bin_and, hv, seedOf, topOf]
theorem d_next (c : Cur) (B : Nat) (h : c.ok B) (hB : B ≤ 1000000000000) : ∃ v c', F_spec_l1Cur_next [curD c] = some (.ret [I v] [curD c']) ∧ 0 ≤ v ∧ v ≤ 255 ∧ c'.ok (B + 1) := by
  have ha := h.at_
  by_cases hc : c.at_ < c.code.length
  · have hn := h.by_ c.code[c.at_] (List.getElem_mem hc)
    exact ⟨_, _, next1 c B h hB hc, hn.1, hn.2, ⟨h.by_, h.len, Nat.succ_le_succ ha, (seedOf_in _ _).1, (seedOf_in _ _).2⟩⟩
  · have hq := topOf_in (seedOf_in c.seed 0).1 (seedOf_in c.seed 0).2
    exact ⟨_, _, next2 c B h hB hc, hq.1, hq.2, ⟨h.by_, h.len, Nat.succ_le_succ ha, (seedOf_in _ _).1, (seedOf_in _ _).2⟩⟩

theorem d_pick (c : Cur) (n : Int) (B : Nat) (h : c.ok B) (hB : B ≤ 100000000000) (hn : n ≤ 1000000000) : ∃ v c', F_spec_l1Cur_pick [curD c, I n] = some (.ret [I v] [curD c']) ∧ 0 ≤ v ∧ (v < n ∨ v = 0) ∧ c'.ok (B + 2) := by
  rw [t_spec_l1Cur_pick]
  by_cases h1 : n ≤ 1
  · exact ⟨0, c, by simp [h1], by omega, .inr rfl, ⟨h.by_, h.len, by have := h.at_; omega, h.lo, h.hi⟩⟩
  obtain ⟨v, c1, e1, l1, u1, k1⟩ := d_next c B h (by omega)
  have hn0 : ¬ n = 0 := by omega
  by_cases h2 : 200 < n
  · obtain ⟨v2, c2, e2, l2, u2, k2⟩ := d_next c1 (B + 1) k1 (by omega)
    have w1 : IntKind.i64.wrap (v * 256) = v * 256 := wrap_id (by omega) (by omega)
    have w2 : IntKind.i64.wrap (v * 256 + v2) = v * 256 + v2 := wrap_id (by omega) (by omega)
    refine ⟨(v * 256 + v2).tmod n, c2, by simp [h1, h2, e1, e2, w1, w2, hn0], Int.tmod_nonneg _ (by omega), .inl (Int.tmod_lt_of_pos _ (by omega)), k2⟩
  · refine ⟨v.tmod n, c1, by simp [h1, h2, e1, hn0], Int.tmod_nonneg _ l1, .inl (Int.tmod_lt_of_pos _ (by omega)), ⟨k1.by_, k1.len, by have := k1.at_; omega, k1.lo, k1.hi⟩⟩
theorem d_one (c : Cur) (n : Int) (B : Nat) (h : c.ok B) (hB : B ≤ 100000000000) (hn : n ≤ 1000000000) : ∃ (b : Bool) (c' : Cur), F_spec_l1Cur_one [curD c, I n] = some (.ret [.v (.bool b)] [curD c']) ∧ c'.ok (B + 2) := by
  rw [t_spec_l1Cur_one]
  obtain ⟨v, c1, e1, l1, u1, k1⟩ := d_pick c n B h hB hn
  exact ⟨_, c1, by simp [e1]; rfl, k1⟩
abbrev intsD (l : List Int) : D := .arr 1 (l.map I)
theorem d_among (c : Cur) (l : List Int) (B : Nat) (h : c.ok B) (hB : B ≤ 100000000000) (hl : l ≠ []) (hn : l.length ≤ 1000000000) : ∃ v c', F_spec_l1Cur_among [curD c, intsD l] = some (.ret [I v] [curD c']) ∧ v ∈ l ∧ c'.ok (B + 2) := by
  rw [t_spec_l1Cur_among]
  have hp : 0 < l.length := List.length_pos_iff.2 hl
  obtain ⟨v, c1, e1, l1, u1, k1⟩ := d_pick c l.length B h hB (by omega)
  obtain ⟨i, rfl⟩ := Int.eq_ofNat_of_zero_le l1
  have hi : i < l.length := by omega
  exact ⟨l[i], c1, by simp [e1, hi], List.getElem_mem hi, k1⟩

theorem Cur.ok.mono {c : Cur} {B C : Nat} (h : c.ok B) (hBC : B ≤ C) : c.ok C := ⟨h.by_, h.len, Nat.le_trans h.at_ hBC, h.lo, h.hi⟩
theorem mkInts {l : List Int} : mkArr 1 (l.map I) = some (intsD l) := by
  have : lenOkD 1 (l.map I).length (l.map I) = true := by
    unfold lenOkD
    simp
  simp only [mkArr, this, if_true]
theorem e_laws_big (a b : List Int) : ∃ p : Bool, F_laws_big [bytesD a, bytesD b] = some (.ret [B p] []) ∧ (p = false → a.length ≤ 1048576 ∧ b.length ≤ 1048576) := by
  rw [t_laws_big]
  by_cases h1 : 1048576 < (a.length : Int)
  · exact ⟨true, by simp [h1], fun h => by cases h⟩
  have hw : IntKind.i64.wrap (1048576 - (a.length : Int)) = 1048576 - (a.length : Int) := wrap_id (by omega) (by omega)
  by_cases h2 : 1048576 - (a.length : Int) < (b.length : Int)
  · exact ⟨true, by simp [h1, h2, hw], fun h => by cases h⟩
  · exact ⟨false, by simp [h1, h2, hw], fun _ => by omega⟩

theorem bldCur (l : List Int) : bldD [(0, 1)] [D.arr 1 [], I 0, D.v (.int .u64 0)] [bytesD l] = some (.agg [bytesD l, I 0, D.v (.int .u64 0)]) := by
  simp [bldD, fillD]
structure Bytes (l : List Int) : Prop where
  by_ : ∀ n ∈ l, 0 ≤ n ∧ n ≤ 255
  len : l.length ≤ 1048576
theorem cur0 {l : List Int} (h : Bytes l) : Cur.ok ⟨l, 0, 0⟩ 0 := ⟨h.by_, h.len, Nat.le_refl _, Int.le_refl 0, show (0 : Int) < 18446744073709551616 by decide⟩

abbrev curZ (l : List Int) : D := .agg [bytesD l, I 0, .v (.int .u64 0)]
theorem d_pick0 (l : List Int) (h : Bytes l) (n : Int) (hn : n ≤ 1000000000) : ∃ (v : Int) (c' : Cur), F_spec_l1Cur_pick [curZ l, I n] = some (.ret [I v] [curD c']) ∧ 0 ≤ v ∧ (v < n ∨ v = 0) ∧ c'.ok 2 := d_pick ⟨l, 0, 0⟩ n 0 (cur0 h) (by omega) hn
abbrev txs (l : List ByteArray) : D := .arr 1 (l.map T)
theorem mkTxs {l : List ByteArray} : mkArr 1 (l.map T) = some (txs l) := by
  have : lenOkD 1 (l.map T).length (l.map T) = true := by
    unfold lenOkD
    simp
  simp only [mkArr, this, if_true]
theorem d_of (c : Cur) (l : List ByteArray) (B : Nat) (h : c.ok B) (hB : B ≤ 100000000000) (hl : l ≠ []) (hn : l.length ≤ 1000000000) : ∃ v c', F_spec_l1Cur_of [curD c, txs l] = some (.ret [T v] [curD c']) ∧ v ∈ l ∧ c'.ok (B + 2) := by
  rw [t_spec_l1Cur_of]
  have hp : 0 < l.length := List.length_pos_iff.2 hl
  obtain ⟨v, c1, e1, l1, u1, k1⟩ := d_pick c l.length B h hB (by omega)
  obtain ⟨i, rfl⟩ := Int.eq_ofNat_of_zero_le l1
  have hi : i < l.length := by omega
  exact ⟨l[i], c1, by simp [e1, hi], List.getElem_mem hi, k1⟩

theorem char_at {w : ByteArray} {i : Nat} (h : i < w.size) : ∃ b : UInt8, charD (T w) (I (i : Int)) = some (U (b.toNat : Int)) := by
  have h' : i < (chars w).length := h
  refine ⟨(chars w)[i]'h', ?_⟩
  rw [charD_nat, List.getElem?_eq_getElem h']
  rfl
theorem str_byte (b : UInt8) : strD (.arr 1 [U (b.toNat : Int)]) = some (T ⟨#[b]⟩) := by
  have : bytesOf [U (b.toNat : Int)] = some [b] := by simp [bytesOf]
  simp only [strD, this, Option.map_some]
theorem mkU (n : Int) : mkArr 1 [U n] = some (.arr 1 [U n]) := by simp [mkArr, lenOkD]
theorem add_small {a b : ByteArray} (h : a.size + b.size ≤ 100000000) : bin .add false [] (T a) (T b) = some (T (a ++ b)) := by
  rw [bin_addS, if_pos (by omega)]
theorem size_ext (s : ByteArray) (i j : Nat) : (s.extract i j).size = min j s.size - i := by rw [ByteArray.size_extract]
theorem d_spoilt (c : Cur) (s w : ByteArray) (B : Nat) (h : c.ok B) (hB : B ≤ 1000000000) (hs : s.size ≤ 100000) (hw : 0 < w.size ∧ w.size ≤ 100) :
    ∃ (t : ByteArray) (c' : Cur), F_spec_l1Cur_spoilt [curD c, T s, T w] = some (.ret [T t] [curD c']) ∧ t.size ≤ s.size + 2 ∧ c'.ok (B + 20) := by
  obtain ⟨v, c1, e1, l1, u1, k1⟩ := d_pick c 2 B h (by omega) (by omega)
  obtain ⟨v, rfl⟩ := Int.eq_ofNat_of_zero_le l1
  have hw1 : IntKind.i64.wrap (1 + (v : Int)) = ((1 + v : Nat) : Int) := by rw [wrap_id (by omega) (by omega)]; omega
  rw [t_spec_l1Cur_spoilt]
  simp -implicitDefEqProofs only [liveD_agg, Option.bind_some, ref0_eq, e1, callK_ret, sl_zero, bin_add, hw1]
  refine loop_wf_bind (fun X => ∃ t c', X = some (.ret [T t] [curD c']) ∧ t.size ≤ s.size + 2 ∧ c'.ok (B + 20)) (fun a : Cur × ByteArray × Nat => [curD a.1, T a.2.1, T w, I (a.2.2 : Int)])
    (fun a => a.1.ok (B + 2 + 6 * (2 - a.2.2)) ∧ a.2.2 ≤ 2 ∧ a.2.1.size + a.2.2 ≤ s.size + 2) (fun a => a.2.2) (fun o => ∃ t c', o = .ext 0 [curD c', T t] ∧ t.size ≤ s.size + 2 ∧ c'.ok (B + 20)) ?_ (c1, s, 1 + v) ⟨k1.mono (by simp only; omega), by simp only; omega, by simp only; omega⟩ rfl ?_
  · rintro ⟨ca, t, n⟩ ⟨h1, h2, h3⟩
    simp only at h1 h2 h3
    by_cases hn : 0 < n
    case neg =>
      have hn' : ¬ (0 : Int) < (n : Int) := by omega
      refine .inr ⟨_, ?_, rfl, t, ca, rfl, by omega, h1.mono (by omega)⟩
      simp -implicitDefEqProofs only [sl_zero, sl_succ, bin_gtr, hn', decide_false, Option.bind_some, gate_t, gate_s, Bool.false_eq_true, if_false, pickD_B, ifD_B]
    have hn' : (0 : Int) < (n : Int) := by omega
    by_cases ht : 0 < t.size
    case neg =>
      have ht' : ¬ (0 : Int) < (t.size : Int) := by omega
      refine .inr ⟨_, ?_, rfl, t, ca, rfl, by omega, h1.mono (by omega)⟩
      simp -implicitDefEqProofs only [sl_zero, sl_succ, bin_gtr, hn', ht', decide_true, decide_false, lenD_str, Option.bind_some, gate_t, gate_s, Bool.false_eq_true, if_false, if_true, pickD_B, ifD_B]
    have ht' : (0 : Int) < (t.size : Int) := by omega
    obtain ⟨i, c2, e2, l2, u2, k2⟩ := d_pick ca (t.size : Int) _ h1 (by omega) (by omega)
    obtain ⟨i, rfl⟩ := Int.eq_ofNat_of_zero_le l2
    obtain ⟨j, c3, e3, l3, u3, k3⟩ := d_pick c2 (w.size : Int) _ k2 (by omega) (by omega)
    obtain ⟨j, rfl⟩ := Int.eq_ofNat_of_zero_le l3
    obtain ⟨b, hb⟩ := char_at (w := w) (i := j) (by omega)
    obtain ⟨k, c4, e4, l4, u4, k4⟩ := d_pick c3 3 _ k3 (by omega) (by omega)
    have hwn : IntKind.i64.wrap ((n : Int) - 1) = ((n - 1 : Nat) : Int) := by rw [wrap_id (by omega) (by omega)]; omega
    have hwi : IntKind.i64.wrap ((i : Int) + 1) = ((i + 1 : Nat) : Int) := by rw [wrap_id (by omega) (by omega)]; omega
    have s1 : sliceD true 0 (T t) (I 0) (I (i : Int)) = some (T (t.extract 0 i)) := sliceS (i := 0) (Nat.zero_le _) (by omega)
    have s2 : sliceHi true 0 (T t) (I (i : Int)) = some (T (t.extract i t.size)) := sliceHiS (by omega)
    have s3 : sliceHi true 0 (T t) (I ((i + 1 : Nat) : Int)) = some (T (t.extract (i + 1) t.size)) := sliceHiS (by omega)
    have z1 := size_ext t 0 i
    have z2 := size_ext t i t.size
    have z3 := size_ext t (i + 1) t.size
    have sb : (⟨#[b]⟩ : ByteArray).size = 1 := rfl
    have a1 := add_small (a := t.extract 0 i) (b := ⟨#[b]⟩) (by omega)
    have a2 := add_small (a := t.extract 0 i ++ ⟨#[b]⟩) (b := t.extract i t.size) (by rw [ByteArray.size_append]; omega)
    have a3 := add_small (a := t.extract 0 i ++ ⟨#[b]⟩) (b := t.extract (i + 1) t.size) (by rw [ByteArray.size_append]; omega)
    have a4 := add_small (a := t.extract 0 i) (b := t.extract (i + 1) t.size) (by omega)
    left
    by_cases q0 : k = 0
    · refine ⟨(c4, t.extract 0 i ++ ⟨#[b]⟩ ++ t.extract i t.size, n - 1), ?_, ⟨k4.mono (by simp only; omega), by simp only; omega, by simp only [ByteArray.size_append]; omega⟩, by simp only; omega⟩
      simp -implicitDefEqProofs only [sl_zero, sl_succ, bin_gtr, hn', ht', decide_true, lenD_str, Option.bind_some, gate_t, if_true, pickD_B, ifD_B, liveD_agg, ref0_eq, e2, e3, e4, callK_ret, hb, mkU, str_byte, bin_eql, q0, s1, s2, a1, a2, bin_sub, hwn]
    by_cases q1 : k = 1
    · refine ⟨(c4, t.extract 0 i ++ ⟨#[b]⟩ ++ t.extract (i + 1) t.size, n - 1), ?_, ⟨k4.mono (by simp only; omega), by simp only; omega, by simp only [ByteArray.size_append]; omega⟩, by simp only; omega⟩
      simp -implicitDefEqProofs only [sl_zero, sl_succ, bin_gtr, hn', ht', decide_true, decide_false, Bool.false_eq_true, if_false, lenD_str, Option.bind_some, gate_t, if_true, pickD_B, ifD_B, liveD_agg, ref0_eq, e2, e3, e4, callK_ret, hb, mkU, str_byte, bin_eql, q0, q1, show ¬ (1 : Int) = 0 by decide, s1, s3, a1, a3, bin_sub, bin_add, hwi, hwn]
    · refine ⟨(c4, t.extract 0 i ++ t.extract (i + 1) t.size, n - 1), ?_, ⟨k4.mono (by simp only; omega), by simp only; omega, by simp only [ByteArray.size_append]; omega⟩, by simp only; omega⟩
      simp -implicitDefEqProofs only [sl_zero, sl_succ, bin_gtr, hn', ht', decide_true, decide_false, Bool.false_eq_true, if_false, lenD_str, Option.bind_some, gate_t, if_true, pickD_B, ifD_B, liveD_agg, ref0_eq, e2, e3, e4, callK_ret, hb, mkU, str_byte, bin_eql, q0, q1, s1, s3, a4, bin_sub, bin_add, hwi, hwn]
  · rintro o ⟨t, c', rfl, g1, g2⟩
    refine ⟨t, c', ?_, g1, g2⟩
    simp -implicitDefEqProofs only [outK_ext, Nat.beq_refl, ifN_B, if_true, sl_zero, sl_succ, liveD_agg, Option.bind_some]
end Go.Proofs.YtlphibidnkjpdaaDoor
/-
  Layouts: what the functions compute.
-/
namespace Go.Proofs.YtlphibidnkjpdaaDoor
open Go Go.V
set_option linter.unusedSimpArgs false

/-! ### numbers in a text -/
theorem lib_join (c : UInt8) : ∀ (ws : List (List UInt8)), Lib.join ws [c] = joinL c ws
  | [] => rfl
  | [a] => by rw [Lib.join_one]; rfl
  | a :: b :: l => by
    have ih := lib_join c (b :: l)
    rw [Lib.join_cons] at ih ⊢
    have hj : joinL c (a :: b :: l) = a ++ c :: joinL c (b :: l) := rfl
    rw [hj, ← ih]
    simp [Lib.joinTail]
theorem joinOf_J (c : UInt8) (ns : List Int) : joinOf (ns.map intT) ⟨#[c]⟩ = numsJ c ns := by
  apply chars_inj
  rw [chars_numsJ, ← lib_join]
  unfold joinOf
  rw [chars_mk, List.map_map]
  rfl
theorem joinL_len {c : UInt8} {m : Nat} : ∀ (ws : List (List UInt8)), (∀ w ∈ ws, w.length ≤ m) → (joinL c ws).length ≤ ws.length * (m + 1)
  | [], _ => by simp [joinL]
  | [a], h => by
    have := h a (by simp)
    show a.length ≤ 1 * (m + 1)
    omega
  | a :: b :: l, h => by
    have ih := joinL_len (c := c) (b :: l) fun w hw => h w (by simp [hw])
    have ha := h a (by simp)
    have hj : joinL c (a :: b :: l) = a ++ c :: joinL c (b :: l) := rfl
    rw [hj, List.length_append, List.length_cons]
    have e : (a :: b :: l).length * (m + 1) = (b :: l).length * (m + 1) + (m + 1) := by rw [List.length_cons, Nat.succ_mul]
    omega
theorem numsJ_size {c : UInt8} {ns : List Int} (h : ∀ n ∈ ns, 0 ≤ n ∧ n < 1000000000000000000) : (numsJ c ns).size ≤ ns.length * 19 := by
  have : (numsJ c ns).size = (joinL c (ns.map fun n => chars (intT n))).length := by rw [size_list, chars_numsJ]
  rw [this]
  have := joinL_len (c := c) (m := 18) (ns.map fun n => chars (intT n)) fun w hw => by
    obtain ⟨n, hn, rfl⟩ := List.mem_map.1 hw
    exact intT_size 17 (h n hn).1 (by have := (h n hn).2; omega)
  rwa [List.length_map] at this
abbrev intsL (l : List Int) : D := .arr 1 (l.map I)
theorem txs_app {l m : List ByteArray} (h : l.length + m.length ≤ 1048577) : appD 1 16 (txs l) (txs m) = some (txs (l ++ m)) := by
  rw [appD_eq, if_pos (by simp only [List.length_map]; omega)]
  simp
theorem e_impl_join (ns : List Int) (c : UInt8) (h : ∀ n ∈ ns, 0 ≤ n ∧ n < 1000000000000000000) (hl : ns.length ≤ 1000000) : F_impl_join [intsL ns, T ⟨#[c]⟩] = some (.ret [T (numsJ c ns)] []) := by
  rw [t_impl_join]
  simp only [mkArr_nil, lenD_arr, List.length_map, Option.bind_some]
  refine loop_bind _ (loop_for ns.length (fun i => [T ⟨#[c]⟩, txs ((ns.take i).map intT), intsL ns, I ns.length, I i]) (.ext 0 [T ⟨#[c]⟩, txs (ns.map intT)]) (fun i hi => ?_) ?_ rfl rfl) ?_
  · have hi' : (i : Int) < (ns.length : Int) := by omega
    have hw : IntKind.i64.wrap ((i : Int) + 1) = ((i + 1 : Nat) : Int) := by rw [wrap_id (by omega) (by omega)]; omega
    have hx := h ns[i] (List.getElem_mem hi)
    have hel : elemD 1 (intsL ns) (I (i : Int)) = some [I ns[i]] := by simp [hi]
    have hit := e_Itoa (n := ns[i]) (by omega) (by omega)
    have hap := txs_app (l := (ns.take i).map intT) (m := [intT ns[i]]) (by simp; omega)
    have htk : (ns.take (i + 1)).map intT = (ns.take i).map intT ++ [intT ns[i]] := by rw [List.take_succ_eq_append_getElem hi, List.map_append]; rfl
    rw [← htk] at hap
    have hck : chkA (.arr 1 [T (intT ns[i])]) = some (txs [intT ns[i]]) := chkA_texts [intT ns[i]]
    show _ = some (Out.nrm [T ⟨#[c]⟩, txs ((ns.take (i + 1)).map intT), intsL ns, I ns.length, I ((i + 1 : Nat) : Int)])
    simp -implicitDefEqProofs only [sl_zero, sl_succ, bin_lss, hi', decide_true, Option.bind_some, ifD_B, if_true, hel, Option.map_some, ldD_ptr, takeD_f, chkV_v, hit, callK_ret, one_text, hck, hap, bin_add, hw]
  · simp
  · have hz := numsJ_size (c := c) h
    have hj : fJoin [txs (ns.map intT), T ⟨#[c]⟩] = some (.ret [T (numsJ c ns)] []) := by
      simp only [fJoin, textsOf_T, Option.bind_some, joinOf_J]
      rw [if_pos ⟨by rw [List.length_map]; omega, by omega⟩]
    simp -implicitDefEqProofs only [outK_ext, Nat.beq_refl, ifN_B, if_true, sl_zero, sl_succ, liveD_arr, liveD_ref, Option.bind_some, hj, callK_ret]
theorem allI_In {a b : Int} : ∀ (l : List Int) (i : Nat), allI (fun _ x => decide (a ≤ x ∧ x ≤ b)) i l = l.all fun x => decide (a ≤ x ∧ x ≤ b)
  | [], _ => rfl
  | x :: l, i => by simp only [allI, allI_In l, List.all_cons]
theorem e_spec_l1All (l : List Int) (a b : Int) (h : l.length ≤ 1048577) : F_spec_l1All [intsL l, I a, I b] = some (.ret [B (l.all fun x => decide (a ≤ x ∧ x ≤ b))] []) := by
  rw [t_spec_l1All]
  simp only [lenD_arr, List.length_map, Option.bind_some]
  refine loop_bind _ (loop_all l (fun i => [I a, I b, intsL l, I l.length, I i]) (fun _ x => decide (a ≤ x ∧ x ≤ b)) (.ret [B false] []) (.ext 0 []) (fun i hi => ?_) ?_ rfl rfl rfl) ?_
  · have hw : IntKind.i64.wrap ((i : Int) + 1) = (i : Int) + 1 := wrap_id (by omega) (by omega)
    by_cases h1 : a ≤ l[i] ∧ l[i] ≤ b <;> simp -implicitDefEqProofs [hi, hw, h1, e_spec_l1In]
  · simp
  · rw [allI_In]
    by_cases hm : (l.all fun x => decide (a ≤ x ∧ x ≤ b)) = true
    · rw [if_pos hm, hm]; rfl
    · rw [if_neg hm]
      rw [Bool.not_eq_true] at hm
      rw [hm]
      rfl

/-! ### layouts -/
def pageB (n : Int) : Bool := decide (60 ≤ n ∧ n ≤ 2000)
theorem tpI (n : Int) (ds : List D) : tupAt (.tup (I n :: ds)) 0 = some (I n) := rfl
theorem tpA (l : List D) (ds : List D) : tupAt (.tup (.agg l :: ds)) 0 = some (.agg l) := rfl
theorem tp1 (a : D) (v : Value) (ds : List D) : tupAt (.tup (a :: .v v :: ds)) 1 = some (.v v) := rfl
theorem tp2 (a b : D) (v : Value) (ds : List D) : tupAt (.tup (a :: b :: .v v :: ds)) 2 = some (.v v) := rfl
def ifN0 (b : Bool) (n : Int) : Int := if b = true then n else 0
end Go.Proofs.YtlphibidnkjpdaaDoor
/-
  Strikes: what the functions compute.
-/
namespace Go.Proofs.YtlphibidnkjpdaaDoor
open Go Go.V
set_option linter.unusedSimpArgs false

/-! ### numbers of 64 bits joined by a byte -/
def i64s (l : List Int) : Prop := ∀ n ∈ l, -9223372036854775808 ≤ n ∧ n ≤ 9223372036854775807
theorem intT_any {n : Int} (h0 : -9223372036854775808 ≤ n) (h1 : n ≤ 9223372036854775807) : (intT n).size ≤ 20 := by
  by_cases h : 0 ≤ n
  · have := intT_size 18 (n := n) h (by omega)
    omega
  · have e : intT n = ⟨#[45]⟩ ++ intT (-n) := by
      obtain ⟨u, hu⟩ := Int.eq_ofNat_of_zero_le (show 0 ≤ -n by omega)
      have hn : n = -(u : Int) := by omega
      apply chars_inj
      rw [chars_append, hn, Int.neg_neg]
      unfold intT
      rw [chars_mk, chars_mk, Lib.itoa_neg u (by omega), Lib.itoa_nonneg]
      rfl
    have := intT_size 18 (n := -n) (by omega) (by omega)
    rw [e, ByteArray.size_append]
    have : (⟨#[45]⟩ : ByteArray).size = 1 := rfl
    omega
theorem numsJ_any {c : UInt8} {ns : List Int} (h : i64s ns) : (numsJ c ns).size ≤ ns.length * 21 := by
  have : (numsJ c ns).size = (joinL c (ns.map fun n => chars (intT n))).length := by rw [size_list, chars_numsJ]
  rw [this]
  have := joinL_len (c := c) (m := 20) (ns.map fun n => chars (intT n)) fun w hw => by
    obtain ⟨n, hn, rfl⟩ := List.mem_map.1 hw
    exact intT_any (h n hn).1 (h n hn).2
  rwa [List.length_map] at this
theorem e_impl_joinA (ns : List Int) (c : UInt8) (h : i64s ns) (hl : ns.length ≤ 1000000) : F_impl_join [intsL ns, T ⟨#[c]⟩] = some (.ret [T (numsJ c ns)] []) := by
  rw [t_impl_join]
  simp only [mkArr_nil, lenD_arr, List.length_map, Option.bind_some]
  refine loop_bind _ (loop_for ns.length (fun i => [T ⟨#[c]⟩, txs ((ns.take i).map intT), intsL ns, I ns.length, I i]) (.ext 0 [T ⟨#[c]⟩, txs (ns.map intT)]) (fun i hi => ?_) ?_ rfl rfl) ?_
  · have hi' : (i : Int) < (ns.length : Int) := by omega
    have hw : IntKind.i64.wrap ((i : Int) + 1) = ((i + 1 : Nat) : Int) := by rw [wrap_id (by omega) (by omega)]; omega
    have hx := h ns[i] (List.getElem_mem hi)
    have hel : elemD 1 (intsL ns) (I (i : Int)) = some [I ns[i]] := by simp [hi]
    have hit := e_Itoa (n := ns[i]) hx.1 hx.2
    have hap := txs_app (l := (ns.take i).map intT) (m := [intT ns[i]]) (by simp; omega)
    have htk : (ns.take (i + 1)).map intT = (ns.take i).map intT ++ [intT ns[i]] := by rw [List.take_succ_eq_append_getElem hi, List.map_append]; rfl
    rw [← htk] at hap
    have hck : chkA (.arr 1 [T (intT ns[i])]) = some (txs [intT ns[i]]) := chkA_texts [intT ns[i]]
    show _ = some (Out.nrm [T ⟨#[c]⟩, txs ((ns.take (i + 1)).map intT), intsL ns, I ns.length, I ((i + 1 : Nat) : Int)])
    simp -implicitDefEqProofs only [sl_zero, sl_succ, bin_lss, hi', decide_true, Option.bind_some, ifD_B, if_true, hel, Option.map_some, ldD_ptr, takeD_f, chkV_v, hit, callK_ret, one_text, hck, hap, bin_add, hw]
  · simp
  · have hz := numsJ_any (c := c) h
    have hj : fJoin [txs (ns.map intT), T ⟨#[c]⟩] = some (.ret [T (numsJ c ns)] []) := by
      simp only [fJoin, textsOf_T, Option.bind_some, joinOf_J]
      rw [if_pos ⟨by rw [List.length_map]; omega, by omega⟩]
    simp -implicitDefEqProofs only [outK_ext, Nat.beq_refl, ifN_B, if_true, sl_zero, sl_succ, liveD_arr, liveD_ref, Option.bind_some, hj, callK_ret]
theorem numsG_any : ∀ (l : List ByteArray) (acc : List Int), i64s acc → i64s (numsG l acc)
  | [], acc, h => h
  | w :: l, acc, h => by
    unfold numsG
    cases hw : Lib.atoiAll (chars w) with
    | ok v =>
      refine numsG_any l _ fun n hn => ?_
      rcases List.mem_append.1 hn with hn | hn
      · exact h n hn
      · rw [List.mem_singleton.1 hn]
        exact Lib.atoiAll_bounds hw
    | _ => intro n hn; simp at hn
theorem numsT_any (s : ByteArray) : i64s (numsT s) := numsG_any _ _ fun n hn => by simp at hn

/-! ### strikes -/
abbrev Sk := Int × Int × Int × Int × Int
abbrev sk (s : Sk) : D := .agg [I s.1, I s.2.1, I s.2.2.1, I s.2.2.2.1, I s.2.2.2.2]
def skL (s : Sk) : List Int := [s.1, s.2.1, s.2.2.1, s.2.2.2.1, s.2.2.2.2]
def in1 (x : Int) : Bool := decide (1 ≤ x ∧ x ≤ 999)
def goodK (s : Sk) : Bool := (skL s).all in1
theorem goodK_iff {s : Sk} : goodK s = true ↔ (1 ≤ s.1 ∧ s.1 ≤ 999) ∧ (1 ≤ s.2.1 ∧ s.2.1 ≤ 999) ∧ (1 ≤ s.2.2.1 ∧ s.2.2.1 ≤ 999) ∧ (1 ≤ s.2.2.2.1 ∧ s.2.2.2.1 ≤ 999) ∧ (1 ≤ s.2.2.2.2 ∧ s.2.2.2.2 ≤ 999) := by
  simp only [goodK, skL, in1, List.all_cons, List.all_nil, Bool.and_true, Bool.and_eq_true, decide_eq_true_eq]
theorem goodK_in {s : Sk} (h : goodK s = true) : ∀ n ∈ skL s, 1 ≤ n ∧ n ≤ 999 := fun n hn => by simpa [in1] using List.all_eq_true.1 h n hn
theorem mk5 (a b c d e : Int) : mkArr 1 [I a, I b, I c, I d, I e] = some (intsL [a, b, c, d, e]) := mkInts (l := [a, b, c, d, e])
theorem box5 (s : Sk) : boxD 5 (sk s) = some (sk s) := by simp
theorem fld5 (s : Sk) : fldD true 5 0 (sk s) = some (sk s) := by simp
theorem st5 (s : Sk) : stD 5 (.agg [I 0, I 0, I 0, I 0, I 0]) (.ref 0 0) (sk s) = some (sk s) := by simp
theorem bld5 (a b c d e : Int) : bldD [(0, 1), (1, 1), (2, 1), (3, 1), (4, 1)] [I 0, I 0, I 0, I 0, I 0] [I a, I b, I c, I d, I e] = some (sk (a, b, c, d, e)) := by simp [bldD, fillD]
abbrev k0 : Sk := (0, 0, 0, 0, 0)
theorem bldk0 : bldD [] [I 0, I 0, I 0, I 0, I 0] [] = some (sk k0) := by simp [bldD, fillD]
theorem e_impl_parts (s : Sk) : F_impl_Strike_parts [sk s] = some (.ret [intsL (skL s)] []) := by
  rw [t_impl_Strike_parts]
  have := mk5 s.1 s.2.1 s.2.2.1 s.2.2.2.1 s.2.2.2.2
  simp -implicitDefEqProofs only [box5, Option.bind_some, liveD_agg, atD_agg, List.drop_zero, List.drop_succ_cons, takeD_f, this, skL]
theorem e_spec_parts (s : Sk) : F_spec_maParts [sk s] = some (.ret [intsL (skL s)] []) := by
  rw [t_spec_maParts]
  have := mk5 s.1 s.2.1 s.2.2.1 s.2.2.2.1 s.2.2.2.2
  simp -implicitDefEqProofs only [box5, Option.bind_some, liveD_agg, atD_agg, List.drop_zero, List.drop_succ_cons, takeD_f, this, skL]
theorem e_impl_IsStrike (s : Sk) : F_impl_IsStrike [sk s] = some (.ret [B (goodK s)] []) := by
  rw [t_impl_IsStrike]
  simp -implicitDefEqProofs only [box5, fld5, Option.bind_some, e_impl_parts, callK_ret, sl_zero, lenD_arr, List.length_map]
  have hl : (skL s).length = 5 := rfl
  refine loop_bind _ (loop_all (skL s) (fun i => [intsL (skL s), I (skL s).length, I i]) (fun _ x => in1 x) (.ret [B false] []) (.ext 0 []) (fun i hi => ?_) ?_ rfl rfl rfl) ?_
  · have hw : IntKind.i64.wrap ((i : Int) + 1) = (i : Int) + 1 := wrap_id (by omega) (by omega)
    by_cases h1 : 1 ≤ (skL s)[i] ∧ (skL s)[i] ≤ 999 <;> simp -implicitDefEqProofs [hi, hw, h1, e_impl_within, in1]
  · simp
  · have e : allI (fun _ x => in1 x) 0 (skL s) = goodK s := by
      have := allI_In (a := 1) (b := 999) (skL s) 0
      exact this
    rw [e]
    cases goodK s <;> rfl
theorem e_spec_maGood (s : Sk) : F_spec_maGood [sk s] = some (.ret [B (goodK s)] []) := by
  rw [t_spec_maGood]
  have ha := e_spec_l1All (skL s) 1 999 (by simp [skL])
  have e : ((skL s).all fun x => decide (1 ≤ x ∧ x ≤ 999)) = goodK s := rfl
  rw [e] at ha
  simp -implicitDefEqProofs only [box5, fld5, Option.bind_some, e_spec_parts, callK_ret, sl_zero, ha]

/-! ### filings -/
def difL (a b : List Int) : List Int := List.zipWith (fun x y => x - y) a b
def geL (a b : List Int) : Bool := (List.zipWith (fun x y => decide (y ≤ x)) a b).all id
def canK (s t : Sk) : Bool := geL (skL s) (skL t) && decide (s.2.2.1 = t.2.2.1)
theorem difL_take {a b : List Int} (h : a.length = b.length) {i : Nat} (hi : i < a.length) : (difL a b).take (i + 1) = (difL a b).take i ++ [a[i] - b[i]'(by omega)] := by
  have hl : i < (difL a b).length := by simp [difL]; omega
  rw [List.take_succ_eq_append_getElem hl]
  simp [difL]
theorem geL_take {a b : List Int} (h : a.length = b.length) {i : Nat} (hi : i < a.length) : geL (a.take (i + 1)) (b.take (i + 1)) = (geL (a.take i) (b.take i) && decide (b[i]'(by omega) ≤ a[i])) := by
  unfold geL
  rw [List.take_succ_eq_append_getElem hi, List.take_succ_eq_append_getElem (show i < b.length by omega), List.zipWith_append (by simp; omega), List.all_append]
  simp
theorem ints_app {l : List Int} {n : Int} (h : l.length ≤ 1048576) : appD 1 8 (intsL l) (intsL [n]) = some (intsL (l ++ [n])) := by
  rw [appD_eq, if_pos (by simp; omega)]
  simp
theorem ints_one (n : Int) : mkArr 1 [I n] = some (intsL [n]) := mkInts (l := [n])
theorem ints_chk (l : List Int) : chkA (intsL l) = some (intsL l) := chkA_map (fun _ => rfl)
theorem gate_bool (b : Bool) (r : Option D) : gate (.tup []) (B b) true r = if b = true then r else some (.tup []) := by cases b <;> rfl
theorem e_impl_filings {s t : Sk} (hs : goodK s = true) (ht : goodK t = true) : F_impl_Strike_filings [sk s, sk t] = some (.ret [intsL (difL (skL s) (skL t)), B (canK s t)] []) := by
  rw [t_impl_Strike_filings]
  have hl : (skL s).length = 5 := rfl
  have hl2 : (skL t).length = 5 := rfl
  have hll : (skL s).length = (skL t).length := rfl
  have hd : (difL (skL s) (skL t)).length = 5 := rfl
  have hs' := goodK_in hs
  have ht' := goodK_in ht
  simp -implicitDefEqProofs only [box5, fld5, mkArr_nil, Option.bind_some, e_impl_parts, callK_ret, sl_zero, liveD_agg, atD_agg, List.drop_succ_cons, List.drop_zero, takeD_f, bin_eql, lenD_arr, List.length_map]
  unfold canK
  clear hs ht
  generalize decide (s.2.2.1 = t.2.2.1) = q
  generalize skL s = a at *
  generalize skL t = b at *
  refine loop_bind (.ext 0 [intsL (difL a b), B (geL a b && q)]) (loop_for a.length (fun i => [intsL ((difL a b).take i), intsL b, B (geL (a.take i) (b.take i) && q), intsL a, I a.length, I i]) _ (fun i hi => ?_) ?_ rfl ?_) ?_
  · have hi' : (i : Int) < (a.length : Int) := by omega
    have hw : IntKind.i64.wrap ((i : Int) + 1) = ((i + 1 : Nat) : Int) := by rw [wrap_id (by omega) (by omega)]; omega
    have i2 : i < b.length := by omega
    have h1 := hs' a[i] (List.getElem_mem hi)
    have h2 := ht' b[i] (List.getElem_mem i2)
    have e1 : elemD 1 (intsL a) (I (i : Int)) = some [I a[i]] := by simp [hi]
    have e2 : elemD 1 (intsL b) (I (i : Int)) = some [I b[i]] := by simp [i2]
    have hv : IntKind.i64.wrap (a[i] - b[i]) = a[i] - b[i] := wrap_id (by omega) (by omega)
    have hap := ints_app (l := (difL a b).take i) (n := a[i] - b[i]) (by rw [List.length_take]; omega)
    rw [← difL_take hll hi] at hap
    rw [geL_take hll hi]
    cases hb : (geL (a.take i) (b.take i) && q)
    · have e3 : (geL (a.take i) (b.take i) && decide (b[i] ≤ a[i]) && q) = false := by
        rw [Bool.and_right_comm, hb, Bool.false_and]
      rw [e3]
      simp -implicitDefEqProofs only [sl_zero, sl_succ, bin_lss, hi', decide_true, Option.bind_some, ifD_B, if_true, e1, e2, Option.map_some, ldD_ptr, takeD_f, chkV_v, bin_sub, hv, ints_one, ints_chk, hap, gate_bool, Bool.false_eq_true, if_false, pickD_B, bin_add, hw]
    · have e3 : (geL (a.take i) (b.take i) && decide (b[i] ≤ a[i]) && q) = decide (b[i] ≤ a[i]) := by
        rw [Bool.and_right_comm, hb, Bool.true_and]
      rw [e3]
      simp -implicitDefEqProofs only [sl_zero, sl_succ, bin_lss, hi', decide_true, Option.bind_some, ifD_B, if_true, e1, e2, Option.map_some, ldD_ptr, takeD_f, chkV_v, bin_sub, hv, ints_one, ints_chk, hap, gate_bool, bin_geq, ge_iff_le, pickD_B, bin_add, hw]
  · have hn : ¬ (a.length : Int) < (a.length : Int) := by omega
    have e1 : (difL a b).take a.length = difL a b := List.take_of_length_le (by omega)
    have e2 : a.take a.length = a := List.take_of_length_le (by omega)
    have e3 : b.take a.length = b := List.take_of_length_le (by omega)
    simp -implicitDefEqProofs only [sl_zero, sl_succ, bin_lss, hn, decide_false, Option.bind_some, ifD_B, Bool.false_eq_true, if_false, e1, e2, e3]
  · simp only [List.take_zero, geL, List.zipWith_nil_left, List.all_nil, Bool.true_and, List.map_nil]
    rfl
  · simp -implicitDefEqProofs only [outK_ext, Nat.beq_refl, ifN_B, if_true, sl_zero, sl_succ]
end Go.Proofs.YtlphibidnkjpdaaDoor
/-
  Strikes: filings, casts, files, centres, texts.
-/
namespace Go.Proofs.YtlphibidnkjpdaaDoor
open Go Go.V
set_option linter.unusedSimpArgs false

theorem allI_id : ∀ (l : List Bool) (i : Nat), allI (fun _ x => x) i l = l.all id
  | [], _ => rfl
  | x :: l, i => by simp only [allI, allI_id l, List.all_cons, id]
theorem e_spec_maCan {s t : Sk} : F_spec_maCan [sk s, sk t] = some (.ret [B (canK s t)] []) := by
  rw [t_spec_maCan]
  have hl : (skL s).length = 5 := rfl
  have hl2 : (skL t).length = 5 := rfl
  simp -implicitDefEqProofs only [box5, fld5, Option.bind_some, e_spec_parts, callK_ret, sl_zero, lenD_arr, List.length_map]
  unfold canK geL
  have hz : (List.zipWith (fun x y => decide (y ≤ x)) (skL s) (skL t)).length = 5 := rfl
  generalize hA : skL s = a at *
  generalize hB : skL t = b at *
  generalize hC : List.zipWith (fun x y => decide (y ≤ x)) a b = z at *
  refine loop_bind _ (loop_all z (fun i => [sk s, sk t, intsL b, intsL a, I a.length, I i]) (fun _ x => x) (.ret [B false] []) (.ext 0 [sk s, sk t]) (fun i hi => ?_) ?_ rfl rfl ?_) ?_
  · have h1 : i < a.length := by omega
    have h2 : i < b.length := by omega
    have hi' : (i : Int) < (a.length : Int) := by omega
    have hw : IntKind.i64.wrap ((i : Int) + 1) = ((i + 1 : Nat) : Int) := by rw [wrap_id (by omega) (by omega)]; omega
    have e1 : elemD 1 (intsL a) (I (i : Int)) = some [I a[i]] := by simp [h1]
    have e2 : elemD 1 (intsL b) (I (i : Int)) = some [I b[i]] := by simp [h2]
    have e3 : z[i] = decide (b[i] ≤ a[i]) := by subst hC; simp
    rw [e3]
    by_cases h : b[i] ≤ a[i]
    · have hn : ¬ a[i] < b[i] := by omega
      simp -implicitDefEqProofs only [sl_zero, sl_succ, bin_lss, hi', decide_true, Option.bind_some, ifD_B, if_true, e1, e2, Option.map_some, ldD_ptr, takeD_f, chkV_v, hn, decide_false, Bool.false_eq_true, if_false, bin_add, hw, h]
    · have hn : a[i] < b[i] := by omega
      simp -implicitDefEqProofs only [sl_zero, sl_succ, bin_lss, hi', decide_true, Option.bind_some, ifD_B, if_true, e1, e2, Option.map_some, ldD_ptr, takeD_f, chkV_v, hn, h, decide_false, Bool.false_eq_true, if_false]
  · have hn : ¬ ((z.length : Nat) : Int) < (a.length : Int) := by omega
    simp -implicitDefEqProofs only [sl_zero, sl_succ, bin_lss, hn, decide_false, Option.bind_some, ifD_B, Bool.false_eq_true, if_false]
  · rfl
  · rw [allI_id]
    by_cases h : z.all id = true
    · rw [if_pos h, h, Bool.true_and]
      simp -implicitDefEqProofs only [outK_ext, Nat.beq_refl, ifN_B, if_true, sl_zero, sl_succ, liveD_agg, Option.bind_some, atD_agg, List.drop_succ_cons, List.drop_zero, takeD_f, bin_eql]
    · rw [if_neg h]
      rw [Bool.not_eq_true] at h
      rw [h]
      rfl
theorem e_spec_maFilings {s t : Sk} (hs : goodK s = true) (ht : goodK t = true) : F_spec_maFilings [sk s, sk t] = some (.ret [intsL (difL (skL s) (skL t))] []) := by
  rw [t_spec_maFilings]
  have hl : (skL s).length = 5 := rfl
  have hl2 : (skL t).length = 5 := rfl
  have hll : (skL s).length = (skL t).length := rfl
  have hd : (difL (skL s) (skL t)).length = 5 := rfl
  have hs' := goodK_in hs
  have ht' := goodK_in ht
  simp -implicitDefEqProofs only [box5, fld5, Option.bind_some, e_spec_parts, callK_ret, sl_zero, lenD_arr, List.length_map]
  clear hs ht
  generalize skL s = a at *
  generalize skL t = b at *
  refine loop_bind (.ext 0 [intsL (difL a b)]) (loop_for a.length (fun i => [intsL ((difL a b).take i), intsL b, intsL a, I a.length, I i]) _ (fun i hi => ?_) ?_ rfl rfl) ?_
  · have hi' : (i : Int) < (a.length : Int) := by omega
    have hw : IntKind.i64.wrap ((i : Int) + 1) = ((i + 1 : Nat) : Int) := by rw [wrap_id (by omega) (by omega)]; omega
    have i2 : i < b.length := by omega
    have h1 := hs' a[i] (List.getElem_mem hi)
    have h2 := ht' b[i] (List.getElem_mem i2)
    have e1 : elemD 1 (intsL a) (I (i : Int)) = some [I a[i]] := by simp [hi]
    have e2 : elemD 1 (intsL b) (I (i : Int)) = some [I b[i]] := by simp [i2]
    have hv : IntKind.i64.wrap (a[i] - b[i]) = a[i] - b[i] := wrap_id (by omega) (by omega)
    have hap := ints_app (l := (difL a b).take i) (n := a[i] - b[i]) (by rw [List.length_take]; omega)
    rw [← difL_take hll hi] at hap
    simp -implicitDefEqProofs only [sl_zero, sl_succ, bin_lss, hi', decide_true, Option.bind_some, ifD_B, if_true, e1, e2, Option.map_some, ldD_ptr, takeD_f, chkV_v, bin_sub, hv, ints_one, ints_chk, hap, bin_add, hw]
  · have hn : ¬ (a.length : Int) < (a.length : Int) := by omega
    have e1 : (difL a b).take a.length = difL a b := List.take_of_length_le (by omega)
    simp -implicitDefEqProofs only [sl_zero, sl_succ, bin_lss, hn, decide_false, Option.bind_some, ifD_B, Bool.false_eq_true, if_false, e1]
  · simp -implicitDefEqProofs only [outK_ext, Nat.beq_refl, ifN_B, if_true, sl_zero, sl_succ]
theorem tpL (l : List Int) (ds : List D) : tupAt (.tup (intsL l :: ds)) 0 = some (intsL l) := rfl
theorem tpC1 (a : D) (v : Value) (ds : List D) : tupAt (tupCut (.tup (a :: .v v :: ds)) 0) 1 = some (.v v) := rfl
def bothK (s t : Sk) : Bool := goodK s && goodK t
def filB (s t : Sk) : Bool := bothK s t && canK s t
def filR (s t : Sk) : List Int := if filB s t = true then difL (skL s) (skL t) else []
theorem e_impl_FilingsFor (s t : Sk) : F_impl_FilingsFor [sk s, sk t] = some (.ret [intsL (filR s t), B (filB s t)] []) := by
  rw [t_impl_FilingsFor]
  cases h1 : goodK s
  · simp -implicitDefEqProofs [e_impl_IsStrike, h1, filR, filB, bothK, mkArr_nil]
  cases h2 : goodK t
  · simp -implicitDefEqProofs [e_impl_IsStrike, h1, h2, filR, filB, bothK, mkArr_nil]
  have e := e_impl_filings h1 h2
  simp -implicitDefEqProofs only [box5, fld5, Option.bind_some, e_impl_IsStrike, h1, h2, callK_ret, sl_zero, un_not, Bool.not_true, gate_f, Bool.false_eq_true, if_false, gateC_f, nrmK_some, pickD_B, ifD_B, e, tpL, tpC1]
  cases h3 : canK s t <;> simp -implicitDefEqProofs [filR, filB, bothK, h1, h2, h3, mkArr_nil]
theorem e_spec_FilingsFor (s t : Sk) : F_spec_FilingsFor [sk s, sk t] = some (.ret [intsL (filR s t), B (filB s t)] []) := by
  rw [t_spec_FilingsFor]
  cases h1 : goodK s
  · simp -implicitDefEqProofs [e_spec_maGood, h1, filR, filB, bothK]
  cases h2 : goodK t
  · simp -implicitDefEqProofs [e_spec_maGood, h1, h2, filR, filB, bothK]
  have e := e_spec_maFilings h1 h2
  cases h3 : canK s t
  · simp -implicitDefEqProofs only [box5, fld5, Option.bind_some, e_spec_maGood, h1, h2, callK_ret, sl_zero, un_not, Bool.not_true, Bool.not_false, gate_f, Bool.false_eq_true, if_false, if_true, gateC_f, nrmK_some, pickD_B, ifD_B, e_spec_maCan, h3, filR, filB, bothK, Bool.and_false, Bool.and_self]
    rfl
  · simp -implicitDefEqProofs only [box5, fld5, Option.bind_some, e_spec_maGood, h1, h2, callK_ret, sl_zero, un_not, Bool.not_true, gate_f, Bool.false_eq_true, if_false, if_true, gateC_f, nrmK_some, pickD_B, ifD_B, e_spec_maCan, h3, e, filR, filB, bothK, Bool.and_self]
theorem e_impl_CanBeJustified (s t : Sk) : F_impl_CanBeJustified [sk s, sk t] = some (.ret [B (filB s t), B (bothK s t)] []) := by
  rw [t_impl_CanBeJustified]
  cases h1 : goodK s
  · simp -implicitDefEqProofs [e_impl_IsStrike, h1, filB, bothK]
  cases h2 : goodK t
  · simp -implicitDefEqProofs [e_impl_IsStrike, h1, h2, filB, bothK]
  have e := e_impl_filings h1 h2
  simp -implicitDefEqProofs only [box5, fld5, Option.bind_some, e_impl_IsStrike, h1, h2, callK_ret, sl_zero, un_not, Bool.not_true, gate_f, Bool.false_eq_true, if_false, gateC_f, nrmK_some, pickD_B, ifD_B, e, tpL, tpC1, filB, bothK, Bool.and_self, Bool.true_and]
theorem e_spec_CanBeJustified (s t : Sk) : F_spec_CanBeJustified [sk s, sk t] = some (.ret [B (filB s t), B (bothK s t)] []) := by
  rw [t_spec_CanBeJustified]
  cases h1 : goodK s
  · simp -implicitDefEqProofs [e_spec_maGood, h1, filB, bothK]
  cases h2 : goodK t
  · simp -implicitDefEqProofs [e_spec_maGood, h1, h2, filB, bothK]
  simp -implicitDefEqProofs only [box5, fld5, Option.bind_some, e_spec_maGood, h1, h2, callK_ret, sl_zero, un_not, Bool.not_true, gate_f, Bool.false_eq_true, if_false, gateC_f, nrmK_some, pickD_B, ifD_B, e_spec_maCan, filB, bothK, Bool.and_self, Bool.true_and]
theorem e_laws_sameInts (l : List Int) (h : l.length ≤ 1048576) : F_laws_sameInts [intsL l, intsL l] = some (.ret [B true] []) := by
  rw [t_laws_sameInts]
  simp only [lenD_arr, List.length_map, Option.bind_some, bin_neq, decide_true, Bool.not_true, ifD_B, Bool.false_eq_true, if_false]
  refine loop_bind (.ext 0 []) (loop_for l.length (fun i => [intsL l, intsL l, I l.length, I i]) _ (fun i hi => ?_) ?_ rfl rfl) ?_
  · have hw : IntKind.i64.wrap ((i : Int) + 1) = (i : Int) + 1 := wrap_id (by omega) (by omega)
    simp -implicitDefEqProofs [hi, hw]
  · simp
  · simp
/-! ### casts -/
theorem e_spec_l1Least (a b : Int) : F_spec_l1Least [I a, I b] = some (.ret [I (if a < b then a else b)] []) := by
  rw [t_spec_l1Least]
  by_cases h : a < b <;> simp [h]
def casB (u v : Sk) (m : Int) : Bool := bothK u v && decide (0 ≤ m ∧ m ≤ 999) && decide (u.1 - v.1 ≤ m)
def casX (u v : Sk) (m : Int) : Int := 1000 * (v.1 + m - u.1) + 999
def casN (u v : Sk) (m : Int) : Int := if casB u v m = true then (if casX u v m < 1000000 then casX u v m else 1000000) else 0
theorem minD_I (a b : Int) : minD (I a) (I b) = some (I (if b < a then b else a)) := rfl
theorem e_impl_CastsLeft (u v : Sk) (m : Int) : F_impl_CastsLeft [sk u, sk v, I m] = some (.ret [I (casN u v m), B (casB u v m)] []) := by
  rw [t_impl_CastsLeft]
  cases h1 : goodK u
  · simp -implicitDefEqProofs [e_impl_IsStrike, h1, casN, casB, bothK]
  cases h2 : goodK v
  · simp -implicitDefEqProofs [e_impl_IsStrike, h1, h2, casN, casB, bothK]
  by_cases h3 : 0 ≤ m ∧ m ≤ 999
  case neg => simp -implicitDefEqProofs [e_impl_IsStrike, e_impl_within, h1, h2, h3, casN, casB, bothK]
  have a1 := (goodK_iff.1 h1).1
  have a2 := (goodK_iff.1 h2).1
  have w1 : IntKind.i64.wrap (m + v.1) = m + v.1 := wrap_id (by omega) (by omega)
  have w2 : IntKind.i64.wrap (m + v.1 - u.1) = m + v.1 - u.1 := wrap_id (by omega) (by omega)
  have w3 : IntKind.i64.wrap (1000 * (m + v.1 - u.1)) = 1000 * (m + v.1 - u.1) := wrap_id (by omega) (by omega)
  have w4 : IntKind.i64.wrap (1000 * (m + v.1 - u.1) + 999) = casX u v m := by rw [wrap_id (by omega) (by omega)]; unfold casX; omega
  by_cases h4 : u.1 - v.1 ≤ m
  · have h5 : ¬ m + v.1 - u.1 < 0 := by omega
    have hb : casB u v m = true := by simp only [casB, bothK, h1, h2, h3, h4, and_self, decide_true, Bool.and_self]
    have hn : casN u v m = (if casX u v m < 1000000 then casX u v m else 1000000) := by simp only [casN, hb, if_true]
    rw [hb, hn]
    simp -implicitDefEqProofs only [box5, fld5, Option.bind_some, liveD_agg, atD_agg, List.drop_zero, takeD_f, bin_add, w1, bin_sub, w2, e_impl_IsStrike, h1, h2, callK_ret, sl_zero, un_not, Bool.not_true, gate_f, Bool.false_eq_true, if_false, gateC_f, nrmK_some, pickD_B, e_impl_within, h3, and_self, decide_true, bin_lss, h5, decide_false, ifD_B, bin_mul, w3, w4, minD_I]
  · have h5 : m + v.1 - u.1 < 0 := by omega
    have hb : casB u v m = false := by simp only [casB, h4, decide_false, Bool.and_false]
    have hn : casN u v m = 0 := by simp only [casN, hb, Bool.false_eq_true, if_false]
    rw [hb, hn]
    simp -implicitDefEqProofs only [box5, fld5, Option.bind_some, liveD_agg, atD_agg, List.drop_zero, takeD_f, bin_add, w1, bin_sub, w2, e_impl_IsStrike, h1, h2, callK_ret, sl_zero, un_not, Bool.not_true, gate_f, Bool.false_eq_true, if_false, if_true, gateC_f, nrmK_some, pickD_B, e_impl_within, h3, and_self, decide_true, bin_lss, h5, ifD_B]
theorem e_spec_CastsLeft (u v : Sk) (m : Int) : F_spec_CastsLeft [sk u, sk v, I m] = some (.ret [I (casN u v m), B (casB u v m)] []) := by
  rw [t_spec_CastsLeft]
  cases h1 : goodK u
  · simp -implicitDefEqProofs [e_spec_maGood, h1, casN, casB, bothK]
  cases h2 : goodK v
  · simp -implicitDefEqProofs [e_spec_maGood, h1, h2, casN, casB, bothK]
  by_cases h3 : 0 ≤ m ∧ m ≤ 999
  case neg => simp -implicitDefEqProofs [e_spec_maGood, e_spec_l1In, h1, h2, h3, casN, casB, bothK]
  have a1 := (goodK_iff.1 h1).1
  have a2 := (goodK_iff.1 h2).1
  have w0 : IntKind.i64.wrap (u.1 - v.1) = u.1 - v.1 := wrap_id (by omega) (by omega)
  have w1 : IntKind.i64.wrap (v.1 + m) = v.1 + m := wrap_id (by omega) (by omega)
  have w2 : IntKind.i64.wrap (v.1 + m - u.1) = v.1 + m - u.1 := wrap_id (by omega) (by omega)
  have w3 : IntKind.i64.wrap (1000 * (v.1 + m - u.1)) = 1000 * (v.1 + m - u.1) := wrap_id (by omega) (by omega)
  have w4 : IntKind.i64.wrap (1000 * (v.1 + m - u.1) + 999) = casX u v m := by rw [wrap_id (by omega) (by omega)]; rfl
  by_cases h4 : u.1 - v.1 ≤ m
  · have h5 : ¬ m < u.1 - v.1 := by omega
    have hb : casB u v m = true := by simp only [casB, bothK, h1, h2, h3, h4, and_self, decide_true, Bool.and_self]
    have hn : casN u v m = (if 1000000 < casX u v m then 1000000 else casX u v m) := by
      simp only [casN, hb, if_true]
      split <;> split <;> omega
    rw [hb, hn]
    simp -implicitDefEqProofs only [box5, fld5, Option.bind_some, liveD_agg, atD_agg, List.drop_zero, takeD_f, bin_add, w0, w1, bin_sub, w2, e_spec_maGood, h1, h2, callK_ret, sl_zero, un_not, Bool.not_true, gate_f, Bool.false_eq_true, if_false, gateC_f, nrmK_some, pickD_B, e_spec_l1In, h3, and_self, decide_true, bin_gtr, h5, decide_false, ifD_B, bin_mul, w3, w4, e_spec_l1Least]
  · have h5 : m < u.1 - v.1 := by omega
    have hb : casB u v m = false := by simp only [casB, h4, decide_false, Bool.and_false]
    have hn : casN u v m = 0 := by simp only [casN, hb, Bool.false_eq_true, if_false]
    rw [hb, hn]
    simp -implicitDefEqProofs only [box5, fld5, Option.bind_some, liveD_agg, atD_agg, List.drop_zero, takeD_f, w0, bin_sub, e_spec_maGood, h1, h2, callK_ret, sl_zero, un_not, Bool.not_true, gate_f, Bool.false_eq_true, if_false, if_true, gateC_f, nrmK_some, pickD_B, e_spec_l1In, h3, and_self, decide_true, bin_gtr, h5, ifD_B]
def depB (s : Sk) (n : Int) : Bool := goodK s && decide (0 ≤ n ∧ n ≤ 1000000)
theorem e_impl_DepthAfter (s : Sk) (n : Int) : F_impl_DepthAfter [sk s, I n] = some (.ret [I (if depB s n = true then s.1 + n.tdiv 1000 else 0), B (depB s n)] []) := by
  rw [t_impl_DepthAfter]
  cases h1 : goodK s
  · simp -implicitDefEqProofs [e_impl_IsStrike, h1, depB]
  by_cases h3 : 0 ≤ n ∧ n ≤ 1000000
  case neg => simp -implicitDefEqProofs [e_impl_IsStrike, e_impl_within, h1, h3, depB]
  have a1 := (goodK_iff.1 h1).1
  have hq : 0 ≤ n.tdiv 1000 ∧ n.tdiv 1000 ≤ 1000 := by rw [Int.tdiv_eq_ediv_of_nonneg h3.1]; omega
  have w1 : IntKind.i64.wrap (n.tdiv 1000) = n.tdiv 1000 := wrap_id (by omega) (by omega)
  have w2 : IntKind.i64.wrap (s.1 + n.tdiv 1000) = s.1 + n.tdiv 1000 := wrap_id (by omega) (by omega)
  simp -implicitDefEqProofs [e_impl_IsStrike, e_impl_within, h1, h3, depB, w1, w2]
/-! ### files, centres -/
def ofL (l : List Int) : Sk := (l.getD 0 0, l.getD 1 0, l.getD 2 0, l.getD 3 0, l.getD 4 0)
theorem e_impl_strikeOf (a b c d e : Int) : F_impl_strikeOf [intsL [a, b, c, d, e]] = some (.ret [sk (a, b, c, d, e)] []) := by
  rw [t_impl_strikeOf]
  have e0 : elemD 1 (intsL [a, b, c, d, e]) (I 0) = some [I a] := rfl
  have e1 : elemD 1 (intsL [a, b, c, d, e]) (I 1) = some [I b] := rfl
  have e2 : elemD 1 (intsL [a, b, c, d, e]) (I 2) = some [I c] := rfl
  have e3 : elemD 1 (intsL [a, b, c, d, e]) (I 3) = some [I d] := rfl
  have e4 : elemD 1 (intsL [a, b, c, d, e]) (I 4) = some [I e] := rfl
  simp -implicitDefEqProofs only [e0, e1, e2, e3, e4, Option.map_some, Option.bind_some, ldD_ptr, takeD_f, chkV_v, bld5, st5, fld5]
theorem e_spec_maOf (a b c d e : Int) : F_spec_maOf [intsL [a, b, c, d, e]] = some (.ret [sk (a, b, c, d, e)] []) := by
  rw [t_spec_maOf]
  have e0 : elemD 1 (intsL [a, b, c, d, e]) (I 0) = some [I a] := rfl
  have e1 : elemD 1 (intsL [a, b, c, d, e]) (I 1) = some [I b] := rfl
  have e2 : elemD 1 (intsL [a, b, c, d, e]) (I 2) = some [I c] := rfl
  have e3 : elemD 1 (intsL [a, b, c, d, e]) (I 3) = some [I d] := rfl
  have e4 : elemD 1 (intsL [a, b, c, d, e]) (I 4) = some [I e] := rfl
  simp -implicitDefEqProofs only [e0, e1, e2, e3, e4, Option.map_some, Option.bind_some, ldD_ptr, takeD_f, chkV_v, bld5, st5, fld5]
def fiK (s : Sk) (p b : Int) : Sk := ofL ((skL s).set p.toNat ((skL s).getD p.toNat 0 - b))
def fiB (s : Sk) (p b : Int) : Bool := goodK s && decide (0 ≤ p ∧ p ≤ 4) && !decide (p = 2) && decide (1 ≤ b ∧ b ≤ 999) && goodK (fiK s p b)
def fiR (s : Sk) (p b : Int) : Sk := if fiB s p b = true then fiK s p b else k0
theorem fi_run (s : Sk) (h1 : goodK s = true) (p b : Int) (h2 : 0 ≤ p ∧ p ≤ 4) (h4 : 1 ≤ b ∧ b ≤ 999) : ∃ x v : Int, ∃ m : List Int,
    refI 1 (intsL (skL s)) (I p) = some (.ref p.toNat 0) ∧ ((atD (intsL (skL s)) (.ref p.toNat 0)).bind (takeD false 1)) = some (I x) ∧ IntKind.i64.wrap (x - b) = v ∧ stD 1 (intsL (skL s)) (.ref p.toNat 0) (I v) = some (intsL m) ∧
    F_impl_strikeOf [intsL m] = some (.ret [sk (fiK s p b)] []) ∧ F_spec_maOf [intsL m] = some (.ret [sk (fiK s p b)] []) := by
  obtain ⟨g1, g2, g3, g4, g5⟩ := goodK_iff.1 h1
  have hp : p = 0 ∨ p = 1 ∨ p = 2 ∨ p = 3 ∨ p = 4 := by omega
  rcases hp with rfl | rfl | rfl | rfl | rfl
  · exact ⟨s.1, s.1 - b, [s.1 - b, s.2.1, s.2.2.1, s.2.2.2.1, s.2.2.2.2], rfl, rfl, wrap_id (by omega) (by omega), rfl, e_impl_strikeOf _ _ _ _ _, e_spec_maOf _ _ _ _ _⟩
  · exact ⟨s.2.1, s.2.1 - b, [s.1, s.2.1 - b, s.2.2.1, s.2.2.2.1, s.2.2.2.2], rfl, rfl, wrap_id (by omega) (by omega), rfl, e_impl_strikeOf _ _ _ _ _, e_spec_maOf _ _ _ _ _⟩
  · exact ⟨s.2.2.1, s.2.2.1 - b, [s.1, s.2.1, s.2.2.1 - b, s.2.2.2.1, s.2.2.2.2], rfl, rfl, wrap_id (by omega) (by omega), rfl, e_impl_strikeOf _ _ _ _ _, e_spec_maOf _ _ _ _ _⟩
  · exact ⟨s.2.2.2.1, s.2.2.2.1 - b, [s.1, s.2.1, s.2.2.1, s.2.2.2.1 - b, s.2.2.2.2], rfl, rfl, wrap_id (by omega) (by omega), rfl, e_impl_strikeOf _ _ _ _ _, e_spec_maOf _ _ _ _ _⟩
  · exact ⟨s.2.2.2.2, s.2.2.2.2 - b, [s.1, s.2.1, s.2.2.1, s.2.2.2.1, s.2.2.2.2 - b], rfl, rfl, wrap_id (by omega) (by omega), rfl, e_impl_strikeOf _ _ _ _ _, e_spec_maOf _ _ _ _ _⟩
theorem e_impl_FileStrike (s : Sk) (p b : Int) : F_impl_FileStrike [sk s, I p, I b] = some (.ret [sk (fiR s p b), B (fiB s p b)] []) := by
  rw [t_impl_FileStrike]
  cases h1 : goodK s
  · simp -implicitDefEqProofs [e_impl_IsStrike, h1, fiR, fiB, bldk0]
  by_cases h2 : 0 ≤ p ∧ p ≤ 4
  case neg => simp -implicitDefEqProofs [e_impl_IsStrike, e_impl_within, h1, h2, fiR, fiB, bldk0]
  by_cases h3 : p = 2
  · subst h3
    simp -implicitDefEqProofs [e_impl_IsStrike, e_impl_within, h1, fiR, fiB, bldk0]
  by_cases h4 : 1 ≤ b ∧ b ≤ 999
  case neg => simp -implicitDefEqProofs [e_impl_IsStrike, e_impl_within, h1, h2, h3, h4, fiR, fiB, bldk0]
  obtain ⟨x, v, m, r1, r2, r3, r4, r5, _⟩ := fi_run s h1 p b h2 h4
  have hb : fiB s p b = goodK (fiK s p b) := by simp only [fiB, h1, h2, h3, h4, and_self, decide_true, decide_false, Bool.not_false, Bool.and_self, Bool.true_and]
  have hr : fiR s p b = if goodK (fiK s p b) = true then fiK s p b else k0 := by simp only [fiR, hb]
  rw [hb, hr]
  simp -implicitDefEqProofs only [box5, fld5, Option.bind_some, e_impl_IsStrike, h1, callK_ret, sl_zero, un_not, Bool.not_true, gate_f, Bool.false_eq_true, if_false, gateC_f, nrmK_some, pickD_B, e_impl_within, h2, h4, and_self, decide_true, bin_eql, h3, decide_false, ifD_B, e_impl_parts, liveD_arr, liveD_ref, r1, r2, bin_sub, r3, r4, r5, st5]
  cases goodK (fiK s p b) <;> simp -implicitDefEqProofs [bldk0]
theorem e_spec_FileStrike (s : Sk) (p b : Int) : F_spec_FileStrike [sk s, I p, I b] = some (.ret [sk (fiR s p b), B (fiB s p b)] []) := by
  rw [t_spec_FileStrike]
  cases h1 : goodK s
  · simp -implicitDefEqProofs [e_spec_maGood, h1, fiR, fiB, bldk0]
  by_cases h2 : 0 ≤ p ∧ p ≤ 4
  case neg => simp -implicitDefEqProofs [e_spec_maGood, e_spec_l1In, h1, h2, fiR, fiB, bldk0]
  by_cases h3 : p = 2
  · subst h3
    simp -implicitDefEqProofs [e_spec_maGood, e_spec_l1In, h1, fiR, fiB, bldk0]
  by_cases h4 : 1 ≤ b ∧ b ≤ 999
  case neg => simp -implicitDefEqProofs [e_spec_maGood, e_spec_l1In, h1, h2, h3, h4, fiR, fiB, bldk0]
  obtain ⟨x, v, m, r1, r2, r3, r4, _, r5⟩ := fi_run s h1 p b h2 h4
  have hb : fiB s p b = goodK (fiK s p b) := by simp only [fiB, h1, h2, h3, h4, and_self, decide_true, decide_false, Bool.not_false, Bool.and_self, Bool.true_and]
  have hr : fiR s p b = if goodK (fiK s p b) = true then fiK s p b else k0 := by simp only [fiR, hb]
  rw [hb, hr]
  simp -implicitDefEqProofs only [box5, fld5, Option.bind_some, e_spec_maGood, h1, callK_ret, sl_zero, un_not, Bool.not_true, gate_f, Bool.false_eq_true, if_false, gateC_f, nrmK_some, pickD_B, e_spec_l1In, h2, h4, and_self, decide_true, bin_eql, h3, decide_false, ifD_B, e_spec_parts, liveD_arr, liveD_ref, r1, r2, bin_sub, r3, r4, r5, st5]
  cases goodK (fiK s p b) <;> simp -implicitDefEqProofs [bldk0]
def ceK (s : Sk) : Sk := (s.1, (if s.2.2.2.1 < s.2.1 then s.2.2.2.1 else s.2.1), s.2.2.1, (if s.2.2.2.1 < s.2.1 then s.2.2.2.1 else s.2.1), s.2.2.2.2)
def ceR (s : Sk) : Sk := if goodK s = true then ceK s else k0
theorem e_impl_CentreStrike (s : Sk) : F_impl_CentreStrike [sk s] = some (.ret [sk (ceR s), B (goodK s)] []) := by
  rw [t_impl_CentreStrike]
  cases h1 : goodK s
  · simp -implicitDefEqProofs [e_impl_IsStrike, h1, ceR, bldk0]
  · simp -implicitDefEqProofs [e_impl_IsStrike, h1, ceR, ceK, minD_I]
theorem e_spec_CentreStrike (s : Sk) : F_spec_CentreStrike [sk s] = some (.ret [sk (ceR s), B (goodK s)] []) := by
  rw [t_spec_CentreStrike]
  cases h1 : goodK s
  · simp -implicitDefEqProofs [e_spec_maGood, h1, ceR, bldk0]
  · have e : (if s.2.1 < s.2.2.2.1 then s.2.1 else s.2.2.2.1) = (if s.2.2.2.1 < s.2.1 then s.2.2.2.1 else s.2.1) := by split <;> split <;> omega
    simp -implicitDefEqProofs [e_spec_maGood, h1, ceR, ceK, e_spec_l1Least, e]
theorem e_impl_WidthOfStrike (s : Sk) : F_impl_WidthOfStrike [sk s] = some (.ret [I (if goodK s = true then s.2.1 + s.2.2.1 + s.2.2.2.1 else 0), B (goodK s)] []) := by
  rw [t_impl_WidthOfStrike]
  cases h1 : goodK s
  · simp -implicitDefEqProofs [e_impl_IsStrike, h1]
  · obtain ⟨g1, g2, g3, g4, g5⟩ := goodK_iff.1 h1
    have w1 : IntKind.i64.wrap (s.2.1 + s.2.2.1) = s.2.1 + s.2.2.1 := wrap_id (by omega) (by omega)
    have w2 : IntKind.i64.wrap (s.2.1 + s.2.2.1 + s.2.2.2.1) = s.2.1 + s.2.2.1 + s.2.2.2.1 := wrap_id (by omega) (by omega)
    simp -implicitDefEqProofs [e_impl_IsStrike, h1, w1, w2]
end Go.Proofs.YtlphibidnkjpdaaDoor
/-
  Strikes: texts, draws.
-/
namespace Go.Proofs.YtlphibidnkjpdaaDoor
open Go Go.V
set_option linter.unusedSimpArgs false

theorem joinL_snoc (c : UInt8) (w : List UInt8) : ∀ (ws : List (List UInt8)), ws ≠ [] → joinL c (ws ++ [w]) = joinL c ws ++ c :: w
  | [], h => absurd rfl h
  | [a], _ => rfl
  | a :: b :: l, _ => by
    have ih := joinL_snoc c w (b :: l) (by simp)
    have h1 : joinL c ((a :: b :: l) ++ [w]) = a ++ c :: joinL c ((b :: l) ++ [w]) := rfl
    have h2 : joinL c (a :: b :: l) = a ++ c :: joinL c (b :: l) := rfl
    rw [h1, h2, ih]
    simp
theorem numsJ_one (c : UInt8) (n : Int) : numsJ c [n] = intT n := chars_inj (by rw [chars_numsJ]; rfl)
theorem numsJ_snoc (c : UInt8) (ns : List Int) (n : Int) (h : ns ≠ []) : numsJ c (ns ++ [n]) = numsJ c ns ++ ⟨#[c]⟩ ++ intT n := by
  apply chars_inj
  rw [chars_numsJ, List.map_append, List.map_cons, List.map_nil, joinL_snoc _ _ _ (by simpa using h), chars_append, chars_append, chars_numsJ, show chars ⟨#[c]⟩ = [c] from rfl]
  simp
def skT (s : Sk) : ByteArray := numsJ 47 (skL s)
theorem skL_in {s : Sk} (h : goodK s = true) : ∀ n ∈ skL s, 0 ≤ n ∧ n < 1000000 := fun n hn => by have := goodK_in h n hn; omega
theorem skT_size {s : Sk} (h : goodK s = true) : (skT s).size ≤ 100 := by
  have := numsJ_size (c := 47) (ns := skL s) fun n hn => by have := skL_in h n hn; omega
  exact Nat.le_trans this (by simp [skL])
theorem e_impl_StrikeText (s : Sk) : F_impl_StrikeText [sk s] = some (.ret [T (if goodK s = true then skT s else ⟨#[]⟩), B (goodK s)] []) := by
  rw [t_impl_StrikeText]
  cases hg : goodK s
  · simp -implicitDefEqProofs [e_impl_IsStrike, hg]
  · have hj := e_impl_join (skL s) 47 (fun n hn => by have := skL_in hg n hn; omega) (by simp [skL])
    have e : (D.v (Value.string { data := { toList := [47] } })) = T ⟨#[47]⟩ := rfl
    simp -implicitDefEqProofs only [box5, fld5, Option.bind_some, e_impl_IsStrike, hg, callK_ret, sl_zero, un_not, Bool.not_true, ifD_B, Bool.false_eq_true, if_false, if_true, e_impl_parts, e, hj, skT]
theorem e_spec_maText {s : Sk} (h : goodK s = true) : F_spec_maText [sk s] = some (.ret [T (skT s)] []) := by
  rw [t_spec_maText]
  have hin := skL_in h
  have hl : (skL s).length = 5 := rfl
  have e : (D.v (Value.string { data := { toList := [47] } })) = T ⟨#[47]⟩ := rfl
  have e0 : (D.v (Value.string { data := { toList := [] } })) = T ⟨#[]⟩ := rfl
  simp -implicitDefEqProofs only [box5, fld5, Option.bind_some, e_spec_parts, callK_ret, sl_zero, lenD_arr, List.length_map, e, e0]
  unfold skT
  generalize skL s = ns at hin hl
  refine loop_bind _ (loop_for ns.length (fun i => [T (numsJ 47 (ns.take i)), intsL ns, I ns.length, I i]) (.ext 0 [T (numsJ 47 ns)]) (fun i hi => ?_) ?_ rfl rfl) ?_
  · have hi' : (i : Int) < (ns.length : Int) := by omega
    have hw : IntKind.i64.wrap ((i : Int) + 1) = ((i + 1 : Nat) : Int) := by rw [wrap_id (by omega) (by omega)]; omega
    have hx := hin ns[i] (List.getElem_mem hi)
    have hel : elemD 1 (intsL ns) (I (i : Int)) = some [I ns[i]] := by simp [hi]
    have hn := e_spec_l1Num (n := ns[i]) (by omega) (by omega)
    have htk : ns.take (i + 1) = ns.take i ++ [ns[i]] := List.take_succ_eq_append_getElem hi
    have z1 := numsJ_size (c := 47) (ns := ns.take i) fun n hn => by have := hin n (List.mem_of_mem_take hn); omega
    have z1' : (ns.take i).length ≤ 5 := by rw [List.length_take]; omega
    have z2 := intT_size 9 (n := ns[i]) (by omega) (by omega)
    show _ = some (Out.nrm [T (numsJ 47 (ns.take (i + 1))), intsL ns, I ns.length, I ((i + 1 : Nat) : Int)])
    by_cases h0 : i = 0
    · subst h0
      have hg : ¬ (0 : Int) < ((0 : Nat) : Int) := by omega
      rw [htk, List.take_zero, List.nil_append, numsJ_one]
      have a1 : bin .add false [] (T (numsJ 47 [])) (T (intT ns[0])) = some (T (intT ns[0])) := by
        rw [addS (by simp only [show (numsJ 47 []).size = 0 from rfl]; omega)]
        congr 2
      simp -implicitDefEqProofs only [sl_zero, sl_succ, bin_lss, hi', decide_true, Option.bind_some, ifD_B, if_true, hel, Option.map_some, ldD_ptr, takeD_f, chkV_v, bin_gtr, hg, decide_false, Bool.false_eq_true, if_false, hn, callK_ret, a1, bin_add, hw]
    · have hg : (0 : Int) < (i : Int) := by omega
      have hne : ns.take i ≠ [] := fun e => by
        have := congrArg List.length e
        rw [List.length_take, List.length_nil] at this
        omega
      rw [htk, numsJ_snoc _ _ _ hne]
      have s1 : (⟨#[47]⟩ : ByteArray).size = 1 := rfl
      have a1 := addS (a := numsJ 47 (ns.take i)) (b := ⟨#[47]⟩) (bl := false) (eq := []) (by omega)
      have a2 := addS (a := numsJ 47 (ns.take i) ++ ⟨#[47]⟩) (b := intT ns[i]) (bl := false) (eq := []) (by rw [ByteArray.size_append]; omega)
      simp -implicitDefEqProofs only [sl_zero, sl_succ, bin_lss, hi', decide_true, Option.bind_some, ifD_B, if_true, hel, Option.map_some, ldD_ptr, takeD_f, chkV_v, bin_gtr, hg, hn, callK_ret, a1, a2, bin_add, hw]
  · simp
  · simp
theorem e_spec_StrikeText (s : Sk) : F_spec_StrikeText [sk s] = some (.ret [T (if goodK s = true then skT s else ⟨#[]⟩), B (goodK s)] []) := by
  rw [t_spec_StrikeText]
  cases hg : goodK s
  · simp -implicitDefEqProofs [e_spec_maGood, hg]
  · simp -implicitDefEqProofs [e_spec_maGood, hg, e_spec_maText hg]
/-! ### strikes read out of texts -/
def okK (ns : List Int) : Bool :=
  match ns with
  | [a, b, c, d, e] => goodK (a, b, c, d, e)
  | _ => false
theorem okK_in (ns : List Int) (h : okK ns = true) : ∀ n ∈ ns, 0 ≤ n ∧ n < 1000000 := by
  unfold okK at h
  split at h
  · exact skL_in h
  · cases h
def skO (o : Option (List Int)) : Sk :=
  match o with
  | some [a, b, c, d, e] => (a, b, c, d, e)
  | _ => k0
abbrev pK (s : ByteArray) : Option (List Int) := parseI 47 5 okK s
theorem pK_eq (s : ByteArray) : parseS readT 47 5 okK s = pK s := (parse_eq reads_T (by decide) (by decide) okK_in (by decide) s).symm
theorem pK_T {s : Sk} (h : goodK s = true) : pK (skT s) = some (skL s) := parseI_J reads_T (by decide) (by decide) okK_in (ns := skL s) h rfl
theorem e_impl_ParseStrike (s : ByteArray) (h : s.size ≤ 1048576) : F_impl_ParseStrike [T s] = some (.ret [sk (skO (pK s)), B (pK s).isSome] []) := by
  rw [t_impl_ParseStrike, e_impl_numbersIn s h]
  have hany := numsT_any s
  unfold pK parseI
  generalize numsT s = ns at hany
  have e47 : (D.v (Value.string { data := { toList := [47] } })) = T ⟨#[47]⟩ := rfl
  rcases ns with _ | ⟨a, _ | ⟨b, _ | ⟨c, _ | ⟨d, _ | ⟨e, _ | ⟨f, ns⟩⟩⟩⟩⟩⟩
  · simp -implicitDefEqProofs [skO, bldk0]
  · simp -implicitDefEqProofs [skO, bldk0]
  · simp -implicitDefEqProofs [skO, bldk0]
  · simp -implicitDefEqProofs [skO, bldk0]
  · simp -implicitDefEqProofs [skO, bldk0]
  · have hj := e_impl_joinA [a, b, c, d, e] 47 hany (by simp)
    have ho := e_impl_strikeOf a b c d e
    have hi := e_impl_IsStrike (a, b, c, d, e)
    have hk : okK [a, b, c, d, e] = goodK (a, b, c, d, e) := rfl
    have hq : (([a, b, c, d, e].map I).length : Int) = 5 := rfl
    by_cases h2 : numsJ 47 [a, b, c, d, e] = s
    · subst h2
      have hne : bin .neq false [] (T (numsJ 47 [a, b, c, d, e])) (T (numsJ 47 [a, b, c, d, e])) = some (B false) := by simp
      cases h1 : goodK (a, b, c, d, e)
      · rw [h1] at hi hk
        simp -implicitDefEqProofs only [callK_ret, sl_zero, lenD_arr, hq, bin_neq, decide_true, Bool.not_true, Option.bind_some, gate_f, Bool.false_eq_true, if_false, e47, hj, gateC_f, nrmK_some, hne, pickD_B, ho, hi, un_not, Bool.not_false, ifD_B, if_true, bldk0, st5, fld5, hk, false_and, and_false, skO, Option.isSome_none]
      · rw [h1] at hi hk
        simp -implicitDefEqProofs only [callK_ret, sl_zero, lenD_arr, hq, bin_neq, decide_true, Bool.not_true, Option.bind_some, gate_f, Bool.false_eq_true, if_false, e47, hj, gateC_f, nrmK_some, hne, pickD_B, ho, hi, un_not, ifD_B, st5, fld5, hk, and_self, show [a, b, c, d, e].length = 5 from rfl, if_true, skO, Option.isSome_some]
    · have hne : bin .neq false [] (T (numsJ 47 [a, b, c, d, e])) (T s) = some (B true) := by simp [h2]
      simp -implicitDefEqProofs only [callK_ret, sl_zero, lenD_arr, hq, bin_neq, decide_true, Bool.not_true, Option.bind_some, gate_f, gate_t, gate_s, Bool.false_eq_true, if_false, e47, hj, gateC_f, gateC_s, nrmK_some, hne, pickD_B, ifD_B, if_true, bldk0, st5, fld5, h2, and_false, skO, Option.isSome_none]
  · have hl : ¬ ((ns.length : Int) + 1 + 1 + 1 + 1 + 1 + 1 = 5) := by omega
    have hl2 : ¬ (ns.length + 1 + 1 + 1 + 1 + 1 + 1 = 5) := by omega
    simp -implicitDefEqProofs [skO, bldk0, hl, hl2]
theorem e_spec_ParseStrike (s : ByteArray) (h : s.size ≤ 1048576) : F_spec_ParseStrike [T s] = some (.ret [sk (skO (pK s)), B (pK s).isSome] []) := by
  rw [t_spec_ParseStrike, ← pK_eq]
  have hs : F_spec_l1Split [T s, D.v (Value.int IntKind.u8 47)] = some (.ret [.arr 1 ((splitT 47 s).map T)] []) := e_spec_l1Split s 47 (by omega)
  have hz := splitT_size 47 s
  rw [hs]
  unfold parseS
  generalize splitT 47 s = ws at hz
  by_cases h5 : ws.length = 5
  case neg =>
    have h5' : ¬ (ws.length : Int) = 5 := by omega
    simp -implicitDefEqProofs [skO, bldk0, h5, h5']
  have hq : (ws.length : Int) = 5 := by omega
  simp -implicitDefEqProofs only [callK_ret, sl_zero, lenD_arr, List.length_map, hq, bin_neq, decide_true, Bool.not_true, Option.bind_some, ifD_B, Bool.false_eq_true, if_false]
  refine loop_bind (.ext 0 [.agg [I 0, I 0, I 0, I 0, I 0], intsL (ws.map readT)]) (loop_for ws.length (fun i => [.agg [I 0, I 0, I 0, I 0, I 0], intsL ((ws.take i).map readT), .arr 1 (ws.map T), I 5, I i]) _ (fun i hi => ?_) ?_ rfl rfl) ?_
  · have hi' : (i : Int) < 5 := by omega
    have hw : IntKind.i64.wrap ((i : Int) + 1) = ((i + 1 : Nat) : Int) := by rw [wrap_id (by omega) (by omega)]; omega
    have hel : elemD 1 (.arr 1 (ws.map T)) (I (i : Int)) = some [T ws[i]] := by simp [hi]
    have r0 := e_spec_l1Read ws[i] (by have := hz ws[i] (List.getElem_mem hi); omega)
    have hap := ints_app (l := (ws.take i).map readT) (n := readT ws[i]) (by simp; omega)
    have htk : (ws.take (i + 1)).map readT = (ws.take i).map readT ++ [readT ws[i]] := by rw [List.take_succ_eq_append_getElem hi, List.map_append]; rfl
    rw [← htk] at hap
    simp -implicitDefEqProofs only [sl_zero, sl_succ, bin_lss, hi', decide_true, Option.bind_some, ifD_B, if_true, hel, Option.map_some, ldD_ptr, takeD_f, chkV_v, r0, callK_ret, ints_one, ints_chk, hap, bin_add, hw]
  · have hn : ¬ ((ws.length : Nat) : Int) < 5 := by omega
    have e1 : ws.take ws.length = ws := List.take_length
    simp -implicitDefEqProofs only [sl_zero, sl_succ, bin_lss, hn, decide_false, Option.bind_some, ifD_B, Bool.false_eq_true, if_false, e1]
  · have : ∃ a b c d e, ws = [a, b, c, d, e] := by
      match ws, h5 with
      | [a, b, c, d, e], _ => exact ⟨a, b, c, d, e, rfl⟩
    obtain ⟨a, b, c, d, e, rfl⟩ := this
    have ho := e_spec_maOf (readT a) (readT b) (readT c) (readT d) (readT e)
    have hi := e_spec_maGood (readT a, readT b, readT c, readT d, readT e)
    have hk : okK [readT a, readT b, readT c, readT d, readT e] = goodK (readT a, readT b, readT c, readT d, readT e) := rfl
    have hm : [a, b, c, d, e].map readT = [readT a, readT b, readT c, readT d, readT e] := rfl
    cases h1 : goodK (readT a, readT b, readT c, readT d, readT e)
    · rw [h1] at hi hk
      simp -implicitDefEqProofs only [outK_ext, Nat.beq_refl, ifN_B, if_true, sl_zero, sl_succ, hm, liveD_arr, liveD_ref, Option.bind_some, ho, callK_ret, hi, un_not, Bool.not_false, ifD_B, bldk0, st5, fld5, hk, Bool.false_eq_true, and_false, if_false, skO, Option.isSome_none]
    · rw [h1] at hi hk
      simp -implicitDefEqProofs only [outK_ext, Nat.beq_refl, ifN_B, if_true, sl_zero, sl_succ, hm, liveD_arr, liveD_ref, Option.bind_some, ho, callK_ret, hi, un_not, Bool.not_true, ifD_B, Bool.false_eq_true, if_false, st5, fld5, hk, show [a, b, c, d, e].length = 5 from rfl, and_self, skO, Option.isSome_some]
/-! ### draws -/
theorem d_strike (c : Cur) (B : Nat) (h : c.ok B) (hB : B ≤ 3000000) : ∃ (s : Sk) (c' : Cur), F_spec_l1Cur_strike [curD c] = some (.ret [sk s] [curD c']) ∧ goodK s = true ∧ c'.ok (B + 10) := by
  obtain ⟨v1, c1, e1, l1, u1, k1⟩ := d_pick c 8 B h (by omega) (by omega)
  obtain ⟨v2, c2, e2, l2, u2, k2⟩ := d_pick c1 8 _ k1 (by omega) (by omega)
  obtain ⟨v3, c3, e3, l3, u3, k3⟩ := d_pick c2 2 _ k2 (by omega) (by omega)
  obtain ⟨v4, c4, e4, l4, u4, k4⟩ := d_pick c3 8 _ k3 (by omega) (by omega)
  obtain ⟨v5, c5, e5, l5, u5, k5⟩ := d_pick c4 6 _ k4 (by omega) (by omega)
  have w1 : IntKind.i64.wrap (120 + v1) = 120 + v1 := wrap_id (by omega) (by omega)
  have w2 : IntKind.i64.wrap (30 + v2) = 30 + v2 := wrap_id (by omega) (by omega)
  have w3 : IntKind.i64.wrap (200 + v3) = 200 + v3 := wrap_id (by omega) (by omega)
  have w4 : IntKind.i64.wrap (30 + v4) = 30 + v4 := wrap_id (by omega) (by omega)
  have w5 : IntKind.i64.wrap (60 + v5) = 60 + v5 := wrap_id (by omega) (by omega)
  rw [t_spec_l1Cur_strike]
  refine ⟨(120 + v1, 30 + v2, 200 + v3, 30 + v4, 60 + v5), c5, ?_, goodK_iff.2 (by dsimp only; omega), k5.mono (by omega)⟩
  simp -implicitDefEqProofs only [liveD_agg, liveD_ref, ref0_eq, Option.bind_some, e1, e2, e3, e4, e5, callK_ret, sl_zero, bin_add, w1, w2, w3, w4, w5, bld5, st5, fld5]
theorem d_anyStrike (c : Cur) (B : Nat) (h : c.ok B) (hB : B ≤ 2000000) : ∃ (s : Sk) (c' : Cur), F_spec_l1Cur_anyStrike [curD c] = some (.ret [sk s] [curD c']) ∧ c'.ok (B + 20) := by
  obtain ⟨s, c1, e1, g1, k1⟩ := d_strike c B h (by omega)
  obtain ⟨b, c2, e2, k2⟩ := d_one c1 8 _ k1 (by omega) (by omega)
  rw [t_spec_l1Cur_anyStrike]
  cases b
  · exact ⟨s, c2, by simp -implicitDefEqProofs only [liveD_agg, liveD_ref, ref0_eq, Option.bind_some, e1, e2, callK_ret, sl_zero, st5, fld5, ifD_B, Bool.false_eq_true, if_false], k2.mono (by omega)⟩
  · obtain ⟨p, c3, e3, l3, u3, k3⟩ := d_pick c2 5 _ k2 (by omega) (by omega)
    obtain ⟨v, c4, e4, l4, k4⟩ := d_among c3 [1, 999, 0, 1000, -9223372036854775808] _ k3 (by omega) (by simp) (by simp)
    have m1 := mkInts (l := [1, 999, 0, 1000, -9223372036854775808])
    simp only [List.map_cons, List.map_nil] at m1
    have hp : p = 0 ∨ p = 1 ∨ p = 2 ∨ p = 3 ∨ p = 4 := by omega
    have key : ∃ m : List Int, ∃ t : Sk, refI 1 (intsL (skL s)) (I p) = some (.ref p.toNat 0) ∧ stD 1 (intsL (skL s)) (.ref p.toNat 0) (I v) = some (intsL m) ∧ F_spec_maOf [intsL m] = some (.ret [sk t] []) := by
      rcases hp with rfl | rfl | rfl | rfl | rfl
      · exact ⟨[v, s.2.1, s.2.2.1, s.2.2.2.1, s.2.2.2.2], _, rfl, rfl, e_spec_maOf _ _ _ _ _⟩
      · exact ⟨[s.1, v, s.2.2.1, s.2.2.2.1, s.2.2.2.2], _, rfl, rfl, e_spec_maOf _ _ _ _ _⟩
      · exact ⟨[s.1, s.2.1, v, s.2.2.2.1, s.2.2.2.2], _, rfl, rfl, e_spec_maOf _ _ _ _ _⟩
      · exact ⟨[s.1, s.2.1, s.2.2.1, v, s.2.2.2.2], _, rfl, rfl, e_spec_maOf _ _ _ _ _⟩
      · exact ⟨[s.1, s.2.1, s.2.2.1, s.2.2.2.1, v], _, rfl, rfl, e_spec_maOf _ _ _ _ _⟩
    obtain ⟨m, t, r1, r2, r3⟩ := key
    have st' : stD 5 (sk s) (.ref 0 0) (sk t) = some (sk t) := by simp
    refine ⟨t, c4, ?_, k4.mono (by omega)⟩
    simp -implicitDefEqProofs only [liveD_agg, liveD_ref, liveD_arr, ref0_eq, Option.bind_some, e1, e2, callK_ret, sl_zero, st5, fld5, ifD_B, if_true, e_spec_parts, e3, m1, e4, r1, r2, r3, st']
theorem d_lower (c : Cur) (s : Sk) (B : Nat) (h : c.ok B) (hB : B ≤ 1000000) : ∃ (t : Sk) (c' : Cur), F_spec_l1Cur_lower [curD c, sk s] = some (.ret [sk t] [curD c']) ∧ c'.ok (B + 40) := by
  obtain ⟨b, c1, e1, k1⟩ := d_one c 4 B h (by omega) (by omega)
  rw [t_spec_l1Cur_lower]
  cases b
  · obtain ⟨v2, c2, e2, l2, u2, k2⟩ := d_pick c1 3 _ k1 (by omega) (by omega)
    obtain ⟨v3, c3, e3, l3, u3, k3⟩ := d_pick c2 4 _ k2 (by omega) (by omega)
    obtain ⟨v4, c4, e4, l4, u4, k4⟩ := d_pick c3 3 _ k3 (by omega) (by omega)
    obtain ⟨v5, c5, e5, l5, u5, k5⟩ := d_pick c4 8 _ k4 (by omega) (by omega)
    have s1 : ∀ (x : Sk) (a : Int), stD 1 (sk x) (.ref 0 0) (I a) = some (sk (a, x.2)) := fun x a => by simp
    have s2 : ∀ (x : Sk) (a : Int), stD 1 (sk x) (.ref 0 1) (I a) = some (sk (x.1, a, x.2.2)) := fun x a => by simp
    have s3 : ∀ (x : Sk) (a : Int), stD 1 (sk x) (.ref 0 4) (I a) = some (sk (x.1, x.2.1, x.2.2.1, x.2.2.2.1, a)) := fun x a => by simp
    refine ⟨(IntKind.i64.wrap (s.1 - v2), IntKind.i64.wrap (s.2.1 - v3), s.2.2.1, s.2.2.2.1, IntKind.i64.wrap (s.2.2.2.2 - IntKind.i64.wrap (v4 - IntKind.i64.wrap (v5.tdiv 7)))), c5, ?_, k5.mono (by omega)⟩
    simp -implicitDefEqProofs only [box5, liveD_agg, liveD_ref, ref0_eq, Option.bind_some, e1, callK_ret, sl_zero, ifD_B, Bool.false_eq_true, if_false, atD_agg, List.drop_zero, List.drop_succ_cons, takeD_f, e2, e3, e4, e5, bin_sub, bin_quo, show ¬ (7 : Int) = 0 by decide, s1, s2, s3, fld5, st5]
  · obtain ⟨t, c2, e2, k2⟩ := d_anyStrike c1 _ k1 (by omega)
    refine ⟨t, c2, ?_, k2.mono (by omega)⟩
    simp -implicitDefEqProofs only [box5, liveD_agg, liveD_ref, ref0_eq, Option.bind_some, e1, callK_ret, sl_zero, ifD_B, if_true, e2, st5, fld5]
theorem curZ_eq (l : List Int) : curZ l = curD ⟨l, 0, 0⟩ := rfl
theorem box_cur (l : List Int) : boxD 3 (.agg [bytesD l, I 0, D.v (.int .u64 0)]) = some (curZ l) := by simp
theorem d_DrawFilingsFor (l : List Int) (h : Bytes l) : ∃ s t : Sk, F_spec_DrawFilingsFor [bytesD l] = some (.ret [sk s, sk t] []) := by
  obtain ⟨s, c1, e1, k1⟩ := d_anyStrike ⟨l, 0, 0⟩ 0 (cur0 h) (by omega)
  obtain ⟨t, c2, e2, k2⟩ := d_lower c1 s _ k1 (by omega)
  rw [← curZ_eq] at e1
  rw [t_spec_DrawFilingsFor]
  exact ⟨s, t, by simp -implicitDefEqProofs only [bldCur, box_cur, Option.bind_some, liveD_agg, liveD_ref, ref0_eq, e1, callK_ret, sl_zero, st5, fld5, e2]⟩
theorem d_DrawCastsLeft (l : List Int) (h : Bytes l) : ∃ (s t : Sk) (m : Int), F_spec_DrawCastsLeft [bytesD l] = some (.ret [sk s, sk t, I m] []) := by
  obtain ⟨s, c1, e1, k1⟩ := d_anyStrike ⟨l, 0, 0⟩ 0 (cur0 h) (by omega)
  obtain ⟨t, c2, e2, k2⟩ := d_lower c1 s _ k1 (by omega)
  obtain ⟨v3, c3, e3, l3, k3⟩ := d_among c2 [999, -1, 1000] _ k2 (by omega) (by simp) (by simp)
  obtain ⟨v4, c4, e4, l4, k4⟩ := d_among c3 [0, 1, 3, 10, v3] _ k3 (by omega) (by simp) (by simp)
  have m1 := mkInts (l := [999, -1, 1000])
  have m2 := mkInts (l := [0, 1, 3, 10, v3])
  simp only [List.map_cons, List.map_nil] at m1 m2
  rw [← curZ_eq] at e1
  rw [t_spec_DrawCastsLeft]
  exact ⟨s, t, v4, by simp -implicitDefEqProofs only [bldCur, box_cur, Option.bind_some, liveD_agg, liveD_ref, ref0_eq, e1, callK_ret, sl_zero, st5, fld5, e2, m1, e3, m2, e4]⟩
theorem d_DrawFileStrike (l : List Int) (h : Bytes l) : ∃ (s : Sk) (p b : Int), F_spec_DrawFileStrike [bytesD l] = some (.ret [sk s, I p, I b] []) := by
  obtain ⟨s, c1, e1, k1⟩ := d_anyStrike ⟨l, 0, 0⟩ 0 (cur0 h) (by omega)
  obtain ⟨v2, c2, e2, l2, u2, k2⟩ := d_pick c1 6 _ k1 (by omega) (by omega)
  obtain ⟨v3, c3, e3, l3, u3, k3⟩ := d_pick c2 12 _ k2 (by omega) (by omega)
  obtain ⟨v4, c4, e4, l4, k4⟩ := d_among c3 [999, 0, 1000] _ k3 (by omega) (by simp) (by simp)
  obtain ⟨v5, c5, e5, l5, k5⟩ := d_among c4 [1, 5, 30, 40, v4] _ k4 (by omega) (by simp) (by simp)
  have m1 := mkInts (l := [999, 0, 1000])
  have m2 := mkInts (l := [1, 5, 30, 40, v4])
  simp only [List.map_cons, List.map_nil] at m1 m2
  rw [← curZ_eq] at e1
  rw [t_spec_DrawFileStrike]
  exact ⟨s, IntKind.i64.wrap (v2 - IntKind.i64.wrap (v3.tdiv 11)), v5, by simp -implicitDefEqProofs only [bldCur, box_cur, Option.bind_some, liveD_agg, liveD_ref, ref0_eq, e1, callK_ret, sl_zero, e2, e3, bin_quo, show ¬ (11 : Int) = 0 by decide, if_false, bin_sub, m1, e4, m2, e5, st5, fld5]⟩
theorem tS (l : List UInt8) : (D.v (Value.string { data := { toList := l } })) = T ⟨⟨l⟩⟩ := rfl
def exK : List ByteArray := [⟨⟨[]⟩⟩, ⟨⟨[49, 47, 49, 47, 49, 47, 49, 47, 49]⟩⟩, ⟨⟨[48, 47, 49, 47, 49, 47, 49, 47, 49]⟩⟩, ⟨⟨[49, 47, 49, 47, 49, 47, 49]⟩⟩, ⟨⟨[57, 57, 57, 47, 57, 57, 57, 47, 57, 57, 57, 47, 57, 57, 57, 47, 57, 57, 57]⟩⟩, ⟨⟨[49, 48, 48, 48, 47, 49, 47, 49, 47, 49, 47, 49]⟩⟩, ⟨⟨[48, 49, 47, 49, 47, 49, 47, 49, 47, 49]⟩⟩]
theorem exK_mk : mkArr 1 [T ⟨⟨[]⟩⟩, T ⟨⟨[49, 47, 49, 47, 49, 47, 49, 47, 49]⟩⟩, T ⟨⟨[48, 47, 49, 47, 49, 47, 49, 47, 49]⟩⟩, T ⟨⟨[49, 47, 49, 47, 49, 47, 49]⟩⟩, T ⟨⟨[57, 57, 57, 47, 57, 57, 57, 47, 57, 57, 57, 47, 57, 57, 57, 47, 57, 57, 57]⟩⟩, T ⟨⟨[49, 48, 48, 48, 47, 49, 47, 49, 47, 49, 47, 49]⟩⟩, T ⟨⟨[48, 49, 47, 49, 47, 49, 47, 49, 47, 49]⟩⟩] = some (txs exK) := mkTxs (l := exK)
theorem exK_size : ∀ s ∈ exK, s.size ≤ 20 := by decide
theorem d_DrawParseStrike (l : List Int) (h : Bytes l) : ∃ s : ByteArray, F_spec_DrawParseStrike [bytesD l] = some (.ret [T s] []) ∧ s.size ≤ 1000 := by
  obtain ⟨m, c1, e1, g1, k1⟩ := d_strike ⟨l, 0, 0⟩ 0 (cur0 h) (by omega)
  rw [← curZ_eq] at e1
  obtain ⟨v2, c2, e2, l2, u2, k2⟩ := d_pick c1 5 _ k1 (by omega) (by omega)
  have ht := e_spec_maText g1
  have hz := skT_size g1
  rw [t_spec_DrawParseStrike]
  by_cases h0 : v2 = 0
  · obtain ⟨s, c3, e3, g3, k3⟩ := d_spoilt c2 (skT m) ⟨⟨[47, 45, 48, 49, 57]⟩⟩ _ k2 (by omega) (by omega) ⟨by decide, by decide⟩
    refine ⟨s, ?_, by omega⟩
    simp -implicitDefEqProofs only [tS, bldCur, box_cur, Option.bind_some, liveD_agg, liveD_ref, ref0_eq, e1, callK_ret, sl_zero, ht, e2, bin_eql, h0, decide_true, ifD_B, if_true, e3]
  by_cases h1 : v2 = 1
  · obtain ⟨s, c3, e3, g3, k3⟩ := d_of c2 exK _ k2 (by omega) (by decide) (by decide)
    refine ⟨s, ?_, by have := exK_size s g3; omega⟩
    simp -implicitDefEqProofs only [tS, bldCur, box_cur, Option.bind_some, liveD_agg, liveD_ref, ref0_eq, e1, callK_ret, sl_zero, ht, e2, bin_eql, h1, show ¬ (1 : Int) = 0 by decide, decide_false, decide_true, ifD_B, Bool.false_eq_true, if_false, if_true, exK_mk, e3]
  · refine ⟨skT m, ?_, by omega⟩
    simp -implicitDefEqProofs only [tS, bldCur, box_cur, Option.bind_some, liveD_agg, liveD_ref, ref0_eq, e1, callK_ret, sl_zero, ht, e2, bin_eql, h0, h1, decide_false, ifD_B, Bool.false_eq_true, if_false]
end Go.Proofs.YtlphibidnkjpdaaDoor
/-
  The law of strikes.
-/
namespace Go.Proofs.YtlphibidnkjpdaaDoor
open Go Go.V
set_option linter.unusedSimpArgs false

theorem tpv (v : Value) (ds : List D) : tupAt (.tup (.v v :: ds)) 0 = some (.v v) := rfl
theorem tp1A (a : D) (l ds : List D) : tupAt (.tup (a :: .agg l :: ds)) 1 = some (.agg l) := rfl
theorem neqK (m : Sk) : bin .neq false [1, 1, 1, 1, 1] (sk m) (sk m) = some (B false) := by simp [bin, allEq]
theorem eqlK (m : Sk) : bin .eql false [1, 1, 1, 1, 1] (sk m) (sk m) = some (B true) := by simp [bin, allEq]
theorem fil_face {s t : Sk} (h : filB s t = true) : goodK s = true ∧ goodK t = true ∧ s.2.2.1 = t.2.2.1 := by
  simp only [filB, bothK, canK, Bool.and_eq_true, decide_eq_true_eq] at h
  exact ⟨h.1.1, h.1.2, h.2.2⟩
theorem cas_facts {u v : Sk} {m : Int} (h : casB u v m = true) : depB u (casN u v m) = true ∧ IntKind.i64.wrap (u.1 + (casN u v m).tdiv 1000 - v.1) = u.1 + (casN u v m).tdiv 1000 - v.1 ∧ ¬ m < u.1 + (casN u v m).tdiv 1000 - v.1 ∧
    (casN u v m < 1000000 → IntKind.i64.wrap (casN u v m + 1) = casN u v m + 1 ∧ depB u (casN u v m + 1) = true ∧ IntKind.i64.wrap (u.1 + (casN u v m + 1).tdiv 1000 - v.1) = u.1 + (casN u v m + 1).tdiv 1000 - v.1 ∧ ¬ u.1 + (casN u v m + 1).tdiv 1000 - v.1 ≤ m) := by
  have h0 := h
  simp only [casB, bothK, Bool.and_eq_true, decide_eq_true_eq] at h
  obtain ⟨⟨⟨hu, hv⟩, hm⟩, hr⟩ := h
  have a1 := (goodK_iff.1 hu).1
  have a2 := (goodK_iff.1 hv).1
  have e : casN u v m = if casX u v m < 1000000 then casX u v m else 1000000 := by simp only [casN, h0, if_true]
  rw [e]
  unfold casX
  have hx : 0 ≤ 1000 * (v.1 + m - u.1) + 999 := by omega
  split
  · rename_i hlt
    rw [Int.tdiv_eq_ediv_of_nonneg hx, Int.tdiv_eq_ediv_of_nonneg (show 0 ≤ 1000 * (v.1 + m - u.1) + 999 + 1 by omega)]
    refine ⟨by simp only [depB, hu, Bool.true_and, decide_eq_true_eq]; omega, wrap_id (by omega) (by omega), by omega, fun _ => ⟨wrap_id (by omega) (by omega), by simp only [depB, hu, Bool.true_and, decide_eq_true_eq]; omega, wrap_id (by omega) (by omega), by omega⟩⟩
  · rename_i hge
    have e3 : (1000000 : Int).tdiv 1000 = 1000 := by decide
    rw [e3]
    exact ⟨by simp only [depB, hu, Bool.true_and, decide_eq_true_eq]; omega, wrap_id (by omega) (by omega), by omega, fun h => by omega⟩
theorem ce_facts {s : Sk} (h : goodK s = true) : ceR s = ceK s ∧ goodK (ceK s) = true ∧ (ceK s).2.1 + (ceK s).2.2.1 + (ceK s).2.2.2.1 ≤ s.2.1 + s.2.2.1 + s.2.2.2.1 := by
  have := goodK_iff.1 h
  refine ⟨by simp only [ceR, h, if_true], goodK_iff.2 ?_, ?_⟩
  · unfold ceK
    dsimp only
    split <;> omega
  · unfold ceK
    dsimp only
    split <;> omega

set_option maxRecDepth 100000 in
set_option maxHeartbeats 4000000 in
theorem law_Strikes (code more : List Int) (hb1 : ∀ n ∈ code, 0 ≤ n ∧ n ≤ 255) (hb2 : ∀ n ∈ more, 0 ≤ n ∧ n ≤ 255) : F_laws_FnStrikes [bytesD code, bytesD more] = some (.ret [B true] []) := by
  rw [t_laws_FnStrikes]
  obtain ⟨p, hp, hp'⟩ := e_laws_big code more
  cases p
  case true => rw [hp]; rfl
  obtain ⟨hl1, hl2⟩ := hp' rfl
  obtain ⟨s, t, e1⟩ := d_DrawFilingsFor code ⟨hb1, hl1⟩
  have i1 := e_impl_FilingsFor s t
  have s1 := e_spec_FilingsFor s t
  have i2 := e_impl_CanBeJustified s t
  have s2 := e_spec_CanBeJustified s t
  have i3 := e_impl_IsStrike s
  have i4 := e_impl_IsStrike t
  have hfl : (filR s t).length ≤ 5 := by
    unfold filR
    split
    · exact Nat.le_refl 5
    · exact Nat.zero_le _
  have q1 := e_laws_sameInts (filR s t) (by omega)
  have main : ∀ r : Option Out, (∀ R : Prop, True) → r = r := fun _ _ => rfl
  have cs : (goodK s = false ∧ bothK s t = false ∧ filB s t = false) ∨ (goodK s = true ∧ goodK t = false ∧ bothK s t = false ∧ filB s t = false) ∨ (goodK s = true ∧ goodK t = true ∧ bothK s t = true ∧ filB s t = false) ∨ (goodK s = true ∧ goodK t = true ∧ bothK s t = true ∧ filB s t = true) := by
    cases h1 : goodK s
    · exact .inl ⟨rfl, by simp [bothK, h1], by simp [filB, bothK, h1]⟩
    · cases h2 : goodK t
      · exact .inr (.inl ⟨rfl, rfl, by simp [bothK, h1, h2], by simp [filB, bothK, h1, h2]⟩)
      · cases h3 : filB s t
        · exact .inr (.inr (.inl ⟨rfl, rfl, by simp [bothK, h1, h2], rfl⟩))
        · exact .inr (.inr (.inr ⟨rfl, rfl, by simp [bothK, h1, h2], rfl⟩))
  rcases cs with ⟨g1, g3, g4⟩ | ⟨g1, g2, g3, g4⟩ | ⟨g1, g2, g3, g4⟩ | ⟨g1, g2, g3, g4⟩
  case' inl =>
    rw [g1] at i3
    rw [g3, g4] at i2 s2
    rw [g4] at i1 s1
    simp -implicitDefEqProofs only [hp, callK_ret, sl_zero, ifD_B, Bool.false_eq_true, if_false, e1, tpA, tp1A, tpL, tpC1, tpv, tp1, Option.bind_some, st5, fld5, i1, s1, i2, s2, i3, q1, bin_neqB, beq_self_eq_true, Bool.not_true, gate_f, gate_t, gate_s, gateC_f, gateC_t, gateC_s, nrmK_some, un_not, pickD_B]
  case' inr.inl =>
    rw [g1] at i3
    rw [g2] at i4
    rw [g3, g4] at i2 s2
    rw [g4] at i1 s1
    simp -implicitDefEqProofs only [hp, callK_ret, sl_zero, ifD_B, Bool.false_eq_true, if_false, if_true, e1, tpA, tp1A, tpL, tpC1, tpv, tp1, Option.bind_some, st5, fld5, i1, s1, i2, s2, i3, i4, q1, bin_neqB, beq_self_eq_true, Bool.not_true, gate_f, gate_t, gate_s, gateC_f, gateC_t, gateC_s, nrmK_some, un_not, pickD_B]
  case' inr.inr.inl =>
    rw [g1] at i3
    rw [g2] at i4
    rw [g3, g4] at i2 s2
    rw [g4] at i1 s1
    simp -implicitDefEqProofs only [hp, callK_ret, sl_zero, ifD_B, Bool.false_eq_true, if_false, if_true, e1, tpA, tp1A, tpL, tpC1, tpv, tp1, Option.bind_some, st5, fld5, i1, s1, i2, s2, i3, i4, q1, bin_neqB, beq_self_eq_true, Bool.not_true, gate_f, gate_t, gate_s, gateC_f, gateC_t, gateC_s, nrmK_some, un_not, pickD_B]
  case' inr.inr.inr =>
    obtain ⟨-, -, hface⟩ := fil_face g4
    have a1 := goodK_iff.1 g1
    have a2 := goodK_iff.1 g2
    have hf : filR s t = [s.1 - t.1, s.2.1 - t.2.1, s.2.2.1 - t.2.2.1, s.2.2.2.1 - t.2.2.2.1, s.2.2.2.2 - t.2.2.2.2] := by
      simp only [filR, g4, if_true]
      rfl
    rw [hf] at i1 s1 q1
    rw [g1] at i3
    rw [g2] at i4
    rw [g3, g4] at i2 s2
    rw [g4] at i1 s1
    have z0 : elemD 1 (intsL [s.1 - t.1, s.2.1 - t.2.1, s.2.2.1 - t.2.2.1, s.2.2.2.1 - t.2.2.2.1, s.2.2.2.2 - t.2.2.2.2]) (I 0) = some [I (s.1 - t.1)] := rfl
    have z1 : elemD 1 (intsL [s.1 - t.1, s.2.1 - t.2.1, s.2.2.1 - t.2.2.1, s.2.2.2.1 - t.2.2.2.1, s.2.2.2.2 - t.2.2.2.2]) (I 1) = some [I (s.2.1 - t.2.1)] := rfl
    have z2 : elemD 1 (intsL [s.1 - t.1, s.2.1 - t.2.1, s.2.2.1 - t.2.2.1, s.2.2.2.1 - t.2.2.2.1, s.2.2.2.2 - t.2.2.2.2]) (I 2) = some [I (s.2.2.1 - t.2.2.1)] := rfl
    have z3 : elemD 1 (intsL [s.1 - t.1, s.2.1 - t.2.1, s.2.2.1 - t.2.2.1, s.2.2.2.1 - t.2.2.2.1, s.2.2.2.2 - t.2.2.2.2]) (I 3) = some [I (s.2.2.2.1 - t.2.2.2.1)] := rfl
    have z4 : elemD 1 (intsL [s.1 - t.1, s.2.1 - t.2.1, s.2.2.1 - t.2.2.1, s.2.2.2.1 - t.2.2.2.1, s.2.2.2.2 - t.2.2.2.2]) (I 4) = some [I (s.2.2.2.2 - t.2.2.2.2)] := rfl
    have zl : lenD false (intsL [s.1 - t.1, s.2.1 - t.2.1, s.2.2.1 - t.2.2.1, s.2.2.2.1 - t.2.2.2.1, s.2.2.2.2 - t.2.2.2.2]) = some (I 5) := rfl
    have y0 : IntKind.i64.wrap (s.1 - (s.1 - t.1)) = t.1 := by rw [wrap_id (by omega) (by omega)]; omega
    have y1 : IntKind.i64.wrap (s.2.1 - (s.2.1 - t.2.1)) = t.2.1 := by rw [wrap_id (by omega) (by omega)]; omega
    have y2 : s.2.2.1 - t.2.2.1 = 0 := by omega
    have y3 : IntKind.i64.wrap (s.2.2.2.1 - (s.2.2.2.1 - t.2.2.2.1)) = t.2.2.2.1 := by rw [wrap_id (by omega) (by omega)]; omega
    have y4 : IntKind.i64.wrap (s.2.2.2.2 - (s.2.2.2.2 - t.2.2.2.2)) = t.2.2.2.2 := by rw [wrap_id (by omega) (by omega)]; omega
    generalize hL : intsL [s.1 - t.1, s.2.1 - t.2.1, s.2.2.1 - t.2.2.1, s.2.2.2.1 - t.2.2.2.1, s.2.2.2.2 - t.2.2.2.2] = L at i1 s1 q1 z0 z1 z2 z3 z4 zl
    have tL : ∀ ds, tupAt (.tup (L :: ds)) 0 = some L := fun ds => by rw [← hL]; rfl
    clear hL
    simp -implicitDefEqProofs only [hp, callK_ret, sl_zero, ifD_B, Bool.false_eq_true, if_false, if_true, e1, tpA, tp1A, tL, tpC1, tpv, tp1, Option.bind_some, st5, fld5, i1, s1, i2, s2, i3, i4, q1, bin_neqB, beq_self_eq_true, Bool.not_true, gate_f, gate_t, gate_s, gateC_f, gateC_t, gateC_s, nrmK_some, un_not, pickD_B, zl, bin_neq, decide_true, liveD_agg, atD_agg, List.drop_zero, List.drop_succ_cons, takeD_f, z0, z1, z2, z3, z4, Option.map_some, ldD_ptr, chkV_v, bin_sub, y0, y1, y2, y3, y4]
  all_goals
    clear i1 s1 i2 s2 i3 i4 q1 main
    obtain ⟨u, v, m, e2⟩ := d_DrawCastsLeft more ⟨hb2, hl2⟩
    have j1 := e_impl_CastsLeft u v m
    have r1 := e_spec_CastsLeft u v m
    simp -implicitDefEqProofs only [sl_zero, e2, callK_ret, tpA, tp1A, tp2, tpI, tp1, Option.bind_some, st5, fld5, j1, r1, bin_neqB, beq_self_eq_true, Bool.not_true, gate_f, Bool.false_eq_true, if_false, bin_neq, decide_true, pickD_B, ifD_B]
    refine joinC_of (fun s => s = [bytesD more]) ?_ ?_
    · rintro _ rfl
      obtain ⟨x, part, by_, e3⟩ := d_DrawFileStrike more ⟨hb2, hl2⟩
      obtain ⟨w, e4, z4⟩ := d_DrawParseStrike more ⟨hb2, hl2⟩
      have f1 := e_impl_FileStrike x part by_
      have f2 := e_spec_FileStrike x part by_
      have c1 := e_impl_CentreStrike x
      have c2 := e_spec_CentreStrike x
      have t1 := e_impl_StrikeText x
      have t2 := e_spec_StrikeText x
      have p1 := e_impl_ParseStrike w (by omega)
      have p2 := e_spec_ParseStrike w (by omega)
      have i5 := e_impl_IsStrike x
      simp -implicitDefEqProofs only [sl_zero, e3, callK_ret, tpA, tp1, tp2, tpv, Option.bind_some, st5, fld5, f1, f2, c1, c2, t1, t2, e4, p1, p2, i5, bin_neqB, bin_neqS, beq_self_eq_true, decide_true, Bool.not_true, gate_f, gateC_f, nrmK_some, Bool.false_eq_true, if_false, neqK, pickD_B, ifD_B]
      cases hg : goodK x
      · simp -implicitDefEqProofs only [Bool.false_eq_true, if_false]
      · obtain ⟨k1, k2, k3⟩ := ce_facts hg
        have u1 := e_impl_ParseStrike (skT x) (by have := skT_size hg; omega)
        rw [pK_T hg] at u1
        have e5 : skO (some (skL x)) = x := rfl
        rw [e5] at u1
        have u2 := e_impl_WidthOfStrike x
        rw [hg] at u2
        have u3 := e_impl_WidthOfStrike (ceK x)
        rw [k2] at u3
        have hle : bin .leq false [] (I ((ceK x).2.1 + (ceK x).2.2.1 + (ceK x).2.2.2.1)) (I (x.2.1 + x.2.2.1 + x.2.2.2.1)) = some (B true) := by rw [bin_leq, decide_eq_true k3]
        have hsd : bin .eql false [] (I (ceK x).2.1) (I (ceK x).2.2.2.1) = some (B true) := by rw [bin_eql, decide_eq_true (show (ceK x).2.1 = (ceK x).2.2.2.1 from rfl)]
        rw [k1]
        simp -implicitDefEqProofs only [if_true, u1, u2, u3, hle, callK_ret, tpA, tp1, tpI, Option.bind_some, Option.isSome_some, st5, fld5, gate_t, eqlK, pickD_B, liveD_agg, atD_agg, List.drop_zero, List.drop_succ_cons, takeD_f, hsd]
    · intro j hj
      have hj' := hj _ rfl
      cases hc : casB u v m
      · simp -implicitDefEqProofs only [Bool.false_eq_true, if_false]
        exact hj'
      · obtain ⟨c1, c2, c3, c4⟩ := cas_facts hc
        have d1 := e_impl_DepthAfter u (casN u v m)
        rw [c1] at d1
        by_cases hlt : casN u v m < 1000000
        · obtain ⟨c5, c6, c7, c8⟩ := c4 hlt
          have d2 := e_impl_DepthAfter u (casN u v m + 1)
          rw [c6] at d2
          simp -implicitDefEqProofs only [if_true, fld5, Option.bind_some, d1, callK_ret, tpI, tp1, un_not, Bool.not_true, gate_f, Bool.false_eq_true, if_false, liveD_agg, atD_agg, List.drop_zero, takeD_f, bin_sub, c2, bin_gtr, c3, decide_false, pickD_B, ifD_B, bin_lss, hlt, decide_true, bin_add, c5, d2, c7, bin_leq, c8]
          exact hj'
        · simp -implicitDefEqProofs only [if_true, fld5, Option.bind_some, d1, callK_ret, tpI, tp1, un_not, Bool.not_true, gate_f, Bool.false_eq_true, if_false, liveD_agg, atD_agg, List.drop_zero, takeD_f, bin_sub, c2, bin_gtr, c3, decide_false, pickD_B, ifD_B, bin_lss, hlt]
          exact hj'
end Go.Proofs.YtlphibidnkjpdaaDoor
