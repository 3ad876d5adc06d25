/-
  Texts cut at a byte.
-/
import Derived.Test.YtecaabmaoaacnaaGreatDoorRows
import Derived.Test.YtecaabmaoaacnaaGreatDoorTie
import Derived.Test.YtecaabmaoaacnaaGreatDoorCards
import Derived.Test.YtecaabmaoaacnaaGreatDoorM6
import Derived.Lib.IndexBytes
import Derived.Laws.RangeString
import Derived.Laws.Bits64b
import Derived.StillTailTactics
import Derived.Maps.AppendAt
import Derived.Lib.Builder
namespace Go.Proofs.YtecaabmaoaacnaaGreatDoor
open Go Go.V
set_option linter.unusedSimpArgs false

theorem chars_inj {a b : ByteArray} (h : chars a = chars b) : a = b := by
  cases a with | mk a => cases b with | mk b =>
    cases a with | mk a => cases b with | mk b =>
      simp [chars] at h
      rw [h]
theorem chars_extract (s : ByteArray) (i j : Nat) : chars (s.extract i j) = ((chars s).take j).drop i := by
  simp [chars, List.drop_take]
theorem chars_mk (l : List UInt8) : chars ⟨l.toArray⟩ = l := by simp [chars]
theorem mk_chars (s : ByteArray) : (⟨(chars s).toArray⟩ : ByteArray) = s := chars_inj (chars_mk _)
theorem chars_append (a b : ByteArray) : chars (a ++ b) = chars a ++ chars b := by simp [chars]
theorem sliceS {s : ByteArray} {z i j : Nat} (h1 : i ≤ j) (h2 : j ≤ s.size) : sliceD true z (T s) (I (i : Int)) (I (j : Int)) = some (T (s.extract i j)) := by
  simp only [sliceD, Int.toNat_natCast]
  rw [if_pos (by omega)]
theorem sliceHiS {s : ByteArray} {z i : Nat} (h : i ≤ s.size) : sliceHi true z (T s) (I (i : Int)) = some (T (s.extract i s.size)) := by
  simp only [sliceHi, Int.toNat_natCast]
  rw [if_pos (by omega)]

/-! ### the pieces -/
def consH (x : UInt8) : List (List UInt8) → List (List UInt8)
  | [] => [[x]]
  | h :: t => (x :: h) :: t
/-- A text cut at each c. -/
def splitL (c : UInt8) : List UInt8 → List (List UInt8)
  | [] => [[]]
  | x :: l => if x = c then [] :: splitL c l else consH x (splitL c l)
theorem splitL_ne (c : UInt8) (l : List UInt8) : splitL c l ≠ [] := by
  cases l with
  | nil => simp [splitL]
  | cons x l =>
    simp only [splitL]
    split
    · simp
    · cases splitL c l <;> simp [consH]
theorem splitL_miss {c : UInt8} : ∀ {l : List UInt8}, c ∉ l → splitL c l = [l]
  | [], _ => rfl
  | x :: l, h => by
    simp only [List.mem_cons, not_or] at h
    simp only [splitL]
    rw [if_neg (Ne.symm h.1), splitL_miss h.2]
    rfl
theorem splitL_hit {c : UInt8} {b : List UInt8} : ∀ {a : List UInt8}, c ∉ a → splitL c (a ++ c :: b) = a :: splitL c b
  | [], _ => by simp [splitL]
  | x :: a, h => by
    simp only [List.mem_cons, not_or] at h
    rw [List.cons_append]
    simp only [splitL]
    rw [if_neg (Ne.symm h.1), splitL_hit h.2]
    rfl
theorem splitL_snoc (c x : UInt8) : ∀ (l : List UInt8) (o : List (List UInt8)) (p : List UInt8), splitL c l = o ++ [p] → splitL c (l ++ [x]) = if x = c then (o ++ [p]) ++ [[]] else o ++ [p ++ [x]]
  | [], o, p, h => by
    have h : [[]] = o ++ [p] := h
    have : o = [] ∧ p = [] := by
      cases o with
      | nil => simpa using h.symm
      | cons y o => cases o <;> simp at h
    obtain ⟨rfl, rfl⟩ := this
    simp only [List.nil_append, splitL]
    split <;> rfl
  | y :: l, o, p, h => by
    simp only [splitL] at h
    rw [List.cons_append]
    simp only [splitL]
    by_cases hy : y = c
    · rw [if_pos hy] at h ⊢
      cases o with
      | nil => exact absurd (List.cons.inj h).2 (splitL_ne c l)
      | cons z o =>
        rw [List.cons_append, List.cons.injEq] at h
        obtain ⟨rfl, h⟩ := h
        rw [splitL_snoc c x l o p h]
        split <;> rfl
    · rw [if_neg hy] at h ⊢
      generalize hs : splitL c l = s at h
      cases s with
      | nil => exact absurd hs (splitL_ne c l)
      | cons z s =>
        simp only [consH] at h
        cases o with
        | nil =>
          have : s = [] ∧ p = y :: z := by
            rw [List.nil_append, List.cons.injEq] at h
            exact ⟨h.2, h.1.symm⟩
          obtain ⟨rfl, rfl⟩ := this
          rw [splitL_snoc c x l [] z hs]
          split <;> simp [consH]
        | cons w o =>
          rw [List.cons_append, List.cons.injEq] at h
          obtain ⟨rfl, h⟩ := h
          rw [splitL_snoc c x l (z :: o) p (by rw [hs, h]; rfl)]
          split <;> simp [consH]

/-! ### the library's own words -/
theorem index_spec (c : UInt8) : ∀ (l : List UInt8), (Lib.index l [c] = -1 ∧ c ∉ l) ∨ ∃ a b, l = a ++ c :: b ∧ c ∉ a ∧ Lib.index l [c] = a.length
  | [] => .inl ⟨by simp [Lib.index], by simp⟩
  | x :: l => by
    rw [Lib.index_one]
    simp only [Lib.indexByte]
    by_cases hx : x = c
    · subst hx
      exact .inr ⟨[], l, rfl, by simp, by simp⟩
    · have ih := index_spec c l
      rw [Lib.index_one] at ih
      rw [if_neg (by simpa using hx)]
      rcases ih with ⟨h1, h2⟩ | ⟨a, b, rfl, h2, h3⟩
      · exact .inl ⟨by rw [h1]; rfl, by simp [h2, Ne.symm hx]⟩
      · refine .inr ⟨x :: a, b, rfl, by simp [h2, Ne.symm hx], ?_⟩
        rw [if_neg (by rw [h3]; simp), h3]
        simp
theorem splitK_eq (c : UInt8) : ∀ (n : Nat) (l : List UInt8), l.length ≤ n → Lib.splitK [c] 0 (Lib.count l [c]) l = splitL c l
  | n, l, hn => by
    rcases index_spec c l with ⟨h1, h2⟩ | ⟨a, b, rfl, h2, h3⟩
    · rw [Lib.count_miss h1, splitL_miss h2]
      rfl
    · rw [Lib.count_hit (by simp) h3, splitL_hit h2, Nat.add_comm 1]
      have hb : (a ++ c :: b).drop (a.length + [c].length) = b := by
        rw [← List.drop_drop]
        simp
      cases n with
      | zero => simp at hn
      | succ n =>
        rw [hb]
        unfold Lib.splitK
        rw [if_neg (by rw [h3]; simp), h3]
        have e : ((a.length : Int)).toNat = a.length := by omega
        rw [e, hb, splitK_eq c n b (by simp at hn; omega)]
        simp
/-- A text cut at each c. -/
def splitT (c : UInt8) (s : ByteArray) : List ByteArray := (splitL c (chars s)).map fun l => ⟨l.toArray⟩
theorem splitOf_eq (c : UInt8) (s : ByteArray) : splitOf s ⟨#[c]⟩ = splitT c s := by
  have h : (splitOf s ⟨#[c]⟩).map chars = splitL c (chars s) := by
    have := Lib.splitB_data ⟨#[c]⟩ 0 (Lib.countB s ⟨#[c]⟩) s
    rw [show (fun x : ByteArray => x.data.toList) = chars from rfl] at this
    rw [splitOf, this]
    exact splitK_eq c _ _ (Nat.le_refl _)
  have h2 : (splitOf s ⟨#[c]⟩).map (fun x => (⟨(chars x).toArray⟩ : ByteArray)) = splitT c s := by
    rw [splitT, ← h, List.map_map]
    rfl
  rw [← h2]
  have : (fun x : ByteArray => (⟨(chars x).toArray⟩ : ByteArray)) = id := funext mk_chars
  rw [this, List.map_id]
theorem e_Split {c : UInt8} {s : ByteArray} (h : s.size < 4294967281) : fSplit [T s, T ⟨#[c]⟩] = some (.ret [.arr 1 ((splitT c s).map T)] []) := by
  have h1 : 1 ≤ (⟨#[c]⟩ : ByteArray).size := Nat.le_refl 1
  simp only [fSplit, h, h1, and_self, if_true, splitOf_eq]
theorem cut_miss {c : UInt8} {l : List UInt8} (h : c ∉ l) : Lib.cut l [c] = (l, [], false) := by
  rcases index_spec c l with ⟨h1, _⟩ | ⟨a, b, rfl, _, _⟩
  · unfold Lib.cut
    rw [h1, if_neg (by decide)]
  · simp at h
theorem cut_hit {c : UInt8} {a b : List UInt8} (h : c ∉ a) : Lib.cut (a ++ c :: b) [c] = (a, b, true) := by
  rcases index_spec c (a ++ c :: b) with ⟨_, h2⟩ | ⟨a', b', e, h2, h3⟩
  · simp at h2
  · have hl : a.length = a'.length := by
      have key : ∀ (a a' b b' : List UInt8), c ∉ a → c ∉ a' → a ++ c :: b = a' ++ c :: b' → a.length = a'.length := by
        intro a
        induction a with
        | nil =>
          intro a' b b' _ h2 e
          cases a' with
          | nil => rfl
          | cons y a' =>
            simp at e
            simp [e.1] at h2
        | cons x a ih =>
          intro a' b b' h1 h2 e
          cases a' with
          | nil =>
            simp at e
            simp [e.1] at h1
          | cons y a' =>
            simp at e h1 h2 ⊢
            exact ih a' b b' h1.2 h2.2 e.2
      exact key a a' b b' h h2 e
    unfold Lib.cut
    rw [h3, if_pos (by omega)]
    have e2 : ((a'.length : Int)).toNat = a.length := by omega
    rw [e2]
    have hb : (a ++ c :: b).drop (a.length + [c].length) = b := by
      rw [← List.drop_drop]
      simp
    rw [hb]
    simp

theorem splitL_length (c : UInt8) : ∀ (l : List UInt8), (splitL c l).length ≤ l.length + 1
  | [] => by simp [splitL]
  | x :: l => by
    have ih := splitL_length c l
    simp only [splitL]
    split
    · simp; omega
    · generalize splitL c l = s at ih
      cases s <;> simp [consH] at ih ⊢ <;> omega
theorem one_text (s : ByteArray) : mkArr 1 [T s] = some (.arr 1 [T s]) := by simp [mkArr, lenOkD]
theorem chkA_texts (l : List ByteArray) : chkA (.arr 1 (l.map T)) = some (.arr 1 (l.map T)) := chkA_map fun _ => rfl

theorem e_spec_l1Split (s : ByteArray) (c : UInt8) (h : s.size ≤ 4294967296) : F_spec_l1Split [T s, U c.toNat] = some (.ret [.arr 1 ((splitT c s).map T)] []) := by
  rw [t_spec_l1Split]
  let mk : List UInt8 → ByteArray := fun l => ⟨l.toArray⟩
  refine loop_wf_bind (fun r => r = _) (fun (a : List (List UInt8) × Nat × Nat) => [T s, U c.toNat, .arr 1 ((a.1.map mk).map T), I (a.2.1 : Int), I (a.2.2 : Int)])
    (fun a => a.2.2 ≤ s.size ∧ a.2.1 ≤ a.2.2 ∧ a.1.length ≤ a.2.2 ∧ splitL c ((chars s).take a.2.2) = a.1 ++ [((chars s).take a.2.2).drop a.2.1])
    (fun a => s.size - a.2.2) (fun o => ∃ (outs : List (List UInt8)) (fr : Nat), o = .ext 0 [T s, .arr 1 ((outs.map mk).map T), I (fr : Int)] ∧ fr ≤ s.size ∧ outs.length ≤ s.size ∧ splitL c (chars s) = outs ++ [(chars s).drop fr])
    ?_ ([], 0, 0) ⟨Nat.zero_le _, Nat.le_refl _, Nat.le_refl _, by simp [splitL]⟩ rfl ?_
  · rintro ⟨outs, fr, i⟩ ⟨h1, h2, h3, h4⟩
    simp only at h1 h2 h3 h4
    by_cases hi : i < s.size
    · left
      have hl : i < (chars s).length := by rw [← size_list]; exact hi
      have hi' : (i : Int) < (s.size : Int) := by omega
      have hw : IntKind.i64.wrap ((i : Int) + 1) = ((i + 1 : Nat) : Int) := by rw [wrap_id (by omega) (by omega)]; omega
      have hch : charD (T s) (I (i : Int)) = some (U ((chars s)[i].toNat : Int)) := by
        rw [charD_nat, List.getElem?_eq_getElem hl]
        rfl
      have htk : (chars s).take (i + 1) = (chars s).take i ++ [(chars s)[i]] := List.take_succ_eq_append_getElem hl
      have hdr : ((chars s).take i ++ [(chars s)[i]]).drop fr = ((chars s).take i).drop fr ++ [(chars s)[i]] := by
        rw [List.drop_append_of_le_length (by rw [List.length_take]; omega)]
      by_cases hc : (chars s)[i] = c
      · refine ⟨(outs ++ [((chars s).take i).drop fr], i + 1, i + 1), ?_, ⟨by simp only; omega, Nat.le_refl _, by simp; omega, ?_⟩, by simp only; omega⟩
        · have hsl := sliceS (s := s) (z := 0) (i := fr) (j := i) h2 (by omega)
          have hmk : mk (((chars s).take i).drop fr) = s.extract fr i := chars_inj (by rw [chars_extract]; exact chars_mk _)
          have hap : (outs.length + 1) * 16 ≤ 140737488355328 ∧ outs.length + 1 ≤ 1152921504606846976 := by omega
          have e2 : (outs ++ [((chars s).take i).drop fr]).map mk = outs.map mk ++ [s.extract fr i] := by rw [List.map_append, List.map_cons, List.map_nil, hmk]
          have e1 : ((outs.map mk).map T).length + [T (s.extract fr i)].length = outs.length + 1 := by simp
          have hck : chkA (.arr 1 [T (s.extract fr i)]) = some (.arr 1 [T (s.extract fr i)]) := chkA_texts [s.extract fr i]
          simp only [sl_zero, sl_succ, lenD_str, Option.bind_some, bin_lss, hi', decide_true, ifD_B, if_true, hch, bin_eql, hc, hsl, one_text, hck, appD_eq, e1, hap, and_self, bin_add, hw, e2, List.map_append, List.map_cons, List.map_nil]
        · have := splitL_snoc c (chars s)[i] _ _ _ h4
          rw [if_pos hc, ← htk] at this
          simp only
          have hz : ((chars s).take (i + 1)).drop (i + 1) = [] := List.drop_eq_nil_of_le (by rw [List.length_take]; omega)
          rw [this, hz]
      · refine ⟨(outs, fr, i + 1), ?_, ⟨by simp only; omega, by simp only; omega, by simp only; omega, ?_⟩, by simp only; omega⟩
        · have hne : ¬ ((chars s)[i].toNat : Int) = (c.toNat : Int) := fun e => hc (UInt8.toNat_inj.1 (by omega))
          simp only [sl_zero, sl_succ, lenD_str, Option.bind_some, bin_lss, hi', decide_true, ifD_B, if_true, hch, bin_eql, hne, decide_false, Bool.false_eq_true, if_false, bin_add, hw]
        · have := splitL_snoc c (chars s)[i] _ _ _ h4
          rw [if_neg hc, ← htk] at this
          simp only
          rw [this, htk, hdr]
    · right
      have hi' : ¬ (i : Int) < (s.size : Int) := by omega
      have hie : i = s.size := by omega
      refine ⟨_, ?_, rfl, outs, fr, rfl, by omega, by omega, ?_⟩
      · simp only [sl_zero, sl_succ, lenD_str, Option.bind_some, bin_lss, hi', decide_false, ifD_B, Bool.false_eq_true, if_false]
      · rw [hie, size_list, List.take_length] at h4
        exact h4
  · rintro o ⟨outs, fr, rfl, h1, h2, h3⟩
    have hsl := sliceHiS (s := s) (z := 0) (i := fr) h1
    have hmk : mk ((chars s).drop fr) = s.extract fr s.size := chars_inj (by rw [chars_extract, size_list, List.take_length]; exact chars_mk _)
    have hap : (outs.length + 1) * 16 ≤ 140737488355328 ∧ outs.length + 1 ≤ 1152921504606846976 := by omega
    have e1 : ((outs.map mk).map T).length + [T (s.extract fr s.size)].length = outs.length + 1 := by simp
    have hck : chkA (.arr 1 [T (s.extract fr s.size)]) = some (.arr 1 [T (s.extract fr s.size)]) := chkA_texts [s.extract fr s.size]
    have e2 : splitT c s = outs.map mk ++ [s.extract fr s.size] := by rw [splitT, h3, List.map_append, List.map_cons, List.map_nil]; exact congrArg _ (congrArg (fun x => [x]) hmk)
    simp only [outK_ext, Nat.beq_refl, ifN_B, if_true, sl_zero, sl_succ, hsl, Option.bind_some, one_text, hck, appD_eq, e1, hap, and_self, e2, List.map_append, List.map_cons, List.map_nil]
end Go.Proofs.YtecaabmaoaacnaaGreatDoor
/-
  Numbers read out of texts: the plain laws; 'l1Read', 'numbersIn'.
-/
namespace Go.Proofs.YtecaabmaoaacnaaGreatDoor
open Go Go.V
set_option linter.unusedSimpArgs false

/-! ### digits -/
def dig (b : UInt8) : Bool := decide (48 ≤ b.toNat) && decide (b.toNat ≤ 57)
theorem dig_iff {b : UInt8} : dig b = true ↔ 48 ≤ b.toNat ∧ b.toNat ≤ 57 := by simp [dig]
theorem toNat_digit {u : Nat} (h : u < 10) : (UInt8.ofNat (48 + u)).toNat = 48 + u := by
  simp
  omega
theorem dig_ofNat {u : Nat} (h : u < 10) : dig (UInt8.ofNat (48 + u)) = true := by
  rw [dig_iff, toNat_digit h]
  omega
theorem decDigits_step {u : Nat} (h : ¬ u < 10) : Lib.decDigits u = Lib.decDigits (u / 10) ++ [UInt8.ofNat (48 + u % 10)] := by rw [Lib.decDigits, dif_neg h]
theorem decDigits_ind {P : Nat → Prop} (h0 : ∀ u, u < 10 → P u) (h1 : ∀ u, ¬ u < 10 → P (u / 10) → P u) : ∀ u, P u := by
  intro u
  induction u using Nat.strongRecOn with
  | _ u ih =>
    by_cases h : u < 10
    · exact h0 u h
    · exact h1 u h (ih (u / 10) (by omega))
theorem decDigits_dig : ∀ u, ∀ b ∈ Lib.decDigits u, dig b = true := by
  refine decDigits_ind (fun u h b hb => ?_) (fun u h ih b hb => ?_)
  · rw [Lib.decDigits_one h] at hb
    rw [List.mem_singleton.1 hb]
    exact dig_ofNat h
  · rw [decDigits_step h] at hb
    rcases List.mem_append.1 hb with hb | hb
    · exact ih b hb
    · rw [List.mem_singleton.1 hb]
      exact dig_ofNat (Nat.mod_lt u (show 10 > 0 by decide))
theorem decDigits_ne : ∀ u, Lib.decDigits u ≠ [] := by
  refine decDigits_ind (fun u h => ?_) (fun u h ih => ?_)
  · rw [Lib.decDigits_one h]; simp
  · rw [decDigits_step h]; simp
/-- The first digit is 0 just at 0. -/
theorem decDigits_head : ∀ u, 0 < u → ∀ b t, Lib.decDigits u = b :: t → b ≠ 48 := by
  refine decDigits_ind (fun u h h0 b t e => ?_) (fun u h ih h0 b t e => ?_)
  · rw [Lib.decDigits_one h] at e
    obtain ⟨rfl, _⟩ := List.cons.inj e
    intro e2
    have := congrArg UInt8.toNat e2
    rw [toNat_digit h] at this
    have h48 : (48 : UInt8).toNat = 48 := rfl
    omega
  · rw [decDigits_step h] at e
    cases hd : Lib.decDigits (u / 10) with
    | nil => exact absurd hd (decDigits_ne _)
    | cons b' t' =>
      rw [hd, List.cons_append] at e
      obtain ⟨rfl, _⟩ := List.cons.inj e
      exact ih (by omega) _ _ hd
/-- What digits spell. -/
def valF (a : Nat) (l : List UInt8) : Nat := l.foldl (fun a b => a * 10 + (b.toNat - 48)) a
theorem valF_dec : ∀ u, valF 0 (Lib.decDigits u) = u := by
  refine decDigits_ind (fun u h => ?_) (fun u h ih => ?_)
  · rw [Lib.decDigits_one h]
    simp only [valF, List.foldl_cons, List.foldl_nil, toNat_digit h]
    omega
  · rw [decDigits_step h]
    simp only [valF] at ih ⊢
    rw [List.foldl_append, ih]
    simp only [List.foldl_cons, List.foldl_nil, toNat_digit (Nat.mod_lt u (show 10 > 0 by decide))]
    omega

/-! ### strconv.Atoi -/
theorem parse_append : ∀ (l r : List UInt8) (a b : Nat), Lib.parseUint10 a l = .ok b → Lib.parseUint10 a (l ++ r) = Lib.parseUint10 b r
  | [], r, a, b, h => by
    simp only [Lib.parseUint10] at h
    injection h with h
    subst h
    rfl
  | c :: l, r, a, b, h => by
    simp only [Lib.parseUint10] at h
    rw [List.cons_append]
    simp only [Lib.parseUint10]
    split at h
    · rename_i h1
      rw [if_pos h1]
      split at h
      · cases h
      · rename_i h2
        rw [if_neg h2]
        split at h
        · cases h
        · rename_i h3
          rw [if_neg h3]
          exact parse_append l r _ b h
    · cases h
theorem parse_dec : ∀ u, u < 1844674407370955162 → Lib.parseUint10 0 (Lib.decDigits u) = .ok u := by
  refine decDigits_ind (fun u h hu => ?_) (fun u h ih hu => ?_)
  · rw [Lib.decDigits_one h]
    simp only [Lib.parseUint10, toNat_digit h]
    rw [if_pos (by omega), if_neg (by omega), if_neg (by omega)]
    congr 1
    omega
  · have h10 := toNat_digit (Nat.mod_lt u (show 10 > 0 by decide))
    rw [decDigits_step h, parse_append _ _ _ _ (ih (by omega))]
    simp only [Lib.parseUint10, h10]
    rw [if_pos (by omega), if_neg (by omega), if_neg (by omega)]
    congr 1
    omega
theorem atoi_dec {u : Nat} (h : u < 1844674407370955162) : Lib.atoiAll (Lib.decDigits u) = .ok (u : Int) := by
  have hp := parse_dec u h
  cases hd : Lib.decDigits u with
  | nil => exact absurd hd (decDigits_ne u)
  | cons c r =>
    have hc := dig_iff.1 (decDigits_dig u c (by rw [hd]; simp))
    rw [hd] at hp
    unfold Lib.atoiAll
    simp only
    rw [if_neg (by omega)]
    unfold Lib.parseMag
    rw [if_neg (by simp), hp]
    simp only
    have h45 : ¬ c.toNat = 45 := by omega
    rw [if_neg (by omega), if_neg (by simp [h45]), if_neg h45]

/-! ### the fields of a text -/
def sepB (b : UInt8) : Bool := isSep b.toNat
theorem sepB_dig (b : UInt8) : sepB b = !dig b := by
  simp only [sepB, isSep, dig]
  by_cases h1 : b.toNat < 48 <;> by_cases h2 : 57 < b.toNat <;> simp [h1, h2] <;> omega
def flds : Option (List UInt8) → List UInt8 → List (List UInt8)
  | none, [] => []
  | some c, [] => [c]
  | none, b :: l => if sepB b = true then flds none l else flds (some [b]) l
  | some c, b :: l => if sepB b = true then c :: flds none l else flds (some (c ++ [b])) l
theorem flds_sep : ∀ {a : List UInt8} (l : List UInt8), (∀ b ∈ a, dig b = false) → flds none (a ++ l) = flds none l
  | [], _, _ => rfl
  | x :: a, l, h => by
    rw [List.cons_append]
    simp only [flds]
    rw [if_pos (by rw [sepB_dig, h x (by simp)]; rfl)]
    exact flds_sep l fun b hb => h b (by simp [hb])
theorem flds_cur : ∀ {w : List UInt8} (c l : List UInt8), (∀ b ∈ w, dig b = true) → flds (some c) (w ++ l) = flds (some (c ++ w)) l
  | [], c, l, _ => by simp
  | x :: w, c, l, h => by
    rw [List.cons_append]
    simp only [flds]
    rw [if_neg (by rw [sepB_dig, h x (by simp)]; simp), flds_cur (c ++ [x]) l fun b hb => h b (by simp [hb])]
    simp
theorem flds_word {w : List UInt8} (hn : w ≠ []) (h : ∀ b ∈ w, dig b = true) {x : UInt8} (hx : dig x = false) (l : List UInt8) : flds none (w ++ x :: l) = w :: flds none l := by
  cases w with
  | nil => exact absurd rfl hn
  | cons y w =>
    rw [List.cons_append]
    simp only [flds]
    rw [if_neg (by rw [sepB_dig, h y (by simp)]; simp), flds_cur [y] _ fun b hb => h b (by simp [hb])]
    simp only [flds]
    rw [if_pos (by rw [sepB_dig, hx]; rfl)]
    rfl
theorem flds_last {w : List UInt8} (hn : w ≠ []) (h : ∀ b ∈ w, dig b = true) : flds none w = [w] := by
  cases w with
  | nil => exact absurd rfl hn
  | cons y w =>
    simp only [flds]
    rw [if_neg (by rw [sepB_dig, h y (by simp)]; simp)]
    have := flds_cur (w := w) [y] [] fun b hb => h b (by simp [hb])
    rw [List.append_nil] at this
    rw [this]
    rfl

theorem fields_spans (s : ByteArray) (hs : ∀ b ∈ chars s, b.toNat < 128) : ∀ (f pos : Nat) (st : Option Nat) (acc : List (Nat × Nat)), s.size ≤ pos + f → pos ≤ s.size → (∀ a, st = some a → a < pos) →
    (Lib.closeSpans s (Lib.spansFromP isSep s f pos st acc)).map (fun x => chars (s.extract x.1 x.2)) = acc.map (fun x => chars (s.extract x.1 x.2)) ++ flds (st.map fun a => ((chars s).take pos).drop a) ((chars s).drop pos) := by
  intro f
  induction f with
  | zero =>
    intro pos st acc h1 h2 h3
    have hp : pos = s.size := by omega
    have hd : (chars s).drop pos = [] := List.drop_eq_nil_of_le (by rw [← size_list]; omega)
    rw [hd]
    cases st with
    | none => simp [Lib.spansFromP, Lib.closeSpans, flds]
    | some a => simp only [Lib.spansFromP, Lib.closeSpans, flds, Option.map_some, List.map_append, List.map_cons, List.map_nil, chars_extract, hp]
  | succ f ih =>
    intro pos st acc h1 h2 h3
    by_cases hp : pos < s.size
    case neg =>
      have hpe : pos = s.size := by omega
      have hd : (chars s).drop pos = [] := List.drop_eq_nil_of_le (by rw [← size_list]; omega)
      rw [hd, Lib.spansFromP_end _ _ _ _ _ _ hp]
      cases st with
      | none => simp [Lib.closeSpans, flds]
      | some a => simp only [Lib.closeSpans, flds, Option.map_some, List.map_append, List.map_cons, List.map_nil, chars_extract, hpe]
    have hl : pos < (chars s).length := by rw [← size_list]; exact hp
    have hb : (chars s)[pos].toNat < 128 := hs _ (List.getElem_mem hl)
    have hdec : Utf8.decode s pos = ((chars s)[pos].toNat, 1) := decode_ascii s pos hp hb
    have hcons : (chars s).drop pos = (chars s)[pos] :: (chars s).drop (pos + 1) := List.drop_eq_getElem_cons hl
    have htk : (chars s).take (pos + 1) = (chars s).take pos ++ [(chars s)[pos]] := List.take_succ_eq_append_getElem hl
    rw [hcons]
    unfold Lib.spansFromP
    rw [if_pos hp, hdec]
    simp only
    by_cases hsep : isSep (chars s)[pos].toNat = true
    · rw [if_pos hsep]
      cases st with
      | none =>
        simp only [Option.map_none, flds]
        rw [if_pos (show sepB _ = true from hsep)]
        exact ih (pos + 1) none acc (by omega) (by omega) (by simp)
      | some a =>
        simp only [Option.map_some, flds]
        rw [if_pos (show sepB _ = true from hsep), ih (pos + 1) none (acc ++ [(a, pos)]) (by omega) (by omega) (by simp)]
        simp only [List.map_append, List.map_cons, List.map_nil, List.append_assoc, chars_extract, Option.map_none, List.cons_append, List.nil_append]
    · rw [if_neg hsep]
      cases st with
      | none =>
        simp only [Option.map_none, flds]
        rw [if_neg (show ¬ sepB _ = true from hsep), ih (pos + 1) (some pos) acc (by omega) (by omega) (by intro a ha; cases ha; omega)]
        simp only [Option.map_some]
        rw [htk, List.drop_append_of_le_length (by rw [List.length_take]; omega), List.drop_eq_nil_of_le (by rw [List.length_take]; omega)]
        rfl
      | some a =>
        have ha := h3 a rfl
        simp only [Option.map_some, flds]
        rw [if_neg (show ¬ sepB _ = true from hsep), ih (pos + 1) (some a) acc (by omega) (by omega) (by intro a' ha'; cases ha'; omega)]
        simp only [Option.map_some]
        rw [htk, List.drop_append_of_le_length (by rw [List.length_take]; omega)]
theorem fields_ascii (s : ByteArray) (hs : ∀ b ∈ chars s, b.toNat < 128) : (Lib.goFieldsP isSep s).map chars = flds none (chars s) := by
  have := fields_spans s hs s.size 0 none [] (by omega) (Nat.zero_le _) (by simp)
  simpa [Lib.goFieldsP, Lib.spansOfP, List.map_map, Function.comp_def] using this

/-! ### numbersIn -/
/-- The numbers that words spell; none, if one is no number. -/
def numsG : List ByteArray → List Int → List Int
  | [], acc => acc
  | w :: l, acc => match Lib.atoiAll (chars w) with
    | .ok v => numsG l (acc ++ [v])
    | _ => []
def numsT (s : ByteArray) : List Int := numsG (Lib.goFieldsP isSep s) []
abbrev ints (l : List Int) : D := .arr 1 (l.map I)
theorem spans_length (p : Nat → Bool) (s : ByteArray) : ∀ (f pos : Nat) (st : Option Nat) (acc : List (Nat × Nat)), (Lib.spansFromP p s f pos st acc).1.length ≤ acc.length + f
  | 0, pos, st, acc => by simp [Lib.spansFromP]
  | f + 1, pos, st, acc => by
    unfold Lib.spansFromP
    by_cases hp : pos < s.size
    case neg =>
      rw [if_neg hp]
      exact Nat.le_add_right _ _
    rw [if_pos hp]
    by_cases hq : p (Utf8.decode s pos).1 = true
    · rw [if_pos hq]
      cases st with
      | none => exact Nat.le_trans (spans_length p s f _ none acc) (by omega)
      | some a =>
        have h := spans_length p s f (pos + (Utf8.decode s pos).2) none (acc ++ [(a, pos)])
        rw [List.length_append, List.length_singleton] at h
        exact Nat.le_trans h (by omega)
    · rw [if_neg hq]
      cases st with
      | none => exact Nat.le_trans (spans_length p s f _ _ acc) (by omega)
      | some a => exact Nat.le_trans (spans_length p s f _ _ acc) (by omega)
theorem fields_length (p : Nat → Bool) (s : ByteArray) : (Lib.goFieldsP p s).length ≤ s.size + 1 := by
  unfold Lib.goFieldsP Lib.spansOfP
  rw [List.length_map]
  have := spans_length p s s.size 0 none []
  unfold Lib.closeSpans
  split
  · simp only [List.length_append, List.length_cons, List.length_nil] at this ⊢; omega
  · simp only [List.length_nil] at this; omega
theorem fields_size (p : Nat → Bool) (s : ByteArray) : ∀ w ∈ Lib.goFieldsP p s, w.size ≤ s.size := by
  intro w hw
  unfold Lib.goFieldsP at hw
  obtain ⟨x, _, rfl⟩ := List.mem_map.1 hw
  rw [size_list, chars_extract, List.length_drop, List.length_take, ← size_list]
  omega
theorem e_FieldsFunc (s : ByteArray) (k : Nat) (p : Nat → Bool) (h : s.size ≤ 4294967296) : fFieldsFunc k p [T s, .clo k []] = some (.ret [.arr 1 ((Lib.goFieldsP p s).map T)] []) := by
  simp only [fFieldsFunc, h, and_self, if_true]
theorem one_int (a : Int) : mkArr 1 [I a] = some (ints [a]) := by simp [mkArr, lenOkD]
theorem chkA_ints (l : List Int) : chkA (ints l) = some (ints l) := chkA_map fun _ => rfl
theorem e_Atoi (w : ByteArray) (h : w.size ≤ 4294967296) : fAtoi [T w] = some (match Lib.atoiAll (chars w) with
    | .ok v => Out.ret [I v, .v .nilIface] []
    | .range => Out.ret [I (Lib.atoiSat (chars w)), .ifc] []
    | _ => Out.ret [I 0, .ifc] []) := by
  have h2 : w.size ≤ 281474976710656 := by omega
  simp only [fAtoi, h2, if_true]
  rw [show w.data.toList = chars w from rfl]
  cases Lib.atoiAll (chars w) <;> rfl
theorem e_impl_numbersIn (s : ByteArray) (h : s.size ≤ 1048576) : F_impl_numbersIn [T s] = some (.ret [ints (numsT s)] []) := by
  rw [t_impl_numbersIn]
  have hl := fields_length isSep s
  have hz := fields_size isSep s
  rw [e_FieldsFunc s _ isSep (by omega)]
  simp only [mkArr_nil, Option.bind_some, callK_ret, sl_zero, lenD_arr, List.length_map]
  generalize hw : Lib.goFieldsP isSep s = ws at hl hz
  have hnum : numsT s = numsG ws [] := by rw [numsT, hw]
  rw [hnum]
  refine loop_wf_bind (fun r => r = _) (fun (a : List Int × Nat) => [ints a.1, .arr 1 (ws.map T), I ws.length, I (a.2 : Int)]) (fun a => a.2 ≤ ws.length ∧ a.1.length ≤ a.2 ∧ numsG (ws.drop a.2) a.1 = numsG ws [])
    (fun a => ws.length - a.2) (fun o => o = .ext 0 [ints (numsG ws [])] ∨ o = .ret [ints (numsG ws [])] []) ?_ ([], 0) ⟨Nat.zero_le _, Nat.le_refl _, rfl⟩ rfl ?_
  · rintro ⟨acc, i⟩ ⟨h1, h2, h3⟩
    simp only at h1 h2 h3
    by_cases hi : i < ws.length
    · have hi' : (i : Int) < (ws.length : Int) := by omega
      have hw : IntKind.i64.wrap ((i : Int) + 1) = ((i + 1 : Nat) : Int) := by rw [wrap_id (by omega) (by omega)]; omega
      have hat := e_Atoi ws[i] (by have := hz ws[i] (List.getElem_mem hi); omega)
      have hel : elemD 1 (.arr 1 (ws.map T)) (I (i : Int)) = some [T ws[i]] := by simp [hi]
      rw [List.drop_eq_getElem_cons hi] at h3
      simp only [numsG] at h3
      cases ha : Lib.atoiAll (chars ws[i]) with
      | ok v =>
        rw [ha] at h3 hat
        left
        refine ⟨(acc ++ [v], i + 1), ?_, ⟨by simp only; omega, by simp; omega, h3⟩, by simp only; omega⟩
        have e1 : (acc.map I).length + ([v].map I).length = acc.length + 1 := by simp
        have hap : (acc.length + 1) * 8 ≤ 140737488355328 ∧ acc.length + 1 ≤ 1152921504606846976 := by omega
        simp only [sl_zero, sl_succ, Option.bind_some, bin_lss, hi', decide_true, ifD_B, if_true, hel, Option.map_some, ldD_ptr, takeD_f, chkV_v, hat, callK_ret, show tupAt (.tup [I v, .v .nilIface]) 0 = some (I v) from rfl,
          show tupAt (.tup [I v, .v .nilIface]) 1 = some (.v .nilIface) from rfl, show binI true BinOp.neq (.v .nilIface) (.v .nilIface) = some (B false) from rfl, Bool.false_eq_true, if_false, one_int, chkA_ints, appD_eq, e1, hap, and_self, bin_add, hw]
        rw [← List.map_append]
      | range =>
        rw [ha] at h3 hat
        right
        refine ⟨.ret [ints []] [], ?_, rfl, .inr (by rw [← h3])⟩
        simp only [sl_zero, sl_succ, Option.bind_some, bin_lss, hi', decide_true, ifD_B, if_true, hel, Option.map_some, ldD_ptr, takeD_f, chkV_v, hat, callK_ret, show ∀ n : Int, tupAt (.tup [I n, .ifc]) 0 = some (I n) from fun _ => rfl,
          show ∀ n : Int, tupAt (.tup [I n, .ifc]) 1 = some .ifc from fun _ => rfl, show binI true BinOp.neq .ifc (.v .nilIface) = some (B true) from rfl, mkArr_nil]
        rfl
      | _ =>
        rw [ha] at h3 hat
        right
        refine ⟨.ret [ints []] [], ?_, rfl, .inr (by rw [← h3])⟩
        simp only [sl_zero, sl_succ, Option.bind_some, bin_lss, hi', decide_true, ifD_B, if_true, hel, Option.map_some, ldD_ptr, takeD_f, chkV_v, hat, callK_ret, show tupAt (.tup [I 0, .ifc]) 0 = some (I 0) from rfl,
          show tupAt (.tup [I 0, .ifc]) 1 = some .ifc from rfl, show binI true BinOp.neq .ifc (.v .nilIface) = some (B true) from rfl, mkArr_nil]
        rfl
    · right
      have hi' : ¬ (i : Int) < (ws.length : Int) := by omega
      refine ⟨.ext 0 [ints acc], ?_, rfl, .inl ?_⟩
      · simp only [sl_zero, sl_succ, Option.bind_some, bin_lss, hi', decide_false, ifD_B, Bool.false_eq_true, if_false]
      · rw [List.drop_eq_nil_of_le (by omega)] at h3
        rw [← h3]
        rfl
  · rintro o (rfl | rfl)
    · simp only [outK_ext, Nat.beq_refl, ifN_B, if_true, sl_zero]
    · rfl
end Go.Proofs.YtecaabmaoaacnaaGreatDoor
/-
  Orders read out of texts.
-/
namespace Go.Proofs.YtecaabmaoaacnaaGreatDoor
open Go Go.V
set_option linter.unusedSimpArgs false

/-! ### l1Read -/
def readL (l : List UInt8) : Int :=
  if (1 ≤ l.length ∧ l.length ≤ 6) ∧ ¬ (l.head? = some 48 ∧ 1 < l.length) ∧ l.all dig = true then (valF 0 l : Int) else -1
def readT (s : ByteArray) : Int := readL (chars s)
theorem valF_snoc (l : List UInt8) (x : UInt8) (a : Nat) : valF a (l ++ [x]) = valF a l * 10 + (x.toNat - 48) := by simp [valF, List.foldl_append]
theorem valF_lt : ∀ (n : Nat) (l : List UInt8), l.length = n → (∀ b ∈ l, dig b = true) → valF 0 l < 10 ^ n := by
  intro n
  induction n with
  | zero =>
    intro l hl _
    rw [List.eq_nil_of_length_eq_zero hl]
    decide
  | succ n ih =>
    intro l hl hd
    have hne : l ≠ [] := fun e => by rw [e] at hl; simp at hl
    have hsp := List.dropLast_concat_getLast hne
    have h1 := ih l.dropLast (by rw [List.length_dropLast]; omega) fun b hb => hd b ((List.dropLast_sublist l).subset hb)
    have h2 := dig_iff.1 (hd _ (List.getLast_mem hne))
    rw [← hsp, valF_snoc, Nat.pow_succ]
    omega
theorem e_spec_l1Read (s : ByteArray) (h : s.size ≤ 4294967296) : F_spec_l1Read [T s] = some (.ret [I (readT s)] []) := by
  rw [t_spec_l1Read]
  have hsz : s.size = (chars s).length := rfl
  by_cases h1 : 1 ≤ (s.size : Int) ∧ (s.size : Int) ≤ 6
  case neg =>
    have hr : readT s = -1 := by
      unfold readT readL
      rw [if_neg (by rintro ⟨⟨g1, g2⟩, _⟩; exact h1 (by omega))]
    rw [hr]
    simp -implicitDefEqProofs [e_spec_l1In, h1]
  have hpos : 0 < (chars s).length := by omega
  have hch0 : charD (T s) (I 0) = some (U ((chars s)[0].toNat : Int)) := by
    have := charD_nat (s := s) (k := .i64) (i := 0)
    rw [List.getElem?_eq_getElem hpos] at this
    exact this
  have hhead : (chars s).head? = some (chars s)[0] := by rw [List.head?_eq_getElem?, List.getElem?_eq_getElem hpos]
  have h48 : (48 : UInt8).toNat = 48 := rfl
  have hc48 : ((chars s)[0].toNat : Int) = 48 ↔ (chars s)[0] = 48 := ⟨fun e => UInt8.toNat_inj.1 (by omega), fun e => by rw [e]; rfl⟩
  by_cases h2 : (chars s)[0] = 48 ∧ 1 < (chars s).length
  · have hr : readT s = -1 := by
      unfold readT readL
      rw [if_neg (by rintro ⟨_, g, _⟩; exact g ⟨by rw [hhead, h2.1], h2.2⟩)]
    have hl : (1 : Int) < (s.size : Int) := by omega
    have hc := hc48.2 h2.1
    rw [hr]
    simp -implicitDefEqProofs [e_spec_l1In, h1, hch0, hc, hl]
  have hgo : ∀ (K : D → Option Out), ((bin BinOp.eql false [] (U ((chars s)[0].toNat : Int)) (D.v (Value.int IntKind.u8 48))).bind fun z_3 => (gate (D.tup []) (B false) false (some z_3)).bind fun z_4 => (gate (D.tup []) z_4 true (some (T s))).bind fun z_5 =>
      (gate (D.tup []) z_4 true (lenD true z_5)).bind fun z_6 => (gate (D.tup []) z_4 true (bin BinOp.gtr false [] z_6 (D.v (Value.int IntKind.i64 1)))).bind fun z_7 => (gate (D.tup []) (B false) false (pickD z_4 z_7 (D.v (Value.bool false)))).bind K) = K (B false) := by
    intro K
    by_cases e : ((chars s)[0].toNat : Int) = 48
    · have : ¬ (1 : Int) < (s.size : Int) := fun hl => h2 ⟨hc48.1 e, by omega⟩
      simp -implicitDefEqProofs [e, this]
    · simp -implicitDefEqProofs [e]
  simp only [lenD_str, Option.bind_some, e_spec_l1In, h1, and_self, decide_true, callK_ret, sl_zero, un_not, Bool.not_true, gate_f, Bool.false_eq_true, if_false, hch0]
  have hgo' := hgo
  simp only [gate_f, Bool.false_eq_true, if_false, Option.bind_some] at hgo'
  rw [hgo']
  simp only [pickD_B, Bool.false_eq_true, if_false, Option.bind_some, ifD_B]
  refine loop_wf_bind (fun r => r = _) (fun (a : Nat × Nat) => [T s, I (a.1 : Int), I (a.2 : Int)]) (fun a => a.2 ≤ s.size ∧ a.1 = valF 0 ((chars s).take a.2) ∧ ∀ b ∈ (chars s).take a.2, dig b = true) (fun a => s.size - a.2)
    (fun o => o = if (chars s).all dig = true then .ext 0 [I (valF 0 (chars s) : Int)] else .ret [I (-1)] []) ?_ (0, 0) ⟨Nat.zero_le _, rfl, by simp⟩ rfl ?_
  · rintro ⟨n, i⟩ ⟨g1, g2, g3⟩
    simp only at g1 g2 g3
    by_cases hi : i < s.size
    · have hl : i < (chars s).length := by rw [← hsz]; exact hi
      have hi' : (i : Int) < (s.size : Int) := by omega
      have hch : charD (T s) (I (i : Int)) = some (U ((chars s)[i].toNat : Int)) := by
        rw [charD_nat, List.getElem?_eq_getElem hl]
        rfl
      have htk : (chars s).take (i + 1) = (chars s).take i ++ [(chars s)[i]] := List.take_succ_eq_append_getElem hl
      by_cases hd : dig (chars s)[i] = true
      · left
        have hd' := dig_iff.1 hd
        have hn : n < 10 ^ i := by
          rw [g2]
          exact valF_lt i _ (by rw [List.length_take]; omega) g3
        have h10 : 10 ^ i ≤ 10 ^ 6 := Nat.pow_le_pow_right (by decide) (by omega)
        have hw : IntKind.i64.wrap ((i : Int) + 1) = ((i + 1 : Nat) : Int) := by rw [wrap_id (by omega) (by omega)]; omega
        have hw1 : IntKind.i64.wrap (10 * (n : Int)) = 10 * (n : Int) := wrap_id (by omega) (by omega)
        have hw2 : IntKind.u8.wrap (((chars s)[i].toNat : Int) - 48) = ((chars s)[i].toNat : Int) - 48 := wrap8 _ (by omega) (by omega)
        have hw3 : IntKind.i64.wrap (((chars s)[i].toNat : Int) - 48) = ((chars s)[i].toNat : Int) - 48 := wrap_id (by omega) (by omega)
        have hw4 : IntKind.i64.wrap (10 * (n : Int) + (((chars s)[i].toNat : Int) - 48)) = ((n * 10 + ((chars s)[i].toNat - 48) : Nat) : Int) := by rw [wrap_id (by omega) (by omega)]; omega
        have c1 : ¬ ((chars s)[i].toNat : Int) < 48 := by omega
        have c2 : ¬ (57 : Int) < ((chars s)[i].toNat : Int) := by omega
        refine ⟨(n * 10 + ((chars s)[i].toNat - 48), i + 1), ?_, ⟨by simp only; omega, ?_, ?_⟩, by simp only; omega⟩
        · simp only [sl_zero, sl_succ, lenD_str, Option.bind_some, bin_lss, hi', decide_true, ifD_B, if_true, hch, c1, decide_false, gate_f, Bool.false_eq_true, if_false, bin_gtr, c2, pickD_B, bin_mul, hw1, bin_sub, hw2, convD, hw3, bin_add, hw4, hw]
        · simp only
          rw [htk, valF_snoc, g2]
        · simp only
          rw [htk]
          intro b hb
          rcases List.mem_append.1 hb with hb | hb
          · exact g3 b hb
          · rw [List.mem_singleton.1 hb]; exact hd
      · right
        refine ⟨.ret [I (-1)] [], ?_, rfl, ?_⟩
        · by_cases c1 : ((chars s)[i].toNat : Int) < 48
          · simp -implicitDefEqProofs [hi', hch, c1]
          · have c2 : (57 : Int) < ((chars s)[i].toNat : Int) := by
              have : ¬ (48 ≤ (chars s)[i].toNat ∧ (chars s)[i].toNat ≤ 57) := fun e => hd (dig_iff.2 e)
              omega
            simp -implicitDefEqProofs [hi', hch, c1, c2]
        · rw [if_neg]
          intro hall
          exact hd (List.all_eq_true.1 hall _ (List.getElem_mem hl))
    · right
      have hi' : ¬ (i : Int) < (s.size : Int) := by omega
      have hie : (chars s).take i = chars s := List.take_of_length_le (by omega)
      rw [hie] at g2 g3
      refine ⟨.ext 0 [I (n : Int)], ?_, rfl, ?_⟩
      · simp -implicitDefEqProofs [hi']
      · rw [if_pos (List.all_eq_true.2 g3), g2]
  · rintro o rfl
    by_cases ha : (chars s).all dig = true
    · have hr : readT s = (valF 0 (chars s) : Int) := by
        unfold readT readL
        rw [if_pos ⟨⟨by omega, by omega⟩, fun g => h2 ⟨by have := g.1; rw [hhead] at this; exact Option.some.inj this, g.2⟩, ha⟩]
      rw [if_pos ha, hr]
      rfl
    · have hr : readT s = -1 := by
        unfold readT readL
        rw [if_neg (fun g => ha g.2.2)]
      rw [if_neg ha, hr]
      rfl
theorem decDigits_len {u : Nat} (h : u < 1000000) : (Lib.decDigits u).length ≤ 6 := numT_size 5 u (by omega)
theorem readL_dec {u : Nat} (h : u < 1000000) : readL (Lib.decDigits u) = (u : Int) := by
  have h1 := decDigits_ne u
  have h2 := decDigits_len h
  have h3 : 1 ≤ (Lib.decDigits u).length := List.length_pos_iff.2 h1
  have hno : ¬ ((Lib.decDigits u).head? = some 48 ∧ 1 < (Lib.decDigits u).length) := by
    rintro ⟨g1, g2⟩
    by_cases hu : 0 < u
    · cases hd : Lib.decDigits u with
      | nil => exact h1 hd
      | cons b t =>
        rw [hd] at g1
        exact decDigits_head u hu b t hd (by simpa using g1)
    · have : u = 0 := by omega
      subst this
      rw [Lib.decDigits_one (by decide)] at g2
      simp at g2
  unfold readL
  rw [if_pos ⟨⟨h3, h2⟩, hno, List.all_eq_true.2 (decDigits_dig u)⟩, valF_dec]
theorem chars_intT (n : Int) (h : 0 ≤ n) : chars (intT n) = Lib.decDigits n.toNat := by
  obtain ⟨u, rfl⟩ := Int.eq_ofNat_of_zero_le h
  rw [intT_nat]
  exact chars_mk _
theorem readT_int {n : Int} (h0 : 0 ≤ n) (h1 : n < 1000000) : readT (intT n) = n := by
  unfold readT
  rw [chars_intT n h0, readL_dec (by omega)]
  omega
theorem atoi_int {n : Int} (h0 : 0 ≤ n) (h1 : n < 1000000) : Lib.atoiAll (chars (intT n)) = .ok n := by
  rw [chars_intT n h0, atoi_dec (by omega)]
  congr 1
  omega
theorem dig_int {n : Int} (h0 : 0 ≤ n) : chars (intT n) ≠ [] ∧ ∀ b ∈ chars (intT n), dig b = true := by
  rw [chars_intT n h0]
  exact ⟨decDigits_ne _, decDigits_dig _⟩
theorem dig_lt {b : UInt8} (h : dig b = true) : b.toNat < 128 := by
  have := dig_iff.1 h
  omega
/-- The numbers of a text whose fields are numerals. -/
theorem numsT_of {s : ByteArray} (hs : ∀ b ∈ chars s, b.toNat < 128) {ns : List Int} (hn : ∀ n ∈ ns, 0 ≤ n ∧ n < 1000000) (h : flds none (chars s) = ns.map fun n => chars (intT n)) : numsT s = ns := by
  unfold numsT
  have hf := fields_ascii s hs
  rw [h] at hf
  have key : ∀ (ws : List ByteArray) (ns : List Int) (acc : List Int), (∀ n ∈ ns, 0 ≤ n ∧ n < 1000000) → ws.map chars = ns.map (fun n => chars (intT n)) → numsG ws acc = acc ++ ns := by
    intro ws
    induction ws with
    | nil =>
      intro ns acc _ e
      cases ns with
      | nil => simp [numsG]
      | cons _ _ => simp at e
    | cons w ws ih =>
      intro ns acc hn e
      cases ns with
      | nil => simp at e
      | cons n ns =>
        rw [List.map_cons, List.map_cons, List.cons.injEq] at e
        have hr := hn n (by simp)
        simp only [numsG]
        rw [e.1, atoi_int hr.1 hr.2]
        simp only
        rw [ih ns (acc ++ [n]) (fun m hm => hn m (by simp [hm])) e.2]
        simp
  simpa using key _ ns [] hn hf

/-! ### orders -/
theorem chars_odT (x : Od) : chars (odT x) = [35] ++ (chars (intT x.1) ++ 32 :: (chars (intT x.2.1) ++ 43 :: (chars (intT x.2.2.1) ++ 32 :: ([98, 121, 32] ++ chars (intT x.2.2.2))))) := by
  simp only [odT, chars_append, List.append_assoc]
  rfl
theorem odT_ascii {x : Od} (h : isOd x = true) : ∀ b ∈ chars (odT x), b.toNat < 128 := by
  obtain ⟨h1, h2, h3, h4⟩ := isOd_iff.1 h
  have d1 := (dig_int (n := x.1) (by omega)).2
  have d2 := (dig_int (n := x.2.1) (by omega)).2
  have d3 := (dig_int (n := x.2.2.1) (by omega)).2
  have d4 := (dig_int (n := x.2.2.2) (by omega)).2
  rw [chars_odT]
  intro b hb
  simp only [List.mem_append, List.mem_cons, List.not_mem_nil, or_false] at hb
  rcases hb with rfl | hb | rfl | hb | rfl | hb | rfl | (rfl | rfl | rfl) | hb <;> first
    | decide
    | exact dig_lt (d1 b hb)
    | exact dig_lt (d2 b hb)
    | exact dig_lt (d3 b hb)
    | exact dig_lt (d4 b hb)
theorem numsT_od {x : Od} (h : isOd x = true) : numsT (odT x) = [x.1, x.2.1, x.2.2.1, x.2.2.2] := by
  obtain ⟨h1, h2, h3, h4⟩ := isOd_iff.1 h
  have d1 := dig_int (n := x.1) (by omega)
  have d2 := dig_int (n := x.2.1) (by omega)
  have d3 := dig_int (n := x.2.2.1) (by omega)
  have d4 := dig_int (n := x.2.2.2) (by omega)
  refine numsT_of (odT_ascii h) (by simp; omega) ?_
  rw [chars_odT, flds_sep _ (by decide), flds_word d1.1 d1.2 (by decide), flds_word d2.1 d2.2 (by decide), flds_word d3.1 d3.2 (by decide), flds_sep _ (by decide), flds_last d4.1 d4.2]
  rfl
def orderI (s : ByteArray) : Option Od :=
  match numsT s with
  | [a, b, c, d] => if isOd (a, b, c, d) = true ∧ odT (a, b, c, d) = s then some (a, b, c, d) else none
  | _ => none
def orderS (s : ByteArray) : Option Od :=
  match splitT 32 s with
  | [w0, w1, _, w3] => if w0 = ⟨#[]⟩ then none else
    match splitT 43 w1 with
    | [t0, t1] => if isOd (readT (w0.extract 1 w0.size), readT t0, readT t1, readT w3) = true ∧ odT (readT (w0.extract 1 w0.size), readT t0, readT t1, readT w3) = s then some (readT (w0.extract 1 w0.size), readT t0, readT t1, readT w3) else none
    | _ => none
  | _ => none
theorem orderI_some {s : ByteArray} {x : Od} (h : orderI s = some x) : isOd x = true ∧ odT x = s := by
  unfold orderI at h
  split at h
  · split at h
    · rename_i hc
      cases h
      exact hc
    · cases h
  · cases h
theorem orderS_some {s : ByteArray} {x : Od} (h : orderS s = some x) : isOd x = true ∧ odT x = s := by
  unfold orderS at h
  split at h
  · split at h
    · cases h
    · split at h
      · split at h
        · rename_i hc
          cases h
          exact hc
        · cases h
      · cases h
  · cases h
theorem orderI_od {x : Od} (h : isOd x = true) : orderI (odT x) = some x := by
  unfold orderI
  rw [numsT_od h]
  simp only
  rw [if_pos (by simp [h])]
theorem not_dig {b : UInt8} {l : List UInt8} (h : ∀ x ∈ l, dig x = true) (hb : dig b = false) : b ∉ l := fun hm => by rw [h b hm] at hb; cases hb
theorem orderS_od {x : Od} (h : isOd x = true) : orderS (odT x) = some x := by
  obtain ⟨h1, h2, h3, h4⟩ := isOd_iff.1 h
  have d1 := dig_int (n := x.1) (by omega)
  have d2 := dig_int (n := x.2.1) (by omega)
  have d3 := dig_int (n := x.2.2.1) (by omega)
  have d4 := dig_int (n := x.2.2.2) (by omega)
  have e32 : splitT 32 (odT x) = [⟨((35 : UInt8) :: chars (intT x.1)).toArray⟩, ⟨(chars (intT x.2.1) ++ 43 :: chars (intT x.2.2.1)).toArray⟩, ⟨#[98, 121]⟩, intT x.2.2.2] := by
    have n1 : (32 : UInt8) ∉ [35] ++ chars (intT x.1) := by
      rw [List.mem_append]
      rintro (hm | hm)
      · simp at hm
      · exact not_dig d1.2 (by decide) hm
    have n2 : (32 : UInt8) ∉ chars (intT x.2.1) ++ 43 :: chars (intT x.2.2.1) := by
      rw [List.mem_append, List.mem_cons]
      rintro (hm | hm | hm)
      · exact not_dig d2.2 (by decide) hm
      · simp at hm
      · exact not_dig d3.2 (by decide) hm
    have hc : chars (odT x) = ([35] ++ chars (intT x.1)) ++ 32 :: ((chars (intT x.2.1) ++ 43 :: chars (intT x.2.2.1)) ++ 32 :: ([98, 121] ++ 32 :: chars (intT x.2.2.2))) := by
      rw [chars_odT]
      simp
    unfold splitT
    rw [hc, splitL_hit n1, splitL_hit n2, splitL_hit (by decide), splitL_miss (not_dig d4.2 (by decide))]
    simp only [List.map_cons, List.map_nil, mk_chars]
    rfl
  have e43 : splitT 43 ⟨(chars (intT x.2.1) ++ 43 :: chars (intT x.2.2.1)).toArray⟩ = [intT x.2.1, intT x.2.2.1] := by
    unfold splitT
    rw [chars_mk, splitL_hit (not_dig d2.2 (by decide)), splitL_miss (not_dig d3.2 (by decide))]
    simp only [List.map_cons, List.map_nil, mk_chars]
  have ew : readT ((⟨((35 : UInt8) :: chars (intT x.1)).toArray⟩ : ByteArray).extract 1 (⟨((35 : UInt8) :: chars (intT x.1)).toArray⟩ : ByteArray).size) = x.1 := by
    have : (⟨((35 : UInt8) :: chars (intT x.1)).toArray⟩ : ByteArray).extract 1 (⟨((35 : UInt8) :: chars (intT x.1)).toArray⟩ : ByteArray).size = intT x.1 := by
      apply chars_inj
      rw [chars_extract, chars_mk, size_list, chars_mk]
      simp only [List.length_cons, List.take_succ_cons, List.drop_succ_cons, List.drop_zero]
      exact List.take_of_length_le (Nat.le_refl _)
    rw [this, readT_int (by omega) (by omega)]
  have hne : ¬ (⟨((35 : UInt8) :: chars (intT x.1)).toArray⟩ : ByteArray) = ⟨#[]⟩ := fun e => by
    have := congrArg chars e
    rw [chars_mk] at this
    cases this
  unfold orderS
  rw [e32]
  simp only
  rw [if_neg hne, e43]
  simp only
  rw [ew, readT_int (n := x.2.1) (by omega) (by omega), readT_int (n := x.2.2.1) (by omega) (by omega), readT_int (n := x.2.2.2) (by omega) (by omega), if_pos (by simp [h])]
theorem order_eq (s : ByteArray) : orderI s = orderS s := by
  cases hi : orderI s with
  | some x =>
    obtain ⟨h1, h2⟩ := orderI_some hi
    rw [← h2, orderS_od h1]
  | none =>
    cases hs : orderS s with
    | none => rfl
    | some x =>
      obtain ⟨h1, h2⟩ := orderS_some hs
      rw [← h2, orderI_od h1] at hi
      cases hi
def ordR (o : Option Od) : Od := o.getD (0, 0, 0, 0)
theorem e_impl_ParseOrder (s : ByteArray) (h : s.size ≤ 1048576) : F_impl_ParseOrder [T s] = some (.ret [od (ordR (orderI s)), B (orderI s).isSome] []) := by
  rw [t_impl_ParseOrder, e_impl_numbersIn s h]
  unfold orderI
  generalize numsT s = ns
  rcases ns with _ | ⟨a, _ | ⟨b, _ | ⟨c, _ | ⟨d, _ | ⟨e, ns⟩⟩⟩⟩⟩
  · simp -implicitDefEqProofs [ordR, bldD, fillD]
  · simp -implicitDefEqProofs [ordR, bldD, fillD]
  · simp -implicitDefEqProofs [ordR, bldD, fillD]
  · simp -implicitDefEqProofs [ordR, bldD, fillD]
  · have hio := e_impl_isOrder (a, b, c, d)
    by_cases h1 : isOd (a, b, c, d) = true
    · have ht := e_impl_orderText (a, b, c, d) h1
      rw [h1] at hio
      by_cases h2 : odT (a, b, c, d) = s
      · simp -implicitDefEqProofs [ordR, bldD, fillD, hio, ht, h1, h2, elemD]
      · simp -implicitDefEqProofs [ordR, bldD, fillD, hio, ht, h1, h2, elemD]
    · rw [Bool.not_eq_true] at h1
      rw [h1] at hio
      simp -implicitDefEqProofs [ordR, bldD, fillD, hio, h1, elemD]
  · have hl : ¬ ((ns.length : Int) + 1 + 1 + 1 + 1 + 1 = 4) := by omega
    simp -implicitDefEqProofs [ordR, bldD, fillD, hl]
theorem splitT_size (c : UInt8) (s : ByteArray) : ∀ w ∈ splitT c s, w.size ≤ s.size := by
  intro w hw
  unfold splitT at hw
  obtain ⟨l, hl, rfl⟩ := List.mem_map.1 hw
  have key : ∀ (m : List UInt8), ∀ l ∈ splitL c m, l.length ≤ m.length := by
    intro m
    induction m with
    | nil => intro l hl; simp [splitL] at hl; simp [hl]
    | cons x m ih =>
      intro l hl
      simp only [splitL] at hl
      split at hl
      · rcases List.mem_cons.1 hl with rfl | hl
        · simp
        · have := ih l hl
          simp; omega
      · generalize hs : splitL c m = t at hl ih
        cases t with
        | nil => exact absurd hs (splitL_ne c m)
        | cons y t =>
          simp only [consH] at hl
          rcases List.mem_cons.1 hl with rfl | hl
          · have := ih y (by simp)
            simp; omega
          · have := ih l (by simp [hl])
            simp; omega
  have := key _ l hl
  rw [size_list, chars_mk]
  exact this
theorem splitT_length (c : UInt8) (s : ByteArray) : (splitT c s).length = (splitL c (chars s)).length := by simp [splitT]
theorem e_spec_ParseOrder (s : ByteArray) (h : s.size ≤ 1048576) : F_spec_ParseOrder [T s] = some (.ret [od (ordR (orderS s)), B (orderS s).isSome] []) := by
  rw [t_spec_ParseOrder]
  have hs : F_spec_l1Split [T s, D.v (Value.int IntKind.u8 32)] = some (.ret [.arr 1 ((splitT 32 s).map T)] []) := e_spec_l1Split s 32 (by omega)
  have hz := splitT_size 32 s
  rw [hs]
  have hll : ((splitT 32 s).length : Int) ≤ 1048577 := by
    have := splitL_length 32 (chars s)
    have h2 := splitT_length 32 s
    have h3 : s.size = (chars s).length := rfl
    omega
  unfold orderS
  generalize splitT 32 s = ws at hz hll
  rcases ws with _ | ⟨w0, _ | ⟨w1, _ | ⟨w2, _ | ⟨w3, _ | ⟨w4, ws⟩⟩⟩⟩⟩
  · simp -implicitDefEqProofs [ordR, bldD, fillD]
  · simp -implicitDefEqProofs [ordR, bldD, fillD]
  · simp -implicitDefEqProofs [ordR, bldD, fillD]
  · simp -implicitDefEqProofs [ordR, bldD, fillD]
  · have e0 : elemD 1 (.arr 1 [T w0, T w1, T w2, T w3]) (I 0) = some [T w0] := rfl
    have e1 : elemD 1 (.arr 1 [T w0, T w1, T w2, T w3]) (I 1) = some [T w1] := rfl
    have e3 : elemD 1 (.arr 1 [T w0, T w1, T w2, T w3]) (I 3) = some [T w3] := rfl
    have emp : (D.v (Value.string { data := { toList := [] } })) = T ⟨#[]⟩ := rfl
    rw [emp]
    by_cases h0 : w0 = ⟨#[]⟩
    · simp -implicitDefEqProofs [ordR, bldD, fillD, e0, h0]
    have hw0 := hz w0 (by simp)
    have hw1 := hz w1 (by simp)
    have hw3 := hz w3 (by simp)
    have hs1 : F_spec_l1Split [T w1, D.v (Value.int IntKind.u8 43)] = some (.ret [.arr 1 ((splitT 43 w1).map T)] []) := e_spec_l1Split w1 43 (by omega)
    have hz1 := splitT_size 43 w1
    have hpos : 1 ≤ w0.size := by
      rcases Nat.lt_or_ge 0 w0.size with g | g
      · exact g
      · exact absurd (chars_inj (b := ⟨#[]⟩) (List.eq_nil_of_length_eq_zero (by rw [← size_list]; omega))) h0
    have hsl : sliceHi true 0 (T w0) (I 1) = some (T (w0.extract 1 w0.size)) := sliceHiS (i := 1) hpos
    have hll1 : ((splitT 43 w1).length : Int) ≤ 1048577 := by
      have := splitL_length 43 (chars w1)
      have h2 := splitT_length 43 w1
      have h3 : w1.size = (chars w1).length := rfl
      omega
    simp only [List.map_cons, List.map_nil, callK_ret, sl_zero, lenD_arr, List.length_cons, List.length_nil, Option.bind_some, bin_neq, show ((0 + 1 + 1 + 1 + 1 : Nat) : Int) = 4 from rfl, decide_true, Bool.not_true, gate_f, Bool.false_eq_true, if_false, e0, e1, e3, Option.map_some, ldD_ptr, takeD_f, chkV_v, bin_eqlS, h0, decide_false, pickD_B, ifD_B, hs1]
    generalize splitT 43 w1 = ts at hz1 hll1
    rcases ts with _ | ⟨t0, _ | ⟨t1, _ | ⟨t2, ts⟩⟩⟩
    · simp -implicitDefEqProofs [ordR, bldD, fillD]
    · simp -implicitDefEqProofs [ordR, bldD, fillD]
    · have f0 : elemD 1 (.arr 1 [T t0, T t1]) (I 0) = some [T t0] := rfl
      have f1 : elemD 1 (.arr 1 [T t0, T t1]) (I 1) = some [T t1] := rfl
      have ht0 := hz1 t0 (by simp)
      have ht1 := hz1 t1 (by simp)
      have r0 := e_spec_l1Read (w0.extract 1 w0.size) (by rw [size_list, chars_extract, List.length_drop, List.length_take, ← size_list]; omega)
      have r1 := e_spec_l1Read t0 (by omega)
      have r2 := e_spec_l1Read t1 (by omega)
      have r3 := e_spec_l1Read w3 (by omega)
      simp only [List.map_cons, List.map_nil, lenD_arr, List.length_cons, List.length_nil, Option.bind_some, bin_neq, show ((0 + 1 + 1 : Nat) : Int) = 2 from rfl, decide_true, Bool.not_true, ifD_B, Bool.false_eq_true, if_false, hsl, f0, f1, Option.map_some, ldD_ptr, takeD_f, chkV_v, r0, r1, r2, r3, callK_ret, sl_zero]
      generalize readT (w0.extract 1 w0.size) = a
      generalize readT t0 = b
      generalize readT t1 = c
      generalize readT w3 = d
      have hio := e_spec_orOne (a, b, c, d)
      by_cases h1 : isOd (a, b, c, d) = true
      · have ht := e_spec_orText (a, b, c, d) h1
        rw [h1] at hio
        by_cases h2 : odT (a, b, c, d) = s
        · simp -implicitDefEqProofs [ordR, bldD, fillD, hio, ht, h1, h2]
        · simp -implicitDefEqProofs [ordR, bldD, fillD, hio, ht, h1, h2]
      · rw [Bool.not_eq_true] at h1
        rw [h1] at hio
        simp -implicitDefEqProofs [ordR, bldD, fillD, hio, h1]
    · have hl : ¬ ((ts.length : Int) + 1 + 1 + 1 = 2) := by omega
      simp -implicitDefEqProofs [ordR, bldD, fillD, hl]
  · have hl : ¬ ((ws.length : Int) + 1 + 1 + 1 + 1 + 1 = 4) := by omega
    simp -implicitDefEqProofs [ordR, bldD, fillD, hl]
end Go.Proofs.YtecaabmaoaacnaaGreatDoor
/-
  Numbers in a text with a byte between them: written, read back in two ways.
-/
namespace Go.Proofs.YtecaabmaoaacnaaGreatDoor
open Go Go.V
set_option linter.unusedSimpArgs false

/-- Texts with a byte between them. -/
def joinL (c : UInt8) : List (List UInt8) → List UInt8
  | [] => []
  | [a] => a
  | a :: b :: l => a ++ c :: joinL c (b :: l)
theorem splitL_joinL {c : UInt8} : ∀ (ws : List (List UInt8)), ws ≠ [] → (∀ w ∈ ws, c ∉ w) → splitL c (joinL c ws) = ws
  | [], h, _ => absurd rfl h
  | [a], _, h => splitL_miss (h a (by simp))
  | a :: b :: l, _, h => by
    have hj : joinL c (a :: b :: l) = a ++ c :: joinL c (b :: l) := rfl
    rw [hj, splitL_hit (h a (by simp)), splitL_joinL (b :: l) (by simp) fun w hw => h w (by simp [hw])]
theorem joinL_splitL (c : UInt8) : ∀ (l : List UInt8), joinL c (splitL c l) = l
  | [] => rfl
  | x :: l => by
    have ih := joinL_splitL c l
    simp only [splitL]
    split
    · rename_i hx
      cases hs : splitL c l with
      | nil => exact absurd hs (splitL_ne c l)
      | cons y t =>
        rw [hs] at ih
        have : joinL c ([] :: y :: t) = [] ++ c :: joinL c (y :: t) := rfl
        rw [this, ih, hx]
        rfl
    · cases hs : splitL c l with
      | nil => exact absurd hs (splitL_ne c l)
      | cons y t =>
        rw [hs] at ih
        cases t with
        | nil =>
          have e : joinL c [y] = y := rfl
          rw [e] at ih
          show x :: y = x :: l
          rw [ih]
        | cons z t =>
          have e : joinL c (y :: z :: t) = y ++ c :: joinL c (z :: t) := rfl
          rw [e] at ih
          show (x :: y) ++ c :: joinL c (z :: t) = x :: l
          rw [← ih]
          rfl
theorem flds_joinL {c : UInt8} (hc : dig c = false) : ∀ (ws : List (List UInt8)), (∀ w ∈ ws, w ≠ [] ∧ ∀ b ∈ w, dig b = true) → flds none (joinL c ws) = ws
  | [], _ => rfl
  | [a], h => flds_last (h a (by simp)).1 (h a (by simp)).2
  | a :: b :: l, h => by
    have hj : joinL c (a :: b :: l) = a ++ c :: joinL c (b :: l) := rfl
    rw [hj, flds_word (h a (by simp)).1 (h a (by simp)).2 hc, flds_joinL hc (b :: l) fun w hw => h w (by simp [hw])]
theorem mem_joinL {c b : UInt8} : ∀ {ws : List (List UInt8)}, b ∈ joinL c ws → b = c ∨ ∃ w ∈ ws, b ∈ w
  | [], h => by cases h
  | [a], h => .inr ⟨a, by simp, h⟩
  | a :: a' :: l, h => by
    have hj : joinL c (a :: a' :: l) = a ++ c :: joinL c (a' :: l) := rfl
    rw [hj, List.mem_append, List.mem_cons] at h
    rcases h with h | h | h
    · exact .inr ⟨a, by simp, h⟩
    · exact .inl h
    · rcases mem_joinL h with h | ⟨w, hw, hb⟩
      · exact .inl h
      · exact .inr ⟨w, by simp only [List.mem_cons] at hw ⊢; exact .inr hw, hb⟩

/-! ### numerals are read back -/
theorem decDigits_val : ∀ (n : Nat) (l : List UInt8), l.length = n + 1 → (∀ b ∈ l, dig b = true) → (l.head? = some 48 → n = 0) → Lib.decDigits (valF 0 l) = l := by
  intro n
  induction n with
  | zero =>
    intro l hl hd _
    obtain ⟨x, rfl⟩ := List.length_eq_one_iff.1 hl
    have hx := dig_iff.1 (hd x (by simp))
    have hv : valF 0 [x] = x.toNat - 48 := by simp [valF]
    rw [hv, Lib.decDigits_one (by omega)]
    congr 1
    apply UInt8.toNat_inj.1
    rw [toNat_digit (by omega)]
    omega
  | succ n ih =>
    intro l hl hd hz
    have hne : l ≠ [] := fun e => by rw [e] at hl; simp at hl
    have hsp := List.dropLast_concat_getLast hne
    have hlen : l.dropLast.length = n + 1 := by rw [List.length_dropLast]; omega
    have hne2 : l.dropLast ≠ [] := fun e => by rw [e] at hlen; simp at hlen
    have hx := dig_iff.1 (hd _ (List.getLast_mem hne))
    have hhead : l.head? = l.dropLast.head? := by
      conv => lhs; rw [← hsp]
      cases h : l.dropLast with
      | nil => exact absurd h hne2
      | cons a t => rfl
    have h48 : l.dropLast.head? ≠ some 48 := fun e => by have := hz (hhead.trans e); omega
    have hi := ih l.dropLast hlen (fun b hb => hd b ((List.dropLast_sublist l).subset hb)) fun e => absurd e h48
    have hpos : 1 ≤ valF 0 l.dropLast := by
      rcases Nat.lt_or_ge 0 (valF 0 l.dropLast) with g | g
      · exact g
      · have h0 : valF 0 l.dropLast = 0 := by omega
        rw [h0, Lib.decDigits_one (by decide)] at hi
        rw [← hi] at h48
        exact absurd rfl h48
    have hv : valF 0 l = valF 0 l.dropLast * 10 + ((l.getLast hne).toNat - 48) := by
      conv => lhs; rw [← hsp]
      exact valF_snoc _ _ _
    rw [hv, decDigits_step (by omega)]
    have h1 : (valF 0 l.dropLast * 10 + ((l.getLast hne).toNat - 48)) / 10 = valF 0 l.dropLast := by omega
    have h2 : (valF 0 l.dropLast * 10 + ((l.getLast hne).toNat - 48)) % 10 = (l.getLast hne).toNat - 48 := by omega
    rw [h1, h2, hi]
    conv => rhs; rw [← hsp]
    congr 1
    congr 1
    apply UInt8.toNat_inj.1
    rw [toNat_digit (by omega)]
    omega
theorem readT_canon {w : ByteArray} {n : Int} (h : readT w = n) (h0 : 0 ≤ n) : w = intT n := by
  unfold readT readL at h
  split at h
  · rename_i hc
    obtain ⟨⟨g1, g2⟩, g3, g4⟩ := hc
    subst h
    apply chars_inj
    rw [chars_intT _ h0]
    have : ((valF 0 (chars w) : Int)).toNat = valF 0 (chars w) := by omega
    rw [this]
    refine (decDigits_val ((chars w).length - 1) (chars w) (by omega) (List.all_eq_true.1 g4) fun e => ?_).symm
    rcases Nat.lt_or_ge 1 (chars w).length with g | g
    · exact absurd ⟨e, g⟩ g3
    · omega
  · omega

/-! ### numbers with a byte between them -/
def numsJ (c : UInt8) (ns : List Int) : ByteArray := ⟨(joinL c (ns.map fun n => chars (intT n))).toArray⟩
def fewI (ns : List Int) : Prop := ∀ n ∈ ns, 0 ≤ n ∧ n < 1000000000000000000
theorem chars_numsJ (c : UInt8) (ns : List Int) : chars (numsJ c ns) = joinL c (ns.map fun n => chars (intT n)) := chars_mk _
theorem atoi_int' {n : Int} (h0 : 0 ≤ n) (h1 : n < 1000000000000000000) : Lib.atoiAll (chars (intT n)) = .ok n := by
  rw [chars_intT n h0, atoi_dec (by omega)]
  congr 1
  omega
/-- The numbers of a text whose fields are numerals. -/
theorem numsT_of' {s : ByteArray} (hs : ∀ b ∈ chars s, b.toNat < 128) {ns : List Int} (hn : fewI ns) (h : flds none (chars s) = ns.map fun n => chars (intT n)) : numsT s = ns := by
  unfold numsT
  have hf := fields_ascii s hs
  rw [h] at hf
  have key : ∀ (ws : List ByteArray) (ns : List Int) (acc : List Int), fewI ns → ws.map chars = ns.map (fun n => chars (intT n)) → numsG ws acc = acc ++ ns := by
    intro ws
    induction ws with
    | nil =>
      intro ns acc _ e
      cases ns with
      | nil => simp [numsG]
      | cons _ _ => simp at e
    | cons w ws ih =>
      intro ns acc hn e
      cases ns with
      | nil => simp at e
      | cons n ns =>
        rw [List.map_cons, List.map_cons, List.cons.injEq] at e
        have hr := hn n (by simp)
        simp only [numsG]
        rw [e.1, atoi_int' hr.1 hr.2]
        simp only
        rw [ih ns (acc ++ [n]) (fun m hm => hn m (by simp [hm])) e.2]
        simp
  simpa using key _ ns [] hn hf
theorem numsT_J {c : UInt8} {ns : List Int} (hc : dig c = false) (hb : c.toNat < 128) (h : fewI ns) : numsT (numsJ c ns) = ns := by
  have hw : ∀ w ∈ ns.map (fun n => chars (intT n)), w ≠ [] ∧ ∀ b ∈ w, dig b = true := by
    intro w hw
    obtain ⟨n, hn, rfl⟩ := List.mem_map.1 hw
    exact dig_int (h n hn).1
  refine numsT_of' (fun b hb' => ?_) h ?_
  · rw [chars_numsJ] at hb'
    rcases mem_joinL hb' with rfl | ⟨w, hw', hb'⟩
    · exact hb
    · exact dig_lt ((hw w hw').2 b hb')
  · rw [chars_numsJ]
    exact flds_joinL hc _ hw
theorem splitT_J {c : UInt8} {ns : List Int} (hc : dig c = false) (hne : ns ≠ []) (h : fewI ns) : splitT c (numsJ c ns) = ns.map intT := by
  unfold splitT
  rw [chars_numsJ, splitL_joinL _ (by simpa using hne)]
  · rw [List.map_map]
    refine List.map_congr_left fun n _ => ?_
    exact mk_chars _
  · intro w hw
    obtain ⟨n, hn, rfl⟩ := List.mem_map.1 hw
    exact not_dig (dig_int (h n hn).1).2 hc
/-- A way to read numerals back. -/
structure Reads (rd : ByteArray → Int) (few : Int) : Prop where
  le : few ≤ 1000000000000000000
  of : ∀ n, 0 ≤ n → n < few → rd (intT n) = n
  canon : ∀ w, 0 ≤ rd w → w = intT (rd w)
theorem reads_T : Reads readT 1000000 := ⟨by decide, fun _ h0 h1 => readT_int h0 h1, fun _ h => readT_canon rfl h⟩
section
variable {rd : ByteArray → Int} {few : Int} (hr : Reads rd few) {c : UInt8} (hc : dig c = false) (hb : c.toNat < 128)
include hr hc
theorem readT_J {ns : List Int} (hne : ns ≠ []) (h : ∀ n ∈ ns, 0 ≤ n ∧ n < few) : (splitT c (numsJ c ns)).map rd = ns := by
  rw [splitT_J hc hne (fun n hn => ⟨(h n hn).1, Int.lt_of_lt_of_le (h n hn).2 hr.le⟩), List.map_map]
  have : ns.map (rd ∘ intT) = ns.map id := List.map_congr_left fun n hn => hr.of n (h n hn).1 (h n hn).2
  rw [this, List.map_id]
omit hc in
theorem split_read {s : ByteArray} (h : ∀ n ∈ (splitT c s).map rd, 0 ≤ n) : numsJ c ((splitT c s).map rd) = s := by
  apply chars_inj
  rw [chars_numsJ, List.map_map]
  have e : (splitT c s).map ((fun n => chars (intT n)) ∘ rd) = (splitT c s).map chars := List.map_congr_left fun w hw => by
    have := hr.canon w (h _ (List.mem_map_of_mem hw))
    exact congrArg chars this.symm
  rw [e]
  have e2 : (splitT c s).map chars = splitL c (chars s) := by
    unfold splitT
    rw [List.map_map]
    have : ((chars ∘ fun l : List UInt8 => (⟨l.toArray⟩ : ByteArray))) = id := funext fun l => chars_mk l
    rw [this, List.map_id]
  rw [e2, joinL_splitL]
end
/-- Numbers read out of a text: all numbers in it, which are written so; the numbers between the bytes. -/
def parseI (c : UInt8) (k : Nat) (good : List Int → Bool) (s : ByteArray) : Option (List Int) :=
  if (numsT s).length = k ∧ good (numsT s) = true ∧ numsJ c (numsT s) = s then some (numsT s) else none
def parseS (rd : ByteArray → Int) (c : UInt8) (k : Nat) (good : List Int → Bool) (s : ByteArray) : Option (List Int) :=
  if (splitT c s).length = k ∧ good ((splitT c s).map rd) = true then some ((splitT c s).map rd) else none
section
variable {rd : ByteArray → Int} {few : Int} (hr : Reads rd few) {c : UInt8} (hc : dig c = false) (hb : c.toNat < 128) {k : Nat} {good : List Int → Bool} (hg : ∀ ns, good ns = true → ∀ n ∈ ns, 0 ≤ n ∧ n < few)
include hr hc hg
include hb in
theorem parseI_J {ns : List Int} (h : good ns = true) (hk : ns.length = k) : parseI c k good (numsJ c ns) = some ns := by
  unfold parseI
  rw [numsT_J hc hb fun n hn => ⟨(hg ns h n hn).1, Int.lt_of_lt_of_le (hg ns h n hn).2 hr.le⟩, if_pos ⟨hk, h, rfl⟩]
theorem parseS_J (hk0 : 0 < k) {ns : List Int} (h : good ns = true) (hk : ns.length = k) : parseS rd c k good (numsJ c ns) = some ns := by
  have hne : ns ≠ [] := fun e => by rw [e] at hk; simp at hk; omega
  unfold parseS
  rw [readT_J hr hc hne (hg ns h), if_pos]
  refine ⟨?_, h⟩
  have := congrArg List.length (readT_J hr hc hne (hg ns h))
  rw [List.length_map] at this
  exact this.trans hk
include hb in
theorem parse_eq (hk0 : 0 < k) (s : ByteArray) : parseI c k good s = parseS rd c k good s := by
  by_cases h : (numsT s).length = k ∧ good (numsT s) = true ∧ numsJ c (numsT s) = s
  · obtain ⟨h1, h2, h3⟩ := h
    have a := parseI_J hr hc hb hg h2 h1
    have b := parseS_J hr hc hg hk0 h2 h1
    rw [h3] at a b
    rw [a, b]
  · by_cases h' : (splitT c s).length = k ∧ good ((splitT c s).map rd) = true
    · obtain ⟨h1, h2⟩ := h'
      have hl : ((splitT c s).map rd).length = k := by rw [List.length_map]; exact h1
      have a := parseI_J hr hc hb hg h2 hl
      have b := parseS_J hr hc hg hk0 h2 hl
      have h3 := split_read hr (c := c) (s := s) fun n hn => (hg _ h2 n hn).1
      rw [h3] at a b
      rw [a, b]
    · rw [parseI, parseS, if_neg h, if_neg h']
end
theorem parse_some {c : UInt8} {k : Nat} {good : List Int → Bool} {s : ByteArray} {ns : List Int} (h : parseI c k good s = some ns) : ns.length = k ∧ good ns = true ∧ numsJ c ns = s := by
  unfold parseI at h
  split at h
  · rename_i hc
    cases h
    exact hc
  · cases h
end Go.Proofs.YtecaabmaoaacnaaGreatDoor
/-
  Draws: what the cursor gives.
-/
namespace Go.Proofs.YtecaabmaoaacnaaGreatDoor
open Go Go.V
set_option linter.unusedSimpArgs false

structure Cur where
  code : List Int
  at_ : Nat
  seed : Int
abbrev bytesD (l : List Int) : D := .arr 1 (l.map U)
abbrev curD (c : Cur) : D := .agg [bytesD c.code, I c.at_, .v (.int .u64 c.seed)]
structure Cur.ok (c : Cur) (B : Nat) : Prop where
  by_ : ∀ n ∈ c.code, 0 ≤ n ∧ n ≤ 255
  len : c.code.length ≤ 9223372036854775807
  at_ : c.at_ ≤ B
  lo : 0 ≤ c.seed
  hi : c.seed < 18446744073709551616

theorem convD_i64 {k : IntKind} {n : Int} : convD (some .i64) false (.v (.int k n)) = some (I (IntKind.i64.wrap n)) := rfl
theorem convD_u64 {k : IntKind} {n : Int} : convD (some .u64) false (.v (.int k n)) = some (.v (.int .u64 (IntKind.u64.wrap n))) := rfl
theorem bin_shr40 {n : Int} {bl : Bool} {eq : List Nat} : bin .shr bl eq (.v (.int .u64 n)) (.v (.int .u64 40)) = some (.v (.int .u64 (n.fdiv 1099511627776))) := by
  simp [bin, IntKind.bits]
theorem bin_and {a b : Int} {bl : Bool} {eq : List Nat} : bin .and bl eq (.v (.int .u64 a)) (.v (.int .u64 b)) = some (.v (.int .u64 (bits .and .u64 a b))) := by simp [bin, intBin]
theorem and255 {n : Int} (h0 : 0 ≤ n) (h1 : n < 18446744073709551616) : 0 ≤ bits .and .u64 n 255 ∧ bits .and .u64 n 255 ≤ 255 := by
  obtain ⟨m, rfl⟩ := Int.eq_ofNat_of_zero_le h0
  have := bits_and_u64_nat m 255 (by omega) (by omega)
  rw [show ((255 : Int)) = ((255 : Nat) : Int) from rfl, this]
  have h2 : m &&& 255 ≤ 255 := Nat.and_le_right
  omega
theorem wrap64 (n : Int) : 0 ≤ IntKind.u64.wrap n ∧ IntKind.u64.wrap n < 18446744073709551616 := by
  rw [IntKind.wrap_u64]
  omega

def seedOf (s n : Int) : Int := IntKind.u64.wrap (IntKind.u64.wrap (IntKind.u64.wrap (s * 6364136223846793005) + IntKind.u64.wrap n) + 1442695040888963407)
def topOf (s : Int) : Int := bits .and .u64 (s.fdiv 1099511627776) 255
theorem seedOf_in (s n : Int) : 0 ≤ seedOf s n ∧ seedOf s n < 18446744073709551616 := wrap64 _
theorem topOf_in {s : Int} (h0 : 0 ≤ s) (h1 : s < 18446744073709551616) : 0 ≤ topOf s ∧ topOf s ≤ 255 := by
  unfold topOf
  rw [Int.fdiv_eq_ediv_of_nonneg _ (by omega)]
  exact and255 (by omega) (by omega)
theorem seed_run {s n : Int} : ((bin BinOp.mul false [] (.v (.int .u64 s)) (.v (.int .u64 6364136223846793005))).bind fun x => (bin BinOp.add false [] x (.v (.int .u64 (IntKind.u64.wrap n)))).bind fun y => bin BinOp.add false [] y (.v (.int .u64 1442695040888963407))) = some (.v (.int .u64 (seedOf s n))) := by
  simp only [bin_mul, bin_add, Option.bind_some, seedOf]
theorem next1 (c : Cur) (B : Nat) (h : c.ok B) (hB : B ≤ 1000000000000) (hc : c.at_ < c.code.length) : F_spec_l1Cur_next [curD c] = some (.ret [I c.code[c.at_]] [curD ⟨c.code, c.at_ + 1, seedOf c.seed c.code[c.at_]⟩]) := by
  have hl := h.len
  have ha := h.at_
  have hw : IntKind.i64.wrap ((c.at_ : Int) + 1) = (c.at_ : Int) + 1 := wrap_id (by omega) (by omega)
  have hn := h.by_ c.code[c.at_] (List.getElem_mem hc)
  have hv : IntKind.i64.wrap c.code[c.at_] = c.code[c.at_] := wrap_id (by omega) (by omega)
  have hle : (c.at_ : Int) + 1 ≤ (c.code.length : Int) := by omega
  rw [t_spec_l1Cur_next]
  simp -implicitDefEqProofs [hc, hw, hv, hle, convD_i64, convD_u64, seedOf]
theorem next2 (c : Cur) (B : Nat) (h : c.ok B) (hB : B ≤ 1000000000000) (hc : ¬ c.at_ < c.code.length) : F_spec_l1Cur_next [curD c] = some (.ret [I (topOf (seedOf c.seed 0))] [curD ⟨c.code, c.at_ + 1, seedOf c.seed 0⟩]) := by
  have hl := h.len
  have ha := h.at_
  have hw : IntKind.i64.wrap ((c.at_ : Int) + 1) = (c.at_ : Int) + 1 := wrap_id (by omega) (by omega)
  have hle : ¬ (c.at_ : Int) + 1 ≤ (c.code.length : Int) := by omega
  have hq := topOf_in (seedOf_in c.seed 0).1 (seedOf_in c.seed 0).2
  have hv : IntKind.i64.wrap (topOf (seedOf c.seed 0)) = topOf (seedOf c.seed 0) := wrap_id (by omega) (by omega)
  unfold topOf seedOf at hv
  rw [t_spec_l1Cur_next]
  simp -implicitDefEqProofs [hc, hw, hle, convD_i64, convD_u64, bin_shr40, bin_and, hv, seedOf, topOf]
theorem d_next (c : Cur) (B : Nat) (h : c.ok B) (hB : B ≤ 1000000000000) : ∃ v c', F_spec_l1Cur_next [curD c] = some (.ret [I v] [curD c']) ∧ 0 ≤ v ∧ v ≤ 255 ∧ c'.ok (B + 1) := by
  have ha := h.at_
  by_cases hc : c.at_ < c.code.length
  · have hn := h.by_ c.code[c.at_] (List.getElem_mem hc)
    exact ⟨_, _, next1 c B h hB hc, hn.1, hn.2, ⟨h.by_, h.len, Nat.succ_le_succ ha, (seedOf_in _ _).1, (seedOf_in _ _).2⟩⟩
  · have hq := topOf_in (seedOf_in c.seed 0).1 (seedOf_in c.seed 0).2
    exact ⟨_, _, next2 c B h hB hc, hq.1, hq.2, ⟨h.by_, h.len, Nat.succ_le_succ ha, (seedOf_in _ _).1, (seedOf_in _ _).2⟩⟩

theorem d_pick (c : Cur) (n : Int) (B : Nat) (h : c.ok B) (hB : B ≤ 100000000000) (hn : n ≤ 1000000000) : ∃ v c', F_spec_l1Cur_pick [curD c, I n] = some (.ret [I v] [curD c']) ∧ 0 ≤ v ∧ (v < n ∨ v = 0) ∧ c'.ok (B + 2) := by
  rw [t_spec_l1Cur_pick]
  by_cases h1 : n ≤ 1
  · exact ⟨0, c, by simp [h1], by omega, .inr rfl, ⟨h.by_, h.len, by have := h.at_; omega, h.lo, h.hi⟩⟩
  obtain ⟨v, c1, e1, l1, u1, k1⟩ := d_next c B h (by omega)
  have hn0 : ¬ n = 0 := by omega
  by_cases h2 : 200 < n
  · obtain ⟨v2, c2, e2, l2, u2, k2⟩ := d_next c1 (B + 1) k1 (by omega)
    have w1 : IntKind.i64.wrap (v * 256) = v * 256 := wrap_id (by omega) (by omega)
    have w2 : IntKind.i64.wrap (v * 256 + v2) = v * 256 + v2 := wrap_id (by omega) (by omega)
    refine ⟨(v * 256 + v2).tmod n, c2, by simp [h1, h2, e1, e2, w1, w2, hn0], Int.tmod_nonneg _ (by omega), .inl (Int.tmod_lt_of_pos _ (by omega)), k2⟩
  · refine ⟨v.tmod n, c1, by simp [h1, h2, e1, hn0], Int.tmod_nonneg _ l1, .inl (Int.tmod_lt_of_pos _ (by omega)), ⟨k1.by_, k1.len, by have := k1.at_; omega, k1.lo, k1.hi⟩⟩
theorem d_one (c : Cur) (n : Int) (B : Nat) (h : c.ok B) (hB : B ≤ 100000000000) (hn : n ≤ 1000000000) : ∃ (b : Bool) (c' : Cur), F_spec_l1Cur_one [curD c, I n] = some (.ret [.v (.bool b)] [curD c']) ∧ c'.ok (B + 2) := by
  rw [t_spec_l1Cur_one]
  obtain ⟨v, c1, e1, l1, u1, k1⟩ := d_pick c n B h hB hn
  exact ⟨_, c1, by simp [e1]; rfl, k1⟩
abbrev intsD (l : List Int) : D := .arr 1 (l.map I)
theorem d_among (c : Cur) (l : List Int) (B : Nat) (h : c.ok B) (hB : B ≤ 100000000000) (hl : l ≠ []) (hn : l.length ≤ 1000000000) : ∃ v c', F_spec_l1Cur_among [curD c, intsD l] = some (.ret [I v] [curD c']) ∧ v ∈ l ∧ c'.ok (B + 2) := by
  rw [t_spec_l1Cur_among]
  have hp : 0 < l.length := List.length_pos_iff.2 hl
  obtain ⟨v, c1, e1, l1, u1, k1⟩ := d_pick c l.length B h hB (by omega)
  obtain ⟨i, rfl⟩ := Int.eq_ofNat_of_zero_le l1
  have hi : i < l.length := by omega
  exact ⟨l[i], c1, by simp [e1, hi], List.getElem_mem hi, k1⟩

theorem Cur.ok.mono {c : Cur} {B C : Nat} (h : c.ok B) (hBC : B ≤ C) : c.ok C := ⟨h.by_, h.len, Nat.le_trans h.at_ hBC, h.lo, h.hi⟩
theorem mkInts {l : List Int} : mkArr 1 (l.map I) = some (intsD l) := by
  have : lenOkD 1 (l.map I).length (l.map I) = true := by
    unfold lenOkD
    simp
  simp only [mkArr, this, if_true]
theorem bldCur (l : List Int) : bldD [(0, 1)] [D.arr 1 [], I 0, D.v (.int .u64 0)] [bytesD l] = some (.agg [bytesD l, I 0, D.v (.int .u64 0)]) := by
  simp [bldD, fillD]
structure Bytes (l : List Int) : Prop where
  by_ : ∀ n ∈ l, 0 ≤ n ∧ n ≤ 255
  len : l.length ≤ 9223372036854775807
theorem cur0 {l : List Int} (h : Bytes l) : Cur.ok ⟨l, 0, 0⟩ 0 := ⟨h.by_, h.len, Nat.le_refl _, Int.le_refl 0, show (0 : Int) < 18446744073709551616 by decide⟩

abbrev curZ (l : List Int) : D := .agg [bytesD l, I 0, .v (.int .u64 0)]
theorem d_pick0 (l : List Int) (h : Bytes l) (n : Int) (hn : n ≤ 1000000000) : ∃ (v : Int) (c' : Cur), F_spec_l1Cur_pick [curZ l, I n] = some (.ret [I v] [curD c']) ∧ 0 ≤ v ∧ (v < n ∨ v = 0) ∧ c'.ok 2 := d_pick ⟨l, 0, 0⟩ n 0 (cur0 h) (by omega) hn
abbrev txs (l : List ByteArray) : D := .arr 1 (l.map T)
theorem mkTxs {l : List ByteArray} : mkArr 1 (l.map T) = some (txs l) := by
  have : lenOkD 1 (l.map T).length (l.map T) = true := by
    unfold lenOkD
    simp
  simp only [mkArr, this, if_true]
theorem d_of (c : Cur) (l : List ByteArray) (B : Nat) (h : c.ok B) (hB : B ≤ 100000000000) (hl : l ≠ []) (hn : l.length ≤ 1000000000) : ∃ v c', F_spec_l1Cur_of [curD c, txs l] = some (.ret [T v] [curD c']) ∧ v ∈ l ∧ c'.ok (B + 2) := by
  rw [t_spec_l1Cur_of]
  have hp : 0 < l.length := List.length_pos_iff.2 hl
  obtain ⟨v, c1, e1, l1, u1, k1⟩ := d_pick c l.length B h hB (by omega)
  obtain ⟨i, rfl⟩ := Int.eq_ofNat_of_zero_le l1
  have hi : i < l.length := by omega
  exact ⟨l[i], c1, by simp [e1, hi], List.getElem_mem hi, k1⟩

theorem char_at {w : ByteArray} {i : Nat} (h : i < w.size) : ∃ b : UInt8, charD (T w) (I (i : Int)) = some (U (b.toNat : Int)) := by
  have h' : i < (chars w).length := h
  refine ⟨(chars w)[i]'h', ?_⟩
  rw [charD_nat, List.getElem?_eq_getElem h']
  rfl
theorem str_byte (b : UInt8) : strD (.arr 1 [U (b.toNat : Int)]) = some (T ⟨#[b]⟩) := by
  have : bytesOf [U (b.toNat : Int)] = some [b] := by simp [bytesOf]
  simp only [strD, this, Option.map_some]
theorem mkU (n : Int) : mkArr 1 [U n] = some (.arr 1 [U n]) := by simp [mkArr, lenOkD]
theorem add_small {a b : ByteArray} (h : a.size + b.size ≤ 100000000) : bin .add false [] (T a) (T b) = some (T (a ++ b)) := by
  rw [bin_addS, if_pos (by omega)]
theorem size_ext (s : ByteArray) (i j : Nat) : (s.extract i j).size = min j s.size - i := by rw [ByteArray.size_extract]
theorem d_spoilt (c : Cur) (s w : ByteArray) (B : Nat) (h : c.ok B) (hB : B ≤ 1000000000) (hs : s.size ≤ 100000) (hw : 0 < w.size ∧ w.size ≤ 100) :
    ∃ (t : ByteArray) (c' : Cur), F_spec_l1Cur_spoilt [curD c, T s, T w] = some (.ret [T t] [curD c']) ∧ t.size ≤ s.size + 2 ∧ c'.ok (B + 20) := by
  obtain ⟨v, c1, e1, l1, u1, k1⟩ := d_pick c 2 B h (by omega) (by omega)
  obtain ⟨v, rfl⟩ := Int.eq_ofNat_of_zero_le l1
  have hw1 : IntKind.i64.wrap (1 + (v : Int)) = ((1 + v : Nat) : Int) := by rw [wrap_id (by omega) (by omega)]; omega
  rw [t_spec_l1Cur_spoilt]
  simp -implicitDefEqProofs only [liveD_agg, Option.bind_some, ref0_eq, e1, callK_ret, sl_zero, bin_add, hw1]
  refine loop_wf_bind (fun X => ∃ t c', X = some (.ret [T t] [curD c']) ∧ t.size ≤ s.size + 2 ∧ c'.ok (B + 20)) (fun a : Cur × ByteArray × Nat => [curD a.1, T a.2.1, T w, I (a.2.2 : Int)])
    (fun a => a.1.ok (B + 2 + 6 * (2 - a.2.2)) ∧ a.2.2 ≤ 2 ∧ a.2.1.size + a.2.2 ≤ s.size + 2) (fun a => a.2.2) (fun o => ∃ t c', o = .ext 0 [curD c', T t] ∧ t.size ≤ s.size + 2 ∧ c'.ok (B + 20)) ?_ (c1, s, 1 + v) ⟨k1.mono (by simp only; omega), by simp only; omega, by simp only; omega⟩ rfl ?_
  · rintro ⟨ca, t, n⟩ ⟨h1, h2, h3⟩
    simp only at h1 h2 h3
    by_cases hn : 0 < n
    case neg =>
      have hn' : ¬ (0 : Int) < (n : Int) := by omega
      refine .inr ⟨_, ?_, rfl, t, ca, rfl, by omega, h1.mono (by omega)⟩
      simp -implicitDefEqProofs only [sl_zero, sl_succ, bin_gtr, hn', decide_false, Option.bind_some, gate_t, gate_s, Bool.false_eq_true, if_false, pickD_B, ifD_B]
    have hn' : (0 : Int) < (n : Int) := by omega
    by_cases ht : 0 < t.size
    case neg =>
      have ht' : ¬ (0 : Int) < (t.size : Int) := by omega
      refine .inr ⟨_, ?_, rfl, t, ca, rfl, by omega, h1.mono (by omega)⟩
      simp -implicitDefEqProofs only [sl_zero, sl_succ, bin_gtr, hn', ht', decide_true, decide_false, lenD_str, Option.bind_some, gate_t, gate_s, Bool.false_eq_true, if_false, if_true, pickD_B, ifD_B]
    have ht' : (0 : Int) < (t.size : Int) := by omega
    obtain ⟨i, c2, e2, l2, u2, k2⟩ := d_pick ca (t.size : Int) _ h1 (by omega) (by omega)
    obtain ⟨i, rfl⟩ := Int.eq_ofNat_of_zero_le l2
    obtain ⟨j, c3, e3, l3, u3, k3⟩ := d_pick c2 (w.size : Int) _ k2 (by omega) (by omega)
    obtain ⟨j, rfl⟩ := Int.eq_ofNat_of_zero_le l3
    obtain ⟨b, hb⟩ := char_at (w := w) (i := j) (by omega)
    obtain ⟨k, c4, e4, l4, u4, k4⟩ := d_pick c3 3 _ k3 (by omega) (by omega)
    have hwn : IntKind.i64.wrap ((n : Int) - 1) = ((n - 1 : Nat) : Int) := by rw [wrap_id (by omega) (by omega)]; omega
    have hwi : IntKind.i64.wrap ((i : Int) + 1) = ((i + 1 : Nat) : Int) := by rw [wrap_id (by omega) (by omega)]; omega
    have s1 : sliceD true 0 (T t) (I 0) (I (i : Int)) = some (T (t.extract 0 i)) := sliceS (i := 0) (Nat.zero_le _) (by omega)
    have s2 : sliceHi true 0 (T t) (I (i : Int)) = some (T (t.extract i t.size)) := sliceHiS (by omega)
    have s3 : sliceHi true 0 (T t) (I ((i + 1 : Nat) : Int)) = some (T (t.extract (i + 1) t.size)) := sliceHiS (by omega)
    have z1 := size_ext t 0 i
    have z2 := size_ext t i t.size
    have z3 := size_ext t (i + 1) t.size
    have sb : (⟨#[b]⟩ : ByteArray).size = 1 := rfl
    have a1 := add_small (a := t.extract 0 i) (b := ⟨#[b]⟩) (by omega)
    have a2 := add_small (a := t.extract 0 i ++ ⟨#[b]⟩) (b := t.extract i t.size) (by rw [ByteArray.size_append]; omega)
    have a3 := add_small (a := t.extract 0 i ++ ⟨#[b]⟩) (b := t.extract (i + 1) t.size) (by rw [ByteArray.size_append]; omega)
    have a4 := add_small (a := t.extract 0 i) (b := t.extract (i + 1) t.size) (by omega)
    left
    by_cases q0 : k = 0
    · refine ⟨(c4, t.extract 0 i ++ ⟨#[b]⟩ ++ t.extract i t.size, n - 1), ?_, ⟨k4.mono (by simp only; omega), by simp only; omega, by simp only [ByteArray.size_append]; omega⟩, by simp only; omega⟩
      simp -implicitDefEqProofs only [sl_zero, sl_succ, bin_gtr, hn', ht', decide_true, lenD_str, Option.bind_some, gate_t, if_true, pickD_B, ifD_B, liveD_agg, ref0_eq, e2, e3, e4, callK_ret, hb, mkU, str_byte, bin_eql, q0, s1, s2, a1, a2, bin_sub, hwn]
    by_cases q1 : k = 1
    · refine ⟨(c4, t.extract 0 i ++ ⟨#[b]⟩ ++ t.extract (i + 1) t.size, n - 1), ?_, ⟨k4.mono (by simp only; omega), by simp only; omega, by simp only [ByteArray.size_append]; omega⟩, by simp only; omega⟩
      simp -implicitDefEqProofs only [sl_zero, sl_succ, bin_gtr, hn', ht', decide_true, decide_false, Bool.false_eq_true, if_false, lenD_str, Option.bind_some, gate_t, if_true, pickD_B, ifD_B, liveD_agg, ref0_eq, e2, e3, e4, callK_ret, hb, mkU, str_byte, bin_eql, q0, q1, show ¬ (1 : Int) = 0 by decide, s1, s3, a1, a3, bin_sub, bin_add, hwi, hwn]
    · refine ⟨(c4, t.extract 0 i ++ t.extract (i + 1) t.size, n - 1), ?_, ⟨k4.mono (by simp only; omega), by simp only; omega, by simp only [ByteArray.size_append]; omega⟩, by simp only; omega⟩
      simp -implicitDefEqProofs only [sl_zero, sl_succ, bin_gtr, hn', ht', decide_true, decide_false, Bool.false_eq_true, if_false, lenD_str, Option.bind_some, gate_t, if_true, pickD_B, ifD_B, liveD_agg, ref0_eq, e2, e3, e4, callK_ret, hb, mkU, str_byte, bin_eql, q0, q1, s1, s3, a4, bin_sub, bin_add, hwi, hwn]
  · rintro o ⟨t, c', rfl, g1, g2⟩
    refine ⟨t, c', ?_, g1, g2⟩
    simp -implicitDefEqProofs only [outK_ext, Nat.beq_refl, ifN_B, if_true, sl_zero, sl_succ, liveD_agg, Option.bind_some]
end Go.Proofs.YtecaabmaoaacnaaGreatDoor
/-
  Orders: what the functions compute, said plainly.
-/
namespace Go.Proofs.YtecaabmaoaacnaaGreatDoor
open Go Go.V
set_option linter.unusedSimpArgs false

abbrev ods (l : List Od) : D := .arr 4 (l.map od)

/-- Are a list orders? -/
def pOd (l : List Od) (i : Nat) (x : Od) : Bool := isOd x && !(decide (0 < i) && decide (x.1 ≤ (l.getD (i - 1) (0, 0, 0, 0)).1))
def goodO (l : List Od) : Bool := allI (pOd l) 0 l && decide (l.length ≤ 8)
theorem e_spec_orGood (l : List Od) (h : l.length ≤ 1048576) : F_spec_orGood [ods l] = some (.ret [B (goodO l)] []) := by
  rw [t_spec_orGood]
  simp only [lenD_arr, List.length_map, Option.bind_some]
  refine loop_bind _ (loop_all l (fun i => [ods l, ods l, I l.length, I i]) (pOd l) (.ret [B false] []) (.ext 0 [ods l]) (fun i hi => ?_) ?_ rfl rfl rfl) ?_
  · have hw : IntKind.i64.wrap ((i : Int) + 1) = (i : Int) + 1 := wrap_id (by omega) (by omega)
    cases h1 : isOd l[i]
    · simp -implicitDefEqProofs [hi, e_spec_orOne, h1, pOd]
    · by_cases h0 : 0 < i
      · have hw2 : IntKind.i64.wrap ((i : Int) - 1) = ((i - 1 : Nat) : Int) := by rw [wrap_id (by omega) (by omega)]; omega
        have hy : i - 1 < l.length := by omega
        by_cases h2 : l[i].1 ≤ l[i - 1].1 <;> simp -implicitDefEqProofs [hi, hy, e_spec_orOne, h1, pOd, hw, hw2, h0, h2]
      · simp -implicitDefEqProofs [hi, e_spec_orOne, h1, pOd, hw, h0]
  · simp
  · by_cases hg : allI (pOd l) 0 l = true <;> simp [hg, goodO]
    omega
theorem e_impl_AreOrders (l : List Od) (h : l.length ≤ 1048576) : F_impl_AreOrders [ods l] = some (.ret [B (goodO l)] []) := by
  rw [t_impl_AreOrders]
  simp only [lenD_arr, List.length_map, Option.bind_some]
  refine loop_bind _ (loop_all l (fun i => [ods l, ods l, I l.length, I i]) (pOd l) (.ret [B false] []) (.ext 0 [ods l]) (fun i hi => ?_) ?_ rfl rfl rfl) ?_
  · have hw : IntKind.i64.wrap ((i : Int) + 1) = (i : Int) + 1 := wrap_id (by omega) (by omega)
    cases h1 : isOd l[i]
    · simp -implicitDefEqProofs [hi, e_impl_isOrder, h1, pOd]
    · by_cases h0 : 0 < i
      · have hw2 : IntKind.i64.wrap ((i : Int) - 1) = ((i - 1 : Nat) : Int) := by rw [wrap_id (by omega) (by omega)]; omega
        have hy : i - 1 < l.length := by omega
        by_cases h2 : l[i].1 ≤ l[i - 1].1 <;> simp -implicitDefEqProofs [hi, hy, e_impl_isOrder, h1, pOd, hw, hw2, h0, h2]
      · simp -implicitDefEqProofs [hi, e_impl_isOrder, h1, pOd, hw, h0]
  · simp
  · by_cases hg : allI (pOd l) 0 l = true <;> simp [hg, goodO]
    omega
end Go.Proofs.YtecaabmaoaacnaaGreatDoor
/-
  Numbers and orders: copies, marks.
-/
namespace Go.Proofs.YtecaabmaoaacnaaGreatDoor
open Go Go.V
set_option linter.unusedSimpArgs false

def marksI (k : Int) (n : Nat) : List Int := (List.range n).map fun (j : Nat) => k + (j : Int)
def mk4 (k : Int) (j : Nat) : Od := (k + 4 * j, k + 4 * j + 1, k + 4 * j + 2, k + 4 * j + 3)
def marksO (k : Int) (n : Nat) : List Od := (List.range n).map (mk4 k)
end Go.Proofs.YtecaabmaoaacnaaGreatDoor
/-
  Orders in a sequence: the plain laws.
-/
namespace Go.Proofs.YtecaabmaoaacnaaGreatDoor
open Go Go.V
set_option linter.unusedSimpArgs false

/-! ### sums over all places -/
def sumTo : Nat → (Nat → Int) → Int
  | 0, _ => 0
  | n + 1, f => sumTo n f + f n
theorem sumTo_congr {f g : Nat → Int} : ∀ (n : Nat), (∀ k, k < n → f k = g k) → sumTo n f = sumTo n g
  | 0, _ => rfl
  | n + 1, h => by
    simp only [sumTo]
    rw [sumTo_congr n fun k hk => h k (by omega), h n (by omega)]
theorem sumTo_add {f g : Nat → Int} : ∀ (n : Nat), sumTo n (fun k => f k + g k) = sumTo n f + sumTo n g
  | 0 => rfl
  | n + 1 => by
    simp only [sumTo]
    rw [sumTo_add n]
    omega
theorem sumTo_zero : ∀ (n : Nat), sumTo n (fun _ => 0) = 0
  | 0 => rfl
  | n + 1 => by simp only [sumTo]; rw [sumTo_zero n]; rfl
theorem sumTo_one {f : Nat → Int} (x : Nat) : ∀ (n : Nat), sumTo n (fun k => if k = x then f k else 0) = if x < n then f x else 0
  | 0 => by simp [sumTo]
  | n + 1 => by
    simp only [sumTo]
    rw [sumTo_one x n]
    by_cases h : n = x
    · subst h
      simp
    · rw [if_neg h]
      by_cases h2 : x < n
      · rw [if_pos h2, if_pos (by omega)]; omega
      · rw [if_neg h2, if_neg (by omega)]; omega
theorem sumTo_le {f : Nat → Int} : ∀ (n : Nat), (∀ k, k < n → f k ≤ 1) → sumTo n f ≤ n
  | 0, _ => by simp [sumTo]
  | n + 1, h => by
    simp only [sumTo]
    have h1 := sumTo_le n fun k hk => h k (by omega)
    have h2 := h n (by omega)
    omega
theorem sumTo_full {f : Nat → Int} : ∀ (n : Nat), (∀ k, k < n → f k ≤ 1) → sumTo n f = n → ∀ k, k < n → f k = 1
  | 0, _, _, k, hk => by omega
  | n + 1, h, e, k, hk => by
    simp only [sumTo] at e
    have h1 := sumTo_le n fun k hk => h k (by omega)
    have h2 := h n (by omega)
    by_cases hkn : k = n
    · subst hkn; omega
    · exact sumTo_full n (fun k hk => h k (by omega)) (by omega) k (by omega)
def sumL (f : Nat → Int) : List Nat → Int
  | [] => 0
  | k :: s => f k + sumL f s
theorem sumTo_mem {f : Nat → Int} {n : Nat} : ∀ (s : List Nat), (∀ k ∈ s, k < n) → s.Nodup → sumTo n (fun k => if k ∈ s then f k else 0) = sumL f s
  | [], _, _ => by simp [sumL, sumTo_zero]
  | x :: s, h, hd => by
    rw [List.nodup_cons] at hd
    have ih := sumTo_mem (f := f) s (fun k hk => h k (by simp [hk])) hd.2
    have e : sumTo n (fun k => if k ∈ x :: s then f k else 0) = sumTo n (fun k => (if k = x then f k else 0) + (if k ∈ s then f k else 0)) := by
      refine sumTo_congr n fun k _ => ?_
      by_cases h1 : k = x
      · subst h1
        simp [hd.1]
      · simp [h1]
    rw [e, sumTo_add, sumTo_one, if_pos (h x (by simp)), ih]
    rfl
theorem sumL_one : ∀ (s : List Nat), sumL (fun _ => 1) s = s.length
  | [] => rfl
  | _ :: s => by simp only [sumL, sumL_one s, List.length_cons]; omega
/-- A list of all places, each once. -/
theorem sum_perm {f : Nat → Int} {n : Nat} {s : List Nat} (h : ∀ k ∈ s, k < n) (hd : s.Nodup) (hl : s.length = n) : sumL f s = sumTo n f := by
  have h1 := sumTo_mem (f := fun _ => 1) s h hd
  rw [sumL_one, hl] at h1
  have all := sumTo_full n (fun k _ => by split <;> omega) h1
  rw [← sumTo_mem (f := f) s h hd]
  refine sumTo_congr n fun k hk => ?_
  have := all k hk
  by_cases hm : k ∈ s
  · rw [if_pos hm]
  · rw [if_neg hm] at this; omega

/-! ### sequences -/
theorem difG_facts {n : Int} : ∀ (l seen : List Int), difG n l seen = true → (∀ x ∈ l, 0 ≤ x ∧ x ≤ n - 1) ∧ l.Nodup ∧ ∀ x ∈ l, x ∉ seen
  | [], _, _ => by simp
  | x :: l, seen, h => by
    simp only [difG, Bool.and_eq_true, decide_eq_true_eq, Bool.not_eq_true', decide_eq_false_iff_not] at h
    obtain ⟨⟨h1, h2⟩, h3⟩ := h
    obtain ⟨g1, g2, g3⟩ := difG_facts l (x :: seen) h3
    refine ⟨fun y hy => ?_, List.nodup_cons.2 ⟨fun hm => g3 x hm (by simp), g2⟩, fun y hy => ?_⟩
    · rcases List.mem_cons.1 hy with rfl | hy
      · exact h1
      · exact g1 y hy
    · rcases List.mem_cons.1 hy with rfl | hy
      · exact h2
      · exact fun hm => g3 y hy (by simp [hm])
abbrev oAt (l : List Od) (k : Int) : Od := l.getD k.toNat (0, 0, 0, 0)
/-- What is composed, what is printed, how long the press waits. -/
def runO (l : List Od) : Int × Int × Int → Int → Int × Int × Int
  | (c, p, w), k => (c + (oAt l k).2.1, max p (c + (oAt l k).2.1) + (oAt l k).2.2.1, w + max 0 (c + (oAt l k).2.1 - p))
def timesO (l : List Od) : Int × Int × Int → List Int → List Int
  | _, [] => []
  | a, k :: s => (runO l a k).2.1 :: timesO l (runO l a k) s
theorem timesO_len (l : List Od) : ∀ (s : List Int) (a : Int × Int × Int), (timesO l a s).length = s.length
  | [], _ => rfl
  | k :: s, a => by simp [timesO, timesO_len l s]
theorem timesO_snoc (l : List Od) (k : Int) : ∀ (s : List Int) (a : Int × Int × Int), timesO l a (s ++ [k]) = timesO l a s ++ [((s ++ [k]).foldl (runO l) a).2.1]
  | [], a => by simp [timesO]
  | x :: s, a => by
    rw [List.cons_append]
    simp only [timesO, timesO_snoc l k s, List.cons_append, List.foldl_cons]
theorem way_take {l : List Od} {s : List Int} {i : Nat} (hi : i < s.length) (a : Int × Int × Int) : (s.take (i + 1)).foldl (runO l) a = runO l ((s.take i).foldl (runO l) a) s[i] := by
  rw [List.take_succ_eq_append_getElem hi, List.foldl_append]
  rfl
theorem times_take {l : List Od} {s : List Int} {i : Nat} (hi : i < s.length) (a : Int × Int × Int) : timesO l a (s.take (i + 1)) = timesO l a (s.take i) ++ [((s.take (i + 1)).foldl (runO l) a).2.1] := by
  rw [List.take_succ_eq_append_getElem hi, timesO_snoc]
/-- Bounds on the way. -/
theorem way_in {l : List Od} (hg : ∀ x ∈ l, isOd x = true) {s : List Int} (hs : ∀ k ∈ s, 0 ≤ k ∧ k < l.length) : ∀ (i : Nat), i ≤ s.length →
    0 ≤ ((s.take i).foldl (runO l) (0, 0, 0)).1 ∧ ((s.take i).foldl (runO l) (0, 0, 0)).1 ≤ 500 * i ∧ 0 ≤ ((s.take i).foldl (runO l) (0, 0, 0)).2.1 ∧ ((s.take i).foldl (runO l) (0, 0, 0)).2.1 ≤ 1000 * i ∧
    0 ≤ ((s.take i).foldl (runO l) (0, 0, 0)).2.2 ∧ ((s.take i).foldl (runO l) (0, 0, 0)).2.2 ≤ 500 * i * i := by
  intro i
  induction i with
  | zero => intro _; simp
  | succ i ih =>
    intro hi
    obtain ⟨h1, h2, h3, h4, h5, h6⟩ := ih (by omega)
    have hk := hs s[i] (List.getElem_mem (by omega))
    rw [way_take (by omega)]
    generalize (s.take i).foldl (runO l) (0, 0, 0) = a at *
    obtain ⟨c, p, w⟩ := a
    simp only at h1 h2 h3 h4 h5 h6
    have hlt : s[i].toNat < l.length := by omega
    have ho : isOd (oAt l s[i]) = true := by
      have e : oAt l s[i] = l[s[i].toNat] := by simp [oAt, hlt]
      rw [e]
      exact hg _ (List.getElem_mem hlt)
    simp only [isOd, Bool.and_eq_true, decide_eq_true_eq] at ho
    have hsq : (500 : Int) * i * i + 500 * i + 500 ≤ 500 * ((i + 1 : Nat) : Int) * ((i + 1 : Nat) : Int) := by
      have : 500 * ((i + 1 : Nat) : Int) * ((i + 1 : Nat) : Int) = 500 * i * i + 1000 * i + 500 := by
        rw [Int.natCast_add]
        simp only [Int.natCast_one, Int.mul_add, Int.add_mul]
        omega
      omega
    simp only [runO]
    refine ⟨by omega, by omega, by omega, by omega, by omega, ?_⟩
    have : max 0 (c + (oAt l s[i]).2.1 - p) ≤ 500 * i + 500 := by omega
    omega
/-- The press has printed all and has waited. -/
theorem way_sum (l : List Od) : ∀ (s : List Int) (a : Int × Int × Int), (s.foldl (runO l) a).2.1 - (s.foldl (runO l) a).2.2 = a.2.1 - a.2.2 + sumL (fun k => (l.getD k (0, 0, 0, 0)).2.2.1) (s.map Int.toNat)
  | [], a => by simp [sumL]
  | k :: s, (c, p, w) => by
    rw [List.foldl_cons, way_sum l s]
    simp only [runO, oAt, List.map_cons, sumL]
    omega
theorem sumTo_list (f : Od → Int) : ∀ (l : List Od), sumTo l.length (fun k => f (l.getD k (0, 0, 0, 0))) = l.foldl (fun a x => a + f x) 0 := by
  intro l
  have key : ∀ (n : Nat), n ≤ l.length → sumTo n (fun k => f (l.getD k (0, 0, 0, 0))) = (l.take n).foldl (fun a x => a + f x) 0 := by
    intro n
    induction n with
    | zero => intro _; simp [sumTo]
    | succ n ih =>
      intro hn
      rw [List.take_succ_eq_append_getElem (by omega), List.foldl_append]
      simp only [sumTo, List.foldl_cons, List.foldl_nil]
      rw [ih (by omega)]
      congr 2
      simp [show n < l.length by omega]
  have := key l.length (Nat.le_refl _)
  rwa [List.take_length] at this
def printS (l : List Od) : Int := l.foldl (fun a x => a + x.2.2.1) 0
theorem idle_eq {l : List Od} {s : List Int} (h : difG l.length s [] = true) (hl : s.length = l.length) : (s.foldl (runO l) (0, 0, 0)).2.1 - printS l = (s.foldl (runO l) (0, 0, 0)).2.2 := by
  obtain ⟨h1, h2, _⟩ := difG_facts s [] h
  have hr := way_sum l s (0, 0, 0)
  have hm : ∀ k ∈ s.map Int.toNat, k < l.length := by
    intro k hk
    obtain ⟨x, hx, rfl⟩ := List.mem_map.1 hk
    have := h1 x hx
    omega
  have hd : (s.map Int.toNat).Nodup := by
    unfold List.Nodup at h2 ⊢
    rw [List.pairwise_map]
    refine h2.imp_of_mem fun {a b} ha hb hne => ?_
    have := h1 a ha
    have := h1 b hb
    omega
  rw [sum_perm hm hd (by rw [List.length_map]; exact hl), sumTo_list (fun x => x.2.2.1)] at hr
  unfold printS
  simp only at hr
  omega
/-- The greatest of the times is the last one. -/
def mostL (l : List Int) : Int := l.foldl max 0
theorem most_times {l : List Od} (hg : ∀ x ∈ l, isOd x = true) {s : List Int} (hs : ∀ k ∈ s, 0 ≤ k ∧ k < l.length) : mostL (timesO l (0, 0, 0) s) = (s.foldl (runO l) (0, 0, 0)).2.1 := by
  have key : ∀ (i : Nat), i ≤ s.length → mostL (timesO l (0, 0, 0) (s.take i)) = ((s.take i).foldl (runO l) (0, 0, 0)).2.1 := by
    intro i
    induction i with
    | zero => intro _; simp [mostL, timesO]
    | succ i ih =>
      intro hi
      have h := way_in hg hs i (by omega)
      have h' := way_in hg hs (i + 1) hi
      rw [times_take (by omega)]
      unfold mostL at ih ⊢
      rw [List.foldl_append, ih (by omega)]
      simp only [List.foldl_cons, List.foldl_nil]
      rw [way_take (by omega)] at h' ⊢
      have hk := hs s[i] (List.getElem_mem (by omega))
      have hlt : s[i].toNat < l.length := by omega
      have ho : isOd (oAt l s[i]) = true := by
        have e : oAt l s[i] = l[s[i].toNat] := by simp [oAt, hlt]
        rw [e]
        exact hg _ (List.getElem_mem hlt)
      simp only [isOd, Bool.and_eq_true, decide_eq_true_eq] at ho
      generalize (s.take i).foldl (runO l) (0, 0, 0) = a at *
      obtain ⟨c, p, w⟩ := a
      simp only [runO]
      omega
  have := key s.length (Nat.le_refl _)
  rwa [List.take_length] at this
theorem goodO_all {l : List Od} (h : goodO l = true) : (∀ x ∈ l, isOd x = true) ∧ l.length ≤ 8 := by
  simp only [goodO, Bool.and_eq_true, decide_eq_true_eq] at h
  refine ⟨?_, h.2⟩
  have key : ∀ (m : List Od) (i : Nat), allI (pOd l) i m = true → ∀ x ∈ m, isOd x = true := by
    intro m
    induction m with
    | nil => intro i _ x hx; cases hx
    | cons y m ih =>
      intro i hp x hx
      simp only [allI, Bool.and_eq_true, pOd] at hp
      rcases List.mem_cons.1 hx with rfl | hx
      · exact hp.1.1
      · exact ih (i + 1) hp.2 x hx
  exact key l 0 h.1
/-- Orders and a sequence of all of them. -/
def askO (l : List Od) (s : List Int) : Bool := goodO l && decide (s.length = l.length) && difG l.length s []
theorem askO_facts {l : List Od} {s : List Int} (h : askO l s = true) : (∀ x ∈ l, isOd x = true) ∧ l.length ≤ 8 ∧ s.length = l.length ∧ difG l.length s [] = true ∧ ∀ k ∈ s, 0 ≤ k ∧ k < l.length := by
  simp only [askO, Bool.and_eq_true, decide_eq_true_eq] at h
  obtain ⟨⟨h1, h2⟩, h3⟩ := h
  obtain ⟨g1, g2⟩ := goodO_all h1
  refine ⟨g1, g2, h2, h3, fun k hk => ?_⟩
  have := (difG_facts s [] h3).1 k hk
  omega
end Go.Proofs.YtecaabmaoaacnaaGreatDoor
/-
  Orders in a sequence: what the functions compute.
-/
namespace Go.Proofs.YtecaabmaoaacnaaGreatDoor
open Go Go.V
set_option linter.unusedSimpArgs false

theorem e_spec_l1Most (a b : Int) : F_spec_l1Most [I a, I b] = some (.ret [I (max a b)] []) := by
  rw [t_spec_l1Most]
  by_cases h : b < a
  · simp -implicitDefEqProofs [h, Int.max_eq_left (Int.le_of_lt h)]
  · simp -implicitDefEqProofs [h, Int.max_eq_right (Int.not_lt.1 h)]
theorem maxD_I (a b : Int) : maxD (I a) (I b) = some (I (max a b)) := by
  by_cases h : a < b
  · simp [maxD, h, Int.max_eq_right (Int.le_of_lt h)]
  · simp [maxD, h, Int.max_eq_left (Int.not_lt.1 h)]
theorem allI_not {n : Int} : ∀ (l : List Int) (i : Nat), allI (fun _ x => !decide (x = n)) i l = !decide (n ∈ l)
  | [], _ => by simp [allI]
  | x :: l, i => by
    simp only [allI, allI_not l]
    by_cases h : x = n
    · simp [h]
    · simp [h, Ne.symm h]
theorem e_spec_l1Has (l : List Int) (n : Int) (h : l.length ≤ 1048577) : F_spec_l1Has [ints l, I n] = some (.ret [B (decide (n ∈ l))] []) := by
  rw [t_spec_l1Has]
  simp only [lenD_arr, List.length_map, Option.bind_some]
  refine loop_bind _ (loop_all l (fun i => [I n, ints l, I l.length, I i]) (fun _ x => !decide (x = n)) (.ret [B true] []) (.ext 0 []) (fun i hi => ?_) ?_ rfl rfl rfl) ?_
  · have hw : IntKind.i64.wrap ((i : Int) + 1) = (i : Int) + 1 := wrap_id (by omega) (by omega)
    by_cases h1 : l[i] = n <;> simp -implicitDefEqProofs [hi, hw, h1]
  · simp
  · rw [allI_not]
    by_cases hm : n ∈ l <;> simp [hm]
/-- Each number is in its range and not met before. -/
def pDif (n : Int) (s : List Int) (i : Nat) (x : Int) : Bool := decide (0 ≤ x ∧ x ≤ n - 1) && !decide (x ∈ s.take i)
theorem dif_all {n : Int} {s : List Int} : ∀ (m : Nat) (i : Nat) (seen : List Int), i + m = s.length → (∀ x, x ∈ seen ↔ x ∈ s.take i) → allI (pDif n s) i (s.drop i) = difG n (s.drop i) seen
  | 0, i, seen, hi, hs => by
    rw [List.drop_eq_nil_of_le (by omega)]
    rfl
  | m + 1, i, seen, hi, hs => by
    have hlt : i < s.length := by omega
    rw [List.drop_eq_getElem_cons hlt]
    simp only [allI, difG, pDif, hs]
    rw [dif_all m (i + 1) (s[i] :: seen) (by omega)]
    intro x
    rw [List.take_succ_eq_append_getElem hlt, List.mem_append, List.mem_singleton, List.mem_cons, hs]
    exact Or.comm
theorem e_spec_orAsked (l : List Od) (s : List Int) (hl : l.length ≤ 1048576) : F_spec_orAsked [ods l, ints s] = some (.ret [B (askO l s)] []) := by
  rw [t_spec_orAsked]
  cases hg : goodO l
  · simp -implicitDefEqProofs [e_spec_orGood l hl, hg, askO]
  by_cases hn : s.length = l.length
  case neg =>
    have hn' : ¬ (s.length : Int) = (l.length : Int) := by omega
    simp -implicitDefEqProofs [e_spec_orGood l hl, hg, askO, hn, hn']
  have hn' : (s.length : Int) = (l.length : Int) := by omega
  simp -implicitDefEqProofs only [e_spec_orGood l hl, hg, callK_ret, sl_zero, un_not, Bool.not_true, Option.bind_some, gate_f, Bool.false_eq_true, if_false, lenD_arr, List.length_map, bin_neq, hn', decide_true, pickD_B, ifD_B]
  refine loop_bind _ (loop_all s (fun i => [ods l, ints s, ints s, I l.length, I i]) (pDif l.length s) (.ret [B false] []) (.ext 0 []) (fun i hi => ?_) ?_ rfl rfl rfl) ?_
  · have hi' : (i : Int) < (l.length : Int) := by omega
    have hw : IntKind.i64.wrap ((i : Int) + 1) = (i : Int) + 1 := wrap_id (by omega) (by omega)
    have hw2 : IntKind.i64.wrap ((l.length : Int) - 1) = (l.length : Int) - 1 := wrap_id (by omega) (by omega)
    have hsl : sliceD false 1 (ints s) (I 0) (I (i : Int)) = some (ints (s.take i)) := by
      have := sliceD_nat (z := 1) (i := 0) (j := i) (l := s.map fun n => I n) (k := .i64) (k' := .i64) (Nat.zero_le _) (by simp; omega)
      rw [List.drop_zero, ← List.map_take] at this
      exact this
    have hh := e_spec_l1Has (s.take i) s[i] (by rw [List.length_take]; omega)
    have hel : elemD 1 (ints s) (I (i : Int)) = some [I s[i]] := by simp [hi]
    by_cases h1 : 0 ≤ s[i] ∧ s[i] ≤ (l.length : Int) - 1
    · by_cases h2 : s[i] ∈ s.take i
      · simp -implicitDefEqProofs [hi', hel, hw, hw2, hsl, hh, h1, h2, pDif, e_spec_l1In]
      · simp -implicitDefEqProofs [hi', hel, hw, hw2, hsl, hh, h1, h2, pDif, e_spec_l1In]
    · simp -implicitDefEqProofs [hi', hel, hw, hw2, h1, pDif, e_spec_l1In]
  · have : ¬ (s.length : Int) < (l.length : Int) := by omega
    simp -implicitDefEqProofs [this]
  · have := dif_all (n := l.length) (s := s) s.length 0 [] (by omega) (by simp)
    rw [List.drop_zero] at this
    rw [this]
    unfold askO
    cases hd : difG l.length s [] <;> simp [hg, hn]
theorem e_fDif (s : List Int) (n : Nat) (hin : ∀ x ∈ s, inI x) (hs : s.length ≤ 1048576) (hn : n ≤ 1048576) : fDif [ints s, I (n : Int)] = some (.ret [B (difG n s [])] []) := by
  simp only [fDif]
  rw [intsOf_map s hin, Option.bind_some, if_pos ⟨hs, by omega, by omega⟩]
theorem e_impl_isSequence (l : List Od) (s : List Int) (hl : l.length ≤ 1048576) (hs : s.length ≤ 1048576) (hin : ∀ x ∈ s, inI x) : F_impl_isSequence [ods l, ints s] = some (.ret [B (askO l s)] []) := by
  rw [t_impl_isSequence]
  cases hg : goodO l
  · simp -implicitDefEqProofs [e_impl_AreOrders l hl, hg, askO]
  by_cases hn : s.length = l.length
  case neg =>
    have hn' : ¬ (s.length : Int) = (l.length : Int) := by omega
    simp -implicitDefEqProofs [e_impl_AreOrders l hl, hg, askO, hn, hn']
  have hn' : (s.length : Int) = (l.length : Int) := by omega
  have hd := e_fDif s l.length hin hs hl
  simp -implicitDefEqProofs [e_impl_AreOrders l hl, hg, askO, hn, hd]

theorem chk_int (a : Int) : chkA (ints [a]) = some (ints [a]) := chkA_map fun _ => rfl
theorem app_ints {l m : List Int} (h : l.length + m.length ≤ 1048577) : appD 1 8 (ints l) (ints m) = some (ints (l ++ m)) := by
  rw [appD_eq, if_pos (by simp only [List.length_map]; omega)]
  simp
theorem ord_at {l : List Od} {k : Int} (h : 0 ≤ k ∧ k < l.length) : elemD 4 (ods l) (I k) = some [I (oAt l k).1, I (oAt l k).2.1, I (oAt l k).2.2.1, I (oAt l k).2.2.2] := by
  have hlt : k.toNat < l.length := by omega
  rw [elemD_int h.1]
  simp [hlt, oAt]
abbrev at0 (l : List Od) (s : List Int) (i : Nat) : Int × Int × Int := (s.take i).foldl (runO l) (0, 0, 0)
theorem e_spec_orTimes (l : List Od) (s : List Int) (hg : ∀ x ∈ l, isOd x = true) (hs : ∀ k ∈ s, 0 ≤ k ∧ k < l.length) (hl : s.length ≤ 100) : F_spec_orTimes [ods l, ints s] = some (.ret [ints (timesO l (0, 0, 0) s), I (s.foldl (runO l) (0, 0, 0)).2.2] []) := by
  rw [t_spec_orTimes]
  simp only [lenD_arr, List.length_map, Option.bind_some]
  refine loop_bind _ (loop_for s.length (fun i => [ods l, ints (timesO l (0, 0, 0) (s.take i)), I (at0 l s i).1, I (at0 l s i).2.1, I (at0 l s i).2.2, ints s, I s.length, I i]) (.ext 0 [ints (timesO l (0, 0, 0) s), I (s.foldl (runO l) (0, 0, 0)).2.2]) (fun i hi => ?_) ?_ rfl rfl) ?_
  · have hi' : (i : Int) < (s.length : Int) := by omega
    have hk := hs s[i] (List.getElem_mem hi)
    have b1 := way_in hg hs i (by omega)
    have b2 := way_in hg hs (i + 1) hi
    have hel : elemD 1 (ints s) (I (i : Int)) = some [I s[i]] := by simp [hi]
    have hw : IntKind.i64.wrap ((i : Int) + 1) = ((i + 1 : Nat) : Int) := by rw [wrap_id (by omega) (by omega)]; omega
    have ht := times_take (l := l) hi (0, 0, 0)
    have hlen := timesO_len l (s.take i) (0, 0, 0)
    rw [List.length_take] at hlen
    have hap := app_ints (l := timesO l (0, 0, 0) (s.take i)) (m := [((s.take (i + 1)).foldl (runO l) (0, 0, 0)).2.1]) (by simp only [List.length_singleton]; omega)
    rw [← ht] at hap
    have hsq : (500 : Int) * ((i + 1 : Nat) : Int) * ((i + 1 : Nat) : Int) ≤ 500 * 100 * 100 := by
      have h1 : ((i + 1 : Nat) : Int) ≤ 100 := by omega
      have h2 : (500 : Int) * ((i + 1 : Nat) : Int) ≤ 500 * 100 := by omega
      exact Int.mul_le_mul h2 h1 (by omega) (by omega)
    show _ = some (Out.nrm [ods l, ints (timesO l (0, 0, 0) (s.take (i + 1))), I (at0 l s (i + 1)).1, I (at0 l s (i + 1)).2.1, I (at0 l s (i + 1)).2.2, ints s, I s.length, I ((i + 1 : Nat) : Int)])
    unfold at0 at *
    rw [way_take hi] at b2 hap ⊢
    generalize (s.take i).foldl (runO l) (0, 0, 0) = a at *
    obtain ⟨c, p, w⟩ := a
    simp only [runO] at b1 b2 hap ⊢
    have w1 : IntKind.i64.wrap (c + (oAt l s[i]).2.1) = c + (oAt l s[i]).2.1 := wrap_id (by omega) (by omega)
    have w2 : IntKind.i64.wrap (c + (oAt l s[i]).2.1 - p) = c + (oAt l s[i]).2.1 - p := wrap_id (by omega) (by omega)
    have w3 : IntKind.i64.wrap (w + max 0 (c + (oAt l s[i]).2.1 - p)) = w + max 0 (c + (oAt l s[i]).2.1 - p) := wrap_id (by omega) (by omega)
    have w4 : IntKind.i64.wrap (max p (c + (oAt l s[i]).2.1) + (oAt l s[i]).2.2.1) = max p (c + (oAt l s[i]).2.1) + (oAt l s[i]).2.2.1 := wrap_id (by omega) (by omega)
    simp -implicitDefEqProofs only [sl_zero, sl_succ, bin_lss, hi', decide_true, Option.bind_some, ifD_B, if_true, hel, Option.map_some, ldD_ptr, takeD_f, chkV_v, ord_at hk, offD_ptr, List.drop_succ_cons, List.drop_zero, bin_add, w1, bin_sub, w2, e_spec_l1Most, callK_ret, w3, w4, one_int, chk_int, hap, hw]
  · simp [at0]
  · simp
theorem e_impl_finished (l : List Od) (s : List Int) (hg : ∀ x ∈ l, isOd x = true) (hs : ∀ k ∈ s, 0 ≤ k ∧ k < l.length) (hl : s.length ≤ 100) : F_impl_finished [ods l, ints s] = some (.ret [ints (timesO l (0, 0, 0) s)] []) := by
  rw [t_impl_finished]
  simp only [lenD_arr, List.length_map, Option.bind_some, mkArr_nil]
  refine loop_bind _ (loop_for s.length (fun i => [ods l, ints (timesO l (0, 0, 0) (s.take i)), I (at0 l s i).1, I (at0 l s i).2.1, ints s, I s.length, I i]) (.ext 0 [ints (timesO l (0, 0, 0) s)]) (fun i hi => ?_) ?_ rfl rfl) ?_
  · have hi' : (i : Int) < (s.length : Int) := by omega
    have hk := hs s[i] (List.getElem_mem hi)
    have b1 := way_in hg hs i (by omega)
    have b2 := way_in hg hs (i + 1) hi
    have hel : elemD 1 (ints s) (I (i : Int)) = some [I s[i]] := by simp [hi]
    have hw : IntKind.i64.wrap ((i : Int) + 1) = ((i + 1 : Nat) : Int) := by rw [wrap_id (by omega) (by omega)]; omega
    have ht := times_take (l := l) hi (0, 0, 0)
    have hlen := timesO_len l (s.take i) (0, 0, 0)
    rw [List.length_take] at hlen
    have hap := app_ints (l := timesO l (0, 0, 0) (s.take i)) (m := [((s.take (i + 1)).foldl (runO l) (0, 0, 0)).2.1]) (by simp only [List.length_singleton]; omega)
    rw [← ht] at hap
    show _ = some (Out.nrm [ods l, ints (timesO l (0, 0, 0) (s.take (i + 1))), I (at0 l s (i + 1)).1, I (at0 l s (i + 1)).2.1, ints s, I s.length, I ((i + 1 : Nat) : Int)])
    unfold at0 at *
    rw [way_take hi] at b2 hap ⊢
    generalize (s.take i).foldl (runO l) (0, 0, 0) = a at *
    obtain ⟨c, p, w⟩ := a
    simp only [runO] at b1 b2 hap ⊢
    have w1 : IntKind.i64.wrap (c + (oAt l s[i]).2.1) = c + (oAt l s[i]).2.1 := wrap_id (by omega) (by omega)
    have w4 : IntKind.i64.wrap (max p (c + (oAt l s[i]).2.1) + (oAt l s[i]).2.2.1) = max p (c + (oAt l s[i]).2.1) + (oAt l s[i]).2.2.1 := wrap_id (by omega) (by omega)
    simp -implicitDefEqProofs only [sl_zero, sl_succ, bin_lss, hi', decide_true, Option.bind_some, ifD_B, if_true, hel, Option.map_some, ldD_ptr, takeD_f, chkV_v, ord_at hk, offD_ptr, List.drop_succ_cons, List.drop_zero, bin_add, w1, maxD_I, w4, one_int, chk_int, hap, hw]
  · simp
  · simp
theorem e_impl_greatest (l : List Int) (h : l.length ≤ 1048577) : F_impl_greatest [ints l] = some (.ret [I (mostL l)] []) := by
  rw [t_impl_greatest]
  simp only [lenD_arr, List.length_map, Option.bind_some]
  refine loop_bind _ (loop_foldl l (fun i a => [I a, ints l, I l.length, I i]) max (fun a => .ext 0 [I a]) 0 (fun i a hi => ?_) (fun a => ?_) (fun _ => rfl) rfl) ?_
  · have hw : IntKind.i64.wrap ((i : Int) + 1) = (i : Int) + 1 := wrap_id (by omega) (by omega)
    simp -implicitDefEqProofs [hi, hw, maxD_I]
  · simp
  · simp [mostL]
end Go.Proofs.YtecaabmaoaacnaaGreatDoor
/-
  Late orders, sums; three laws.
-/
namespace Go.Proofs.YtecaabmaoaacnaaGreatDoor
open Go Go.V
set_option linter.unusedSimpArgs false

abbrev tms (l : List Od) (s : List Int) : List Int := timesO l (0, 0, 0) s
def lateF (l : List Od) (s : List Int) (i : Nat) : Int := max 0 ((tms l s).getD i 0 - (oAt l (s.getD i 0)).2.2.2)
def lateO (l : List Od) (s : List Int) (n : Nat) : List Int := (List.range n).map (lateF l s)
theorem lateO_succ (l : List Od) (s : List Int) (n : Nat) : lateO l s (n + 1) = lateO l s n ++ [lateF l s n] := by simp [lateO, List.range_succ]
theorem lateO_len (l : List Od) (s : List Int) (n : Nat) : (lateO l s n).length = n := by simp [lateO]
theorem times_at {l : List Od} (hg : ∀ x ∈ l, isOd x = true) {s : List Int} (hs : ∀ k ∈ s, 0 ≤ k ∧ k < l.length) (hl : s.length ≤ 100) {i : Nat} (hi : i < s.length) : ∃ t, (tms l s)[i]? = some t ∧ 0 ≤ t ∧ t ≤ 100000 := by
  have hlen := timesO_len l s (0, 0, 0)
  have key : ∀ (n : Nat), n ≤ s.length → ∀ t ∈ timesO l (0, 0, 0) (s.take n), 0 ≤ t ∧ t ≤ 100000 := by
    intro n
    induction n with
    | zero => intro _ t ht; simp [timesO] at ht
    | succ n ih =>
      intro hn t ht
      rw [times_take (by omega)] at ht
      rcases List.mem_append.1 ht with ht | ht
      · exact ih (by omega) t ht
      · rw [List.mem_singleton.1 ht]
        have := way_in hg hs (n + 1) hn
        omega
  have hlt : i < (tms l s).length := by rw [hlen]; exact hi
  refine ⟨(tms l s)[i], List.getElem?_eq_getElem hlt, ?_⟩
  have := key s.length (Nat.le_refl _) (tms l s)[i] (by rw [List.take_length]; exact List.getElem_mem hlt)
  exact this
theorem od_due {l : List Od} (hg : ∀ x ∈ l, isOd x = true) {k : Int} (hk : 0 ≤ k ∧ k < l.length) : 0 ≤ (oAt l k).2.2.2 ∧ (oAt l k).2.2.2 ≤ 10000 := by
  have hlt : k.toNat < l.length := by omega
  have e : oAt l k = l[k.toNat] := by simp [oAt, hlt]
  have ho := hg _ (List.getElem_mem hlt)
  rw [← e] at ho
  simp only [isOd, Bool.and_eq_true, decide_eq_true_eq] at ho
  exact ho.2
theorem late_in {l : List Od} (hg : ∀ x ∈ l, isOd x = true) {s : List Int} (hs : ∀ k ∈ s, 0 ≤ k ∧ k < l.length) (hl : s.length ≤ 100) : ∀ x ∈ lateO l s s.length, 0 ≤ x ∧ x ≤ 100000 := by
  intro x hx
  obtain ⟨i, hi, rfl⟩ := List.mem_map.1 hx
  have hi := List.mem_range.1 hi
  obtain ⟨t, h1, h2, h3⟩ := times_at hg hs hl hi
  have hd := od_due hg (hs s[i] (List.getElem_mem hi))
  have e1 : (tms l s).getD i 0 = t := by rw [List.getD_eq_getElem?_getD, h1]; rfl
  have e2 : s.getD i 0 = s[i] := by simp [hi]
  unfold lateF
  rw [e1, e2]
  omega
theorem sum_step (l : List Int) (hl : l.length ≤ 1048576) (hx : ∀ x ∈ l, 0 ≤ x ∧ x ≤ 100000) (i : Nat) (a : Int) (hi : i < l.length) (ha : 0 ≤ a ∧ a ≤ 100000 * (i : Int)) : IntKind.i64.wrap (a + l[i]) = a + l[i] ∧ (0 ≤ a + l[i] ∧ a + l[i] ≤ 100000 * ((i + 1 : Nat) : Int)) := by
  have := hx l[i] (List.getElem_mem hi)
  exact ⟨wrap_id (by omega) (by omega), by omega, by omega⟩
theorem foldI_add (l : List Int) : ∀ (i : Nat) (a : Int), foldI (fun _ a x => a + x) i l a = l.foldl (· + ·) a := by
  induction l with
  | nil => intro i a; rfl
  | cons x l ih => intro i a; simp only [foldI, List.foldl_cons, ih]
/-! ### the functions of the laws -/
def finR (l : List Od) (s : List Int) : List Int := if askO l s = true then tms l s else []
def totR (l : List Od) (s : List Int) : Int := if askO l s = true then (lateO l s s.length).foldl (· + ·) 0 else 0
def idlR (l : List Od) (s : List Int) : Int := if askO l s = true then (s.foldl (runO l) (0, 0, 0)).2.2 else 0
section
variable (l : List Od) (s : List Int) (hl : l.length ≤ 1048576) (hs : s.length ≤ 1048576) (hin : ∀ x ∈ s, inI x)
include hl
theorem e_spec_FinishTimes : F_spec_FinishTimes [ods l, ints s] = some (.ret [ints (finR l s), B (askO l s)] []) := by
  rw [t_spec_FinishTimes]
  unfold finR
  cases ha : askO l s
  · simp -implicitDefEqProofs [e_spec_orAsked l s hl, ha]
  · obtain ⟨h1, h2, h3, h4, h5⟩ := askO_facts ha
    simp -implicitDefEqProofs [e_spec_orAsked l s hl, ha, e_spec_orTimes l s h1 h5 (by omega)]
theorem e_spec_IdlePress : F_spec_IdlePress [ods l, ints s] = some (.ret [I (idlR l s), B (askO l s)] []) := by
  rw [t_spec_IdlePress]
  unfold idlR
  cases ha : askO l s
  · simp -implicitDefEqProofs [e_spec_orAsked l s hl, ha]
  · obtain ⟨h1, h2, h3, h4, h5⟩ := askO_facts ha
    simp -implicitDefEqProofs [e_spec_orAsked l s hl, ha, e_spec_orTimes l s h1 h5 (by omega)]
include hs hin
theorem e_impl_FinishTimes : F_impl_FinishTimes [ods l, ints s] = some (.ret [ints (finR l s), B (askO l s)] []) := by
  rw [t_impl_FinishTimes]
  unfold finR
  cases ha : askO l s
  · simp -implicitDefEqProofs [e_impl_isSequence l s hl hs hin, ha, mkArr_nil]
  · obtain ⟨h1, h2, h3, h4, h5⟩ := askO_facts ha
    simp -implicitDefEqProofs [e_impl_isSequence l s hl hs hin, ha, e_impl_finished l s h1 h5 (by omega)]
theorem e_impl_IdlePress : F_impl_IdlePress [ods l, ints s] = some (.ret [I (idlR l s), B (askO l s)] []) := by
  rw [t_impl_IdlePress]
  unfold idlR
  cases ha : askO l s
  · simp -implicitDefEqProofs [e_impl_isSequence l s hl hs hin, ha]
  · obtain ⟨h1, h2, h3, h4, h5⟩ := askO_facts ha
    have hm := most_times h1 h5
    have hid := idle_eq h4 h3
    have hlen := timesO_len l s (0, 0, 0)
    have hb := way_in h1 h5 s.length (Nat.le_refl _)
    rw [List.take_length] at hb
    have hb4 := hb.2.2.2.1
    have hb3 := hb.2.2.1
    simp -implicitDefEqProofs only [e_impl_isSequence l s hl hs hin, ha, callK_ret, sl_zero, un_not, Bool.not_true, Option.bind_some, ifD_B, Bool.false_eq_true, if_false, if_true, e_impl_finished l s h1 h5 (by omega), e_impl_greatest (timesO l (0, 0, 0) s) (by rw [hlen]; omega), hm, lenD_arr, List.length_map]
    refine loop_bind _ (loop_foldi l (fun i a => [I a, ods l, I l.length, I i]) (fun i a => -500 * (i : Int) ≤ a ∧ a ≤ 100000) (fun _ a x => a - x.2.2.1) (fun a => .ext 0 [I a]) _ (fun i a hi hA => ?_) (fun a _ => ?_) (fun _ => rfl) (by simp; omega) rfl) ?_
    · have hw : IntKind.i64.wrap ((i : Int) + 1) = (i : Int) + 1 := wrap_id (by omega) (by omega)
      have ho := h1 l[i] (List.getElem_mem hi)
      simp only [isOd, Bool.and_eq_true, decide_eq_true_eq] at ho
      have hwa : IntKind.i64.wrap (a - l[i].2.2.1) = a - l[i].2.2.1 := wrap_id (by omega) (by omega)
      exact ⟨by simp -implicitDefEqProofs [hi, hw, hwa], by omega⟩
    · simp
    · have key : ∀ (m : List Od) (i : Nat) (a b : Int), foldI (fun _ a (x : Od) => a - x.2.2.1) i m (a - b) = a - m.foldl (fun a x => a + x.2.2.1) b := by
        intro m
        induction m with
        | nil => intro i a b; rfl
        | cons x m ih =>
          intro i a b
          simp only [foldI, List.foldl_cons]
          rw [← ih (i + 1) a (b + x.2.2.1)]
          congr 1
          omega
      have hk := key l 0 (s.foldl (runO l) (0, 0, 0)).2.1 0
      rw [Int.sub_zero] at hk
      unfold printS at hid
      rw [hk, hid]
      simp
end
theorem finR_len (l : List Od) (s : List Int) : (finR l s).length ≤ s.length := by
  unfold finR
  split
  · rw [timesO_len]; exact Nat.le_refl _
  · exact Nat.zero_le _
end Go.Proofs.YtecaabmaoaacnaaGreatDoor
/-
  The closures that order orders: walked by hand.
-/
namespace Go.Proofs.YtecaabmaoaacnaaGreatDoor
open Go Go.Proofs Go.V Go.RowKit Go.Sort
set_option linter.unusedSimpArgs false

abbrev odV (x : Od) : Value := .agg #[.int .i64 x.1, .int .i64 x.2.1, .int .i64 x.2.2.1, .int .i64 x.2.2.2]
def dueLt (a b : Od) : Bool := decide (a.2.2.2 < b.2.2.2)
def fstLt (a b : Od) : Bool :=
  if decide (a.2.1 < a.2.2.1) != decide (b.2.1 < b.2.2.1) then decide (a.2.1 < a.2.2.1)
  else if decide (a.2.1 < a.2.2.1) = true then decide (a.2.1 < b.2.1) else decide (b.2.2.1 < a.2.2.1)
/-- What a less of orders does. -/
def LessO (gl : Nat) (lt : Od → Od → Bool) : Prop :=
  (∀ args w, (callFunc gl args).run Tryz.prog w = .ok (.enter gl args) w) ∧
  ∀ (a b : Od) (W : World), Calls Tryz.prog gl #[odV a, odV b] W fun e w' => e = .returned (.bool (lt a b)) ∧ ∃ q os, w' = grow (W.drewN q) os

theorem grow2 (W : World) (a b : Obj) : (W.alloc a).alloc b = grow (W.drewN 0) #[a, b] := by
  rw [alloc_eq_grow, alloc_eq_grow, grow_grow]
  rfl
theorem grow2q (W : World) (a b : Obj) (q : Nat) : ((W.alloc a).alloc b).drewN q = grow (W.drewN q) #[a, b] := by
  rw [alloc_eq_grow, alloc_eq_grow, grow_grow]
  rfl
set_option maxHeartbeats 2000000 in
set_option maxRecDepth 1000000 in
theorem fst_walk : LessO 27 fstLt := by
  refine ⟨Go.Proofs.enters_of Tryz.func27 (by kernel_rfl) rfl, fun a b W => ?_⟩
  go_enter Tryz.func27, Tryz.ntmps27
  go_wp2
  go_quiet (fail)
  go_wp2
  all_goals
    go_ret
    refine ⟨congrArg (fun b => Ending.returned (.bool b)) ?_, nq, _, grow2q W _ _ nq⟩
    unfold fstLt
    by_cases g1 : a.2.1 < a.2.2.1 <;> by_cases g2 : b.2.1 < b.2.2.1 <;> first | (exfalso; omega) | (simp only [g1, g2, decide_true, decide_false, bne_self_eq_false, Bool.false_eq_true, if_true, if_false, Bool.true_bne, Bool.false_bne, Bool.not_false, Bool.not_true, beq_self_eq_true] at * <;> first | rfl | simp_all)

set_option maxHeartbeats 1000000 in
set_option maxRecDepth 1000000 in
theorem lessq_walk {gl : Nat} {lt : Od → Od → Bool} (hl : LessO gl lt) (i j : Nat) (x y : Nat) (a b : Od) (Bl Bo Bs bo oo co n g og cg ng : Nat) (W : World)
    (h1 : W.cell? ⟨Bl, 0, none⟩ = some (.func (.func gl) #[] #[])) (h2 : W.cell? ⟨Bo, 0, none⟩ = some (.slice (some ⟨bo, oo, none⟩) n co)) (h3 : W.cell? ⟨Bs, 0, none⟩ = some (.slice (some ⟨g, og, none⟩) ng cg))
    (hi : i < ng) (hj : j < ng) (hx : x < n) (hy : y < n)
    (c1 : W.cell? ⟨g, og + i, none⟩ = some (.int .i64 x)) (c2 : W.cell? ⟨g, og + j, none⟩ = some (.int .i64 y))
    (d0 : W.cell? ⟨bo, oo + x * 4, none⟩ = some (.int .i64 a.1)) (d1 : W.cell? ⟨bo, oo + x * 4 + 1, none⟩ = some (.int .i64 a.2.1)) (d2 : W.cell? ⟨bo, oo + x * 4 + 2, none⟩ = some (.int .i64 a.2.2.1)) (d3 : W.cell? ⟨bo, oo + x * 4 + 3, none⟩ = some (.int .i64 a.2.2.2))
    (e0 : W.cell? ⟨bo, oo + y * 4, none⟩ = some (.int .i64 b.1)) (e1 : W.cell? ⟨bo, oo + y * 4 + 1, none⟩ = some (.int .i64 b.2.1)) (e2 : W.cell? ⟨bo, oo + y * 4 + 2, none⟩ = some (.int .i64 b.2.2.1)) (e3 : W.cell? ⟨bo, oo + y * 4 + 3, none⟩ = some (.int .i64 b.2.2.2)) :
    Calls Tryz.prog 48 (#[.int .i64 i, .int .i64 j] ++ #[.pointer (some ⟨Bl, 0, none⟩), .pointer (some ⟨Bo, 0, none⟩), .pointer (some ⟨Bs, 0, none⟩)]) W fun e w' => e = .returned (.bool (lt a b)) ∧ ∃ q os, w' = grow (W.drewN q) os := by
  obtain ⟨eg, hc⟩ := hl
  go_enter Tryz.func48, Tryz.ntmps48
  go_wp2
  go_still_tail 15, (by kernel_rfl)
  change wpList _ _ _ _ _ (W.drewN 1)
  go_wp2_with (go_at_fn gl; refine (hc a b (W.drewN 1)).mono ?_; rintro e w' ⟨rfl, q, os, rfl⟩)
  go_ret
  exact ⟨rfl, 1 + q, os, rfl⟩
end Go.Proofs.YtecaabmaoaacnaaGreatDoor
/-
  impl.sequenceOf: walked by hand.
-/
namespace Go.Proofs.YtecaabmaoaacnaaGreatDoor
open Go Go.Proofs Go.V Go.RowKit Go.Sort
set_option linter.unusedSimpArgs false

def cellsO (x : Od) : List Value := [.int .i64 x.1, .int .i64 x.2.1, .int .i64 x.2.2.1, .int .i64 x.2.2.2]
/-- The indices of a list. -/
def idxL (n : Nat) : List Int := (List.range n).map fun (i : Nat) => (i : Int)
theorem idxL_succ (n : Nat) : idxL (n + 1) = idxL n ++ [(n : Int)] := by simp [idxL, List.range_succ]
theorem idxL_length (n : Nat) : (idxL n).length = n := by simp [idxL]
/-- The order at an index, and how an index lies in memory. -/
def oN (l : List Od) (x : Nat) : Od := l.getD (x % l.length) (0, 0, 0, 0)
def encN (n : Nat) (x : Nat) : Value := .int .i64 ((x % n : Nat) : Int)
def ltN (l : List Od) (lt : Od → Od → Bool) (x y : Nat) : Bool := lt (oN l x) (oN l y)
/-- The indices of orders, sorted. -/
def sortN (l : List Od) (lt : Od → Od → Bool) : Array Nat := Sort.insertionSort (ltN l lt) (List.range l.length).toArray 0 l.length
theorem size_insInner {α : Type} [Inhabited α] (lt : α → α → Bool) (a : Nat) : ∀ (j : Nat) (d : Array α), (insInner lt a j d).size = d.size
  | 0, d => by rw [insInner]
  | j + 1, d => by
    rw [insInner]
    split
    · rw [size_insInner lt a j, size_swp]
    · rfl
theorem size_insOuter {α : Type} [Inhabited α] (lt : α → α → Bool) (a b : Nat) : ∀ (k i : Nat) (d : Array α), b - i = k → (insOuter lt a b i d).size = d.size
  | 0, i, d, h => by rw [insOuter_stop lt a b i d (by omega)]
  | k + 1, i, d, h => by rw [insOuter_go lt a b i d (by omega), size_insOuter lt a b k (i + 1) _ (by omega), size_insInner]
theorem size_sortN (l : List Od) (lt : Od → Od → Bool) : (sortN l lt).size = l.length := by
  unfold sortN Sort.insertionSort
  rw [size_insOuter _ _ _ _ _ _ rfl]
  simp
section
variable {α : Type} [Inhabited α] {enc : α → Value} {w0 W : World} {g off : Nat} {dk : Array α}
theorem sw_block (h : SW enc w0 g 0 dk W) {cur : Array Value} {t : Nat} (hg : w0.heap[g]? = some (.cells cur t (0, 0))) (hs : dk.size ≤ cur.size) :
    ∃ cur', W.heap[g]? = some (.cells cur' t (0, 0)) ∧ cur'.size = cur.size ∧ ∀ (i : Nat) (u : Value), (dk.toList.map enc)[i]? = some u → cur'[i]? = some u := by
  obtain ⟨n, os, rfl⟩ := h
  have hb : g < w0.heap.size := (Array.getElem?_eq_some_iff.1 hg).1
  refine ⟨Go.Sort.putCells enc 0 dk cur, ?_, by simp [Go.Sort.putCells], fun i u hu => ?_⟩
  · unfold sortWorld
    rw [heap_grow_old _ _ (by rw [size_putRow]; exact hb)]
    unfold putRow mapBlock
    show (w0.heap.modify g _)[g]? = _
    rw [Array.getElem?_modify, if_pos rfl, hg]
    rfl
  · simp only [List.getElem?_map, Option.map_eq_some_iff] at hu
    obtain ⟨x, hx, rfl⟩ := hu
    rw [Array.getElem?_toList] at hx
    obtain ⟨hi, hx⟩ := Array.getElem?_eq_some_iff.1 hx
    have hic : i < cur.size := by omega
    unfold Go.Sort.putCells
    rw [Array.getElem?_mapIdx, Array.getElem?_eq_getElem hic]
    simp [hi, hx]
theorem sw_below (h : SW enc w0 g off dk W) {B : Nat} (hB : B ≤ g) (hs : B ≤ w0.heap.size) : Below B w0 W := by
  have hle := h.le
  obtain ⟨n, os, rfl⟩ := h
  refine ⟨rfl, rfl, rfl, hle, fun k hk => ?_⟩
  unfold sortWorld
  rw [heap_grow_old _ _ (by rw [size_putRow]; show k < w0.heap.size; omega)]
  unfold putRow mapBlock
  show (w0.heap.modify g _)[k]? = _
  rw [Array.getElem?_modify, if_neg (by omega)]
end
theorem info3 : (Tryz.prog.info? 3).map (fun i => (i.zero, i.size, i.bytes)) = some (some (.int .i64 0), 1, 8) := by kernel_rfl

theorem grown_set (w : World) (b : Nat) (v : Value) : w.grownBy (w.setCell ⟨b, 0, none⟩ v) (some b) :=
  ⟨rfl, rfl, rfl, by simp [World.setCell], fun k _ h => heap_setCell_other w ⟨b, 0, none⟩ k v (fun e => h (by rw [e]))⟩
theorem row_ne_box {w : World} {base e size n t b : Nat} {v x : Value} {xs : List Value} (h : w.ownsRow base e size v n xs) (hb : w.heap[b]? = some (.cells #[x] t (0, 0))) (ht : t ≠ e) : v.ownBlock ≠ some b := by
  obtain ⟨_, ⟨rfl, _⟩ | ⟨g, cap, cur, rfl, _, hg, _⟩⟩ := h
  · simp [Value.ownBlock]
  · intro e
    simp only [Value.ownBlock, Option.some.injEq] at e
    rw [e, hb] at hg
    simp only [Option.some.injEq, Obj.cells.injEq] at hg
    exact ht hg.2.1
theorem box_kept {wr w2 : World} {o : Obj} {b t : Nat} {v x : Value} (q : wr.heap[b]? = some (.cells #[x] t (0, 0))) (hg : (wr.alloc o).grownBy w2 v.ownBlock) (hn : v.ownBlock ≠ some b) : w2.heap[b]? = some (.cells #[x] t (0, 0)) := by
  have hb : b < wr.heap.size := (Array.getElem?_eq_some_iff.1 q).1
  have h1 : (wr.alloc o).heap[b]? = wr.heap[b]? := (World.grownBy_alloc wr o none).block b hb (by simp)
  exact (hg.block b (Nat.lt_of_lt_of_le hb (World.grownBy_alloc wr o none).size) (fun e => hn e.symm)).trans (h1.trans q)
theorem box_cell {w : World} {b t : Nat} {x : Value} (q : w.heap[b]? = some (.cells #[x] t (0, 0))) : w.cell? ⟨b, 0, none⟩ = some x ∧ w.frozen? ⟨b, 0, none⟩ = false :=
  ⟨by rw [Lib.cell_of_heap q]; rfl, Lib.frozen_of_heap q 0⟩
theorem row_slice {w : World} {base e size n : Nat} {v : Value} {xs : List Value} (h : w.ownsRow base e size v (n + 1) xs) : ∃ g cap, v = .slice (some ⟨g, 0, none⟩) (n + 1) cap := by
  obtain ⟨_, ⟨rfl, h⟩ | ⟨g, cap, cur, rfl, _⟩⟩ := h
  · cases h
  · exact ⟨g, cap, rfl⟩
theorem below_grow (w : World) (os : Array Obj) {B : Nat} (hs : B ≤ w.heap.size) : Below B w (grow w os) :=
  ⟨rfl, rfl, rfl, by rw [size_grow]; omega, fun k hk => heap_grow_old w os (by omega)⟩
theorem cellsO_at {w : World} {b o : Nat} {x : Od} (h : CellsAt w b o (cellsO x)) : w.cell? ⟨b, o, none⟩ = some (.int .i64 x.1) ∧ w.cell? ⟨b, o + 1, none⟩ = some (.int .i64 x.2.1) ∧ w.cell? ⟨b, o + 2, none⟩ = some (.int .i64 x.2.2.1) ∧ w.cell? ⟨b, o + 3, none⟩ = some (.int .i64 x.2.2.2) :=
  ⟨h 0 _ rfl, h 1 _ rfl, h 2 _ rfl, h 3 _ rfl⟩

set_option maxHeartbeats 1000000 in
/-- The sort's call. -/
theorem seq_sort {gl : Nat} {lt : Od → Od → Bool} (hl : LessO gl lt) (l : List Od) (hlen : l.length ≤ 8) (A : Option Addr) (c B N0 N1 N3 g cap : Nat) (w : World) (cur : Array Value)
    (hA : l ≠ [] → ∃ b o, A = some ⟨b, o, none⟩ ∧ b < w.heap.size ∧ b ≠ g ∧ ∀ (i : Nat) (x : Od), l[i]? = some x → CellsAt w b (o + i * 4) (cellsO x))
    (q0 : w.heap[N0]? = some (.cells #[.slice A l.length c] 23 (0, 0))) (q1 : w.heap[N1]? = some (.cells #[.func (.func gl) #[] #[]] 56 (0, 0)))
    (q3 : w.heap[N3]? = some (.cells #[.slice (some ⟨g, 0, none⟩) l.length cap] 24 (0, 0))) (hg : w.heap[g]? = some (.cells cur 3 (0, 0))) (hB : B ≤ g) (hBw : B ≤ w.heap.size) (hcur : l.length ≤ cur.size)
    (hrow : ∀ (i : Nat), i < l.length → cur[i]? = some (.int .i64 i)) :
    Calls Tryz.prog 47 #[.iface 24 (.slice (some ⟨g, 0, none⟩) l.length cap), .func (.func 48) #[] #[.pointer (some ⟨N1, 0, none⟩), .pointer (some ⟨N0, 0, none⟩), .pointer (some ⟨N3, 0, none⟩)]] w fun e w' =>
      e = .returned (.tuple #[]) ∧ Below B w w' ∧ w'.cell? ⟨N3, 0, none⟩ = some (.slice (some ⟨g, 0, none⟩) l.length cap) ∧
        ∃ cur', w'.heap[g]? = some (.cells cur' 3 (0, 0)) ∧ cur'.size = cur.size ∧ ∀ (i : Nat) (u : Value), ((sortN l lt).toList.map (encN l.length))[i]? = some u → cur'[i]? = some u := by
  have hgl : g < w.heap.size := (Array.getElem?_eq_some_iff.1 hg).1
  have hn0 : N0 ≠ g := fun e => by rw [e, hg] at q0; simp at q0
  have hn1 : N1 ≠ g := fun e => by rw [e, hg] at q1; simp at q1
  have hn3 : N3 ≠ g := fun e => by rw [e, hg] at q3; simp at q3
  by_cases h2 : 2 ≤ l.length
  · obtain ⟨b, o, rfl, hb, hbg, hcells⟩ := hA (fun e => by rw [e] at h2; simp at h2)
    have hsz : (List.range l.length).toArray.size = l.length := by simp
    have hH : Holds (encN l.length) w g 0 (List.range l.length).toArray := fun j hj => by
      rw [hsz] at hj
      refine ⟨?_, Lib.frozen_of_heap hg _⟩
      rw [Lib.cell_of_heap hg, Nat.zero_add, hrow j hj]
      rw [getElem!_pos _ j (by rw [hsz]; exact hj)]
      simp [encN, Nat.mod_eq_of_lt hj]
    have hless : Less2 Tryz.prog 48 #[.pointer (some ⟨N1, 0, none⟩), .pointer (some ⟨N0, 0, none⟩), .pointer (some ⟨N3, 0, none⟩)] (encN l.length) (ltN l lt) g 0 (List.range l.length).toArray.size w := by
      intro dk W hs hsw i j hi hj
      rw [hsz] at hs hi hj
      have hx : dk[i]! % l.length < l.length := Nat.mod_lt _ (by omega)
      have hy : dk[j]! % l.length < l.length := Nat.mod_lt _ (by omega)
      have k0 := (sw_cell hsw hn0 (Array.getElem?_eq_some_iff.1 q0).1).trans (box_cell q0).1
      have k1 := (sw_cell hsw hn1 (Array.getElem?_eq_some_iff.1 q1).1).trans (box_cell q1).1
      have k3 := (sw_cell hsw hn3 (Array.getElem?_eq_some_iff.1 q3).1).trans (box_cell q3).1
      have hold := hsw.holds hgl hH (by rw [hsz, hs])
      have hat : ∀ y, y < l.length → CellsAt W b (o + y * 4) (cellsO (l.getD y (0, 0, 0, 0))) := fun y hy t u hu => by
        have := hcells y _ (by rw [List.getD_eq_getElem?_getD, List.getElem?_eq_getElem hy]; rfl) t u hu
        rw [← this]
        exact sw_cell hsw hbg hb
      obtain ⟨d0, d1, d2, d3⟩ := cellsO_at (hat _ hx)
      obtain ⟨e0, e1, e2, e3⟩ := cellsO_at (hat _ hy)
      exact lessq_walk hl i j _ _ _ _ N1 N0 N3 b o c l.length g 0 cap l.length W k1 k0 k3 hi hj hx hy (hold i (by omega)).1 (hold j (by omega)).1 d0 d1 d2 d3 e0 e1 e2 e3
    have hc := slice_walk (encN l.length) (fun _ => rfl) (ltN l lt) 48 #[.pointer (some ⟨N1, 0, none⟩), .pointer (some ⟨N0, 0, none⟩), .pointer (some ⟨N3, 0, none⟩)] g 0 cap (List.range l.length).toArray w hgl
      (Go.Proofs.enters_of Tryz.func48 (by kernel_rfl) rfl) hless hH (by rw [hsz]; exact h2) (by rw [hsz]; omega)
    rw [hsz] at hc
    refine hc.mono ?_
    rintro e w' ⟨rfl, hsw⟩
    refine ⟨rfl, sw_below hsw hB hBw, (sw_cell hsw hn3 (Array.getElem?_eq_some_iff.1 q3).1).trans (box_cell q3).1, ?_⟩
    exact sw_block hsw hg (by have := size_sortN l lt; unfold sortN at this; omega)
  · refine (slice_tiny 48 _ (some ⟨g, 0, none⟩) l.length cap (by omega) w).mono ?_
    rintro e w' ⟨rfl, os, rfl⟩
    refine ⟨rfl, below_grow w os hBw, (cell?_grow _ _ _ (Array.getElem?_eq_some_iff.1 q3).1).trans (box_cell q3).1, cur, (heap_grow_old _ _ hgl).trans hg, rfl, fun i u hu => ?_⟩
    have he : sortN l lt = (List.range l.length).toArray := by
      unfold sortN Sort.insertionSort
      rw [insOuter_stop _ _ _ _ _ (by omega)]
    rw [he] at hu
    simp only [List.getElem?_map, Option.map_eq_some_iff] at hu
    obtain ⟨x, hx, rfl⟩ := hu
    obtain ⟨hi, rfl⟩ := List.getElem?_eq_some_iff.1 hx
    have hi' : i < l.length := by simpa using hi
    rw [hrow i hi']
    simp [encN, Nat.mod_eq_of_lt hi']

theorem at_alloc {w : World} (o : Obj) {n : Nat} (h : n = w.heap.size) : (w.alloc o).heap[n]? = some o := by
  subst h
  exact Array.getElem?_push_size
theorem past_alloc {w : World} (o : Obj) {n : Nat} {x : Obj} (h : w.heap[n]? = some x) : (w.alloc o).heap[n]? = some x :=
  ((World.grownBy_alloc w o none).block n (Array.getElem?_eq_some_iff.1 h).1 (by simp)).trans h
set_option maxHeartbeats 2000000 in
set_option maxRecDepth 1000000 in
theorem seq_walk {gl : Nat} {lt : Od → Od → Bool} (hl : LessO gl lt) (l : List Od) (hlen : l.length ≤ 8) (A : Option Addr) (c : Nat) (w : World)
    (hA : l ≠ [] → ∃ b o, A = some ⟨b, o, none⟩ ∧ b < w.heap.size ∧ ∀ (i : Nat) (x : Od), l[i]? = some x → CellsAt w b (o + i * 4) (cellsO x)) :
    Calls Tryz.prog 26 #[.slice A l.length c, .func (.func gl) #[] #[]] w fun e w' => ∃ g cap cur, e = .returned (.slice (some ⟨g, 0, none⟩) l.length cap) ∧ Below w.heap.size w w' ∧ w.heap.size ≤ g ∧
      w'.heap[g]? = some (.cells cur 3 (0, 0)) ∧ l.length ≤ cap ∧ cap ≤ cur.size ∧ ∀ (i : Nat) (u : Value), ((sortN l lt).toList.map (encN l.length))[i]? = some u → cur[i]? = some u := by
  obtain ⟨i0, hi, hz0, hz1, hz2⟩ := info_parts info3
  go_enter Tryz.func26, Tryz.ntmps26
  go_wp2
  go_loopw [10] (fun vi wr => ∃ (k g cap : Nat), vi = .int .i64 k ∧ k ≤ l.length ∧ wr.heap[w.heap.size]? = some (.cells #[.slice A l.length c] 23 (0, 0)) ∧ wr.heap[w.heap.size + 1]? = some (.cells #[.func (.func gl) #[] #[]] 56 (0, 0)) ∧
      wr.heap[w.heap.size + 1 + 1 + 1]? = some (.cells #[.slice (some ⟨g, 0, none⟩) k cap] 24 (0, 0)) ∧ wr.ownsRow (w.heap.size + 1 + 1) 3 1 (.slice (some ⟨g, 0, none⟩) k cap) k ((idxL k).map (Value.int .i64)) ∧ Below w.heap.size w wr ∧ w.heap.size + 4 ≤ wr.heap.size) (fun vi _ => l.length - (intOf vi).toNat)
  case atStart =>
    refine ⟨0, w.heap.size + 1 + 1, 0, rfl, Nat.zero_le _, ?_, ?_, ?_, ⟨rfl, .inr ⟨_, 0, #[], rfl, Nat.le_refl _, ?_, Nat.le_refl _, Nat.zero_le _, rfl, rfl⟩⟩, ((((Below.refl _ w).alloc (Nat.le_refl _) _).alloc (by simp) _).alloc (by simp; omega) _).alloc (by simp; omega) _, by simp⟩
    · exact past_alloc _ (past_alloc _ (past_alloc _ (at_alloc _ rfl)))
    · exact past_alloc _ (past_alloc _ (at_alloc _ (by simp)))
    · exact at_alloc _ (by simp)
    · exact past_alloc _ (at_alloc _ (by simp))
  case round =>
    obtain ⟨k, g, cap, rfl, hk, q0, q1, q3, hrow, hbw, hsz⟩ := hrel
    by_cases hp : k < l.length
    · have hpi : (k : Int) < (l.length : Int) := by omega
      obtain ⟨s0, s00⟩ := box_cell q3
      have hnb := row_ne_box hrow q3 (by decide)
      go_wp2_with (first
        | (at_builtin; refine wpList_append_own _ rfl _ _ 24 rfl (w.heap.size + 1 + 1) 3 i0 (.int .i64 0) 1 8 Tryz.underlying24 hi hz0 hz1 hz2 rfl (by decide) _ _ _ rfl (hrow.alloc _) ⟨wr.heap.size, 0, none⟩ 1 1 [.int .i64 k] rfl rfl (cell_one_new _ _ _) (by intro u hu; simp at hu; subst hu; rfl) (by unfold maxLen; omega) (by omega) (by simp; omega) ?_; intro v' w2 hown' hgrow hnil; obtain ⟨g', cap', rfl⟩ := row_slice hown'; have h3 := box_kept q3 hgrow hnb; obtain ⟨s1, s2⟩ := box_cell h3)
        | go_in)
      have h0 := box_kept q0 hgrow (row_ne_box hrow q0 (by decide))
      have h1 := box_kept q1 hgrow (row_ne_box hrow q1 (by decide))
      have hb1 : Below w.heap.size w w2 := (hbw.alloc hbw.size (.cells #[.int .i64 (k : Int)] 3)).grown hgrow (by simp; omega) (fun j hj => by have := (hrow.lt j hj).1; omega)
      refine ⟨⟨k + 1, g', cap', congrArg (Value.int .i64) (by omega), by omega, ?_, ?_, ?_, ?_, hb1.setCell (by simp; omega) _, ?_⟩, ?_⟩
      · rw [heap_setCell_other _ _ _ _ (by simp; omega)]
        exact h0
      · rw [heap_setCell_other _ _ _ _ (by simp)]
        exact h1
      · rw [heap_setCell_same _ _ _ _ _ _ h3]
        rfl
      · rw [idxL_succ, List.map_append]
        exact hown'.kept (grown_set _ _ _) (.inr (row_ne_box hown' h3 (by decide)))
      · have e1 := hgrow.size
        have e2 : (w2.setCell ⟨w.heap.size + 1 + 1 + 1, 0, none⟩ (Value.slice (some ⟨g', 0, none⟩) (k + 1) cap')).heap.size = w2.heap.size := by simp [World.setCell]
        simp at e1
        omega
      · show l.length - ((k : Int) + 1).toNat < l.length - (k : Int).toNat
        omega
    · have hpi : ¬ (k : Int) < (l.length : Int) := by omega
      have hkn : k = l.length := by omega
      subst hkn
      obtain ⟨hxs, ⟨hv, _⟩ | ⟨g2, cap2, cur, hv, hge, hg, hcap, _, hcs, htake⟩⟩ := hrow
      · cases hv
      cases hv
      have hwsz := hbw.size
      have hrow : ∀ (i : Nat), i < l.length → cur[i]? = some (.int .i64 i) := fun i hi => by
        have e : ((idxL l.length).map (Value.int .i64))[i]? = some (.int .i64 i) := by simp [idxL, hi]
        rw [← htake, List.getElem?_take_of_lt (by omega)] at e
        simpa using e
      have hs := seq_sort hl l hlen A c w.heap.size w.heap.size (w.heap.size + 1) (w.heap.size + 1 + 1 + 1) g cap wr cur (fun hne => by
        obtain ⟨b, o, h1, h2, h3⟩ := hA hne
        exact ⟨b, o, h1, by omega, by omega, fun i x hx t u hu => (hbw.cell (by exact h2)).trans (h3 i x hx t u hu)⟩) q0 q1 q3 hg (by omega) hwsz (by omega) hrow
      obtain ⟨s0, s00⟩ := box_cell q3
      go_wp2_with (go_at_call 47; refine hs.mono ?_; rintro e w' ⟨rfl, hB, hbox, hfin⟩)
      go_ret
      obtain ⟨cur', f1, f2, f3⟩ := hfin
      exact ⟨g, cap, cur', rfl, hbw.trans hB, by omega, f1, hcap, by omega, f3⟩
end Go.Proofs.YtecaabmaoaacnaaGreatDoor
/-
  The contract of impl.sequenceOf.
-/
namespace Go.Proofs.YtecaabmaoaacnaaGreatDoor
open Go Go.Proofs Go.V Go.RowKit
set_option linter.unusedSimpArgs false

/-- Orders out of data. -/
def odOf : D → Option Od
  | .agg [.v (.int .i64 a), .v (.int .i64 b), .v (.int .i64 c), .v (.int .i64 d)] => some (a, b, c, d)
  | _ => none
theorem odOf_some {d : D} {x : Od} (h : odOf d = some x) : d = od x := by
  unfold odOf at h
  split at h
  · cases h; rfl
  · cases h
def odsOf : List D → Option (List Od)
  | [] => some []
  | d :: l => (odOf d).bind fun x => (odsOf l).map (x :: ·)
theorem odsOf_some : ∀ (ds : List D) (l : List Od), odsOf ds = some l → ds = l.map od
  | [], l, h => by cases h; rfl
  | d :: ds, l, h => by
    simp only [odsOf, Option.bind_eq_some_iff, Option.map_eq_some_iff] at h
    obtain ⟨x, h1, m, h2, rfl⟩ := h
    rw [odOf_some h1, odsOf_some ds m h2]
    rfl
theorem odsOf_map : ∀ (l : List Od), odsOf (l.map od) = some l
  | [] => rfl
  | x :: l => by
    simp only [List.map_cons, odsOf, odsOf_map l]
    rfl
theorem rep_ods {w : World} {F : Nat → Prop} : ∀ (l : List Od) (us : List Value), RepL w F (l.map od) us → us = l.flatMap cellsO
  | [], us, h => RepL_nil.1 h
  | x :: l, us, h => by
    obtain ⟨v1, v2, rfl, h1, h2⟩ := RepL_cons.1 h
    rw [rep_ods l v2 h2]
    simp only [RepC] at h1
    obtain ⟨u1, r1, rfl, g1, h1⟩ := RepL_cons.1 h1.1
    obtain ⟨u2, r2, rfl, g2, h1⟩ := RepL_cons.1 h1
    obtain ⟨u3, r3, rfl, g3, h1⟩ := RepL_cons.1 h1
    obtain ⟨u4, r4, rfl, g4, h1⟩ := RepL_cons.1 h1
    simp only [RepC] at g1 g2 g3 g4
    rw [g1.1, g2.1, g3.1, g4.1, RepL_nil.1 h1]
    rfl
theorem cells_ods {w : World} {b : Nat} : ∀ (l : List Od) (o : Nat), CellsAt w b o (l.flatMap cellsO) → ∀ (i : Nat) (x : Od), l[i]? = some x → CellsAt w b (o + i * 4) (cellsO x)
  | [], _, _, i, x, hx => by simp at hx
  | y :: l, o, h, 0, x, hx => by
    simp only [List.getElem?_cons_zero, Option.some.injEq] at hx
    subst hx
    intro j u hu
    have := h j u (by rw [List.flatMap_cons, List.getElem?_append_left (List.getElem?_eq_some_iff.1 hu).1]; exact hu)
    simpa using this
  | y :: l, o, h, i + 1, x, hx => by
    have := cells_ods l (o + 4) (by
      have := h.drop 4
      exact this) i x (by simpa using hx)
    rw [show o + (i + 1) * 4 = o + 4 + i * 4 by omega]
    exact this
theorem RepL_ints {w : World} {F : Nat → Prop} : ∀ (l : List Int), RepL w F (l.map I) (l.map (Value.int .i64))
  | [] => RepL_nil.2 rfl
  | x :: l => RepL_cons.2 ⟨[.int .i64 x], l.map (Value.int .i64), rfl, by simp only [RepC]; exact ⟨trivial, rfl⟩, RepL_ints l⟩

/-- The indices, sorted. -/
def seqL (l : List Od) (lt : Od → Od → Bool) : List Int := (sortN l lt).toList.map fun (x : Nat) => ((x % l.length : Nat) : Int)
theorem seqL_length (l : List Od) (lt : Od → Od → Bool) : (seqL l lt).length = l.length := by
  simp [seqL, size_sortN]
end Go.Proofs.YtecaabmaoaacnaaGreatDoor
/-
  The library's insertion sort and the reference's: plain facts.
-/
namespace Go.Proofs.YtecaabmaoaacnaaGreatDoor
open Go Go.Proofs Go.V Go.Sort
set_option linter.unusedSimpArgs false

/-- Where a number comes to stand, from a place on backwards. -/
def posG (lt : Nat → Nat → Bool) (x : Nat) (A : List Nat) : Nat → Nat
  | 0 => 0
  | k + 1 => if lt x (A.getD k 0) = true then posG lt x A k else k + 1
def insS (lt : Nat → Nat → Bool) (x : Nat) (A : List Nat) : List Nat := A.take (posG lt x A A.length) ++ x :: A.drop (posG lt x A A.length)
def srt (lt : Nat → Nat → Bool) (l a : List Nat) : List Nat := l.foldl (fun o x => insS lt x o) a
theorem posG_le (lt : Nat → Nat → Bool) (x : Nat) (A : List Nat) : ∀ k, posG lt x A k ≤ k
  | 0 => Nat.le_refl _
  | k + 1 => by
    unfold posG
    split
    · exact Nat.le_succ_of_le (posG_le lt x A k)
    · exact Nat.le_refl _
theorem posG_app (lt : Nat → Nat → Bool) (x y : Nat) (A : List Nat) : ∀ k, k ≤ A.length → posG lt x (A ++ [y]) k = posG lt x A k
  | 0, _ => rfl
  | k + 1, h => by
    have e : (A ++ [y]).getD k 0 = A.getD k 0 := by
      rw [List.getD_eq_getElem?_getD, List.getD_eq_getElem?_getD, List.getElem?_append_left (by omega)]
    unfold posG
    rw [e, posG_app lt x y A k (by omega)]
theorem getD_last (A : List Nat) (y : Nat) : (A ++ [y]).getD A.length 0 = y := by simp
theorem insS_lt {lt : Nat → Nat → Bool} {x y : Nat} (A : List Nat) (h : lt x y = true) : insS lt x (A ++ [y]) = insS lt x A ++ [y] := by
  have e : posG lt x (A ++ [y]) (A ++ [y]).length = posG lt x A A.length := by
    rw [List.length_append]
    have hs : posG lt x (A ++ [y]) (A.length + 1) = if lt x ((A ++ [y]).getD A.length 0) = true then posG lt x (A ++ [y]) A.length else A.length + 1 := rfl
    show posG lt x (A ++ [y]) (A.length + 1) = _
    rw [hs, getD_last, if_pos h, posG_app _ _ _ _ _ (Nat.le_refl _)]
  have hp := posG_le lt x A A.length
  unfold insS
  rw [e, List.take_append_of_le_length hp, List.drop_append_of_le_length hp, List.append_assoc, List.cons_append]
theorem insS_ge {lt : Nat → Nat → Bool} {x y : Nat} (A : List Nat) (h : lt x y = false) : insS lt x (A ++ [y]) = A ++ [y, x] := by
  have e : posG lt x (A ++ [y]) (A ++ [y]).length = (A ++ [y]).length := by
    rw [List.length_append]
    have hs : posG lt x (A ++ [y]) (A.length + 1) = if lt x ((A ++ [y]).getD A.length 0) = true then posG lt x (A ++ [y]) A.length else A.length + 1 := rfl
    show posG lt x (A ++ [y]) (A.length + 1) = A.length + 1
    rw [hs, getD_last, if_neg (by rw [h]; exact Bool.false_ne_true)]
  unfold insS
  rw [e, List.take_of_length_le (Nat.le_refl _), List.drop_of_length_le (Nat.le_refl _), List.append_assoc]
  rfl
theorem insS_length (lt : Nat → Nat → Bool) (x : Nat) (A : List Nat) : (insS lt x A).length = A.length + 1 := by
  have hp := posG_le lt x A A.length
  unfold insS
  simp
  omega
theorem swp_last (A B : List Nat) (y x : Nat) : swp (A ++ [y] ++ x :: B).toArray (A.length + 1) A.length = (A ++ x :: y :: B).toArray := by
  have e1 : (A ++ [y] ++ x :: B).toArray[A.length + 1]! = x := by simp
  have e2 : (A ++ [y] ++ x :: B).toArray[A.length]! = y := by simp
  unfold swp
  rw [e1, e2]
  simp
theorem ins_kit (lt : Nat → Nat → Bool) (x : Nat) : ∀ (n : Nat) (A B : List Nat), A.length = n → insInner lt 0 n (A ++ x :: B).toArray = (insS lt x A ++ B).toArray
  | 0, A, B, h => by
    have h0 : A = [] := List.eq_nil_of_length_eq_zero h
    subst h0
    rw [insInner]
    rfl
  | n + 1, A, B, h => by
    have hne : A ≠ [] := fun e => by rw [e] at h; cases h
    obtain ⟨A', y, rfl⟩ : ∃ A' y, A = A' ++ [y] := ⟨A.dropLast, A.getLast hne, (List.dropLast_concat_getLast hne).symm⟩
    have hn : A'.length = n := by simpa using h
    have e1 : (A' ++ [y] ++ x :: B).toArray[n + 1]! = x := by rw [← hn]; simp
    have e2 : (A' ++ [y] ++ x :: B).toArray[n + 1 - 1]! = y := by rw [← hn]; simp
    cases hl : lt x y
    · rw [insInner_stop lt 0 (n + 1) _ (.inr (by rw [e1, e2]; exact hl)), insS_ge A' hl]
      simp
    · rw [insInner_go lt 0 (n + 1) _ (Nat.succ_pos n) (by rw [e1, e2]; exact hl), insS_lt A' hl, Nat.add_sub_cancel]
      rw [← hn, swp_last, hn, ins_kit lt x n A' (y :: B) hn]
      simp
theorem out_kit (lt : Nat → Nat → Bool) (n : Nat) : ∀ (r a : List Nat), a.length + r.length = n → insOuter lt 0 n a.length (a ++ r).toArray = (srt lt r a).toArray
  | [], a, h => by
    rw [insOuter_stop lt 0 n a.length _ (by simp at h; omega)]
    simp [srt]
  | x :: r, a, h => by
    simp only [List.length_cons] at h
    rw [insOuter_go lt 0 n a.length _ (by omega), ins_kit lt x a.length a r rfl]
    have := out_kit lt n r (insS lt x a) (by rw [insS_length]; omega)
    rw [insS_length] at this
    rw [this]
    rfl
theorem sort_kit (lt : Nat → Nat → Bool) (l : List Nat) : Sort.insertionSort lt l.toArray 0 l.length = (srt lt l []).toArray := by
  unfold Sort.insertionSort
  cases l with
  | nil => rw [insOuter_stop _ _ _ _ _ (by simp)]; rfl
  | cons x r => exact out_kit lt (x :: r).length r [x] (by simp; omega)
theorem mem_insS {lt : Nat → Nat → Bool} {x y : Nat} {A : List Nat} (h : y ∈ insS lt x A) : y = x ∨ y ∈ A := by
  unfold insS at h
  rcases List.mem_append.1 h with h | h
  · exact .inr (List.mem_of_mem_take h)
  · rcases List.mem_cons.1 h with h | h
    · exact .inl h
    · exact .inr (List.mem_of_mem_drop h)
theorem mem_srt {lt : Nat → Nat → Bool} {y : Nat} : ∀ (l a : List Nat), y ∈ srt lt l a → y ∈ l ∨ y ∈ a
  | [], a, h => .inr h
  | x :: l, a, h => by
    rcases mem_srt l (insS lt x a) h with h | h
    · exact .inl (by simp [h])
    · rcases mem_insS h with rfl | h
      · exact .inl (by simp)
      · exact .inr h
theorem posG_congr {lt lt' : Nat → Nat → Bool} {x : Nat} {A : List Nat} (h : ∀ y ∈ A, lt x y = lt' x y) : ∀ k, k ≤ A.length → posG lt x A k = posG lt' x A k
  | 0, _ => rfl
  | k + 1, hk => by
    have hm : A.getD k 0 ∈ A := by
      rw [List.getD_eq_getElem?_getD, List.getElem?_eq_getElem (by omega)]
      exact List.getElem_mem _
    unfold posG
    rw [h _ hm, posG_congr h k (by omega)]
theorem insS_congr {lt lt' : Nat → Nat → Bool} {x : Nat} {A : List Nat} (h : ∀ y ∈ A, lt x y = lt' x y) : insS lt x A = insS lt' x A := by
  unfold insS
  rw [posG_congr h _ (Nat.le_refl _)]
theorem srt_congr {lt lt' : Nat → Nat → Bool} (n : Nat) (h : ∀ x y, x < n → y < n → lt x y = lt' x y) : ∀ (l a : List Nat), (∀ x ∈ l, x < n) → (∀ x ∈ a, x < n) → srt lt l a = srt lt' l a
  | [], _, _, _ => rfl
  | x :: l, a, hl, ha => by
    have hx : x < n := hl x (by simp)
    show srt lt l (insS lt x a) = srt lt' l (insS lt' x a)
    rw [insS_congr (fun y hy => h x y hx (ha y hy))]
    refine srt_congr n h l _ (fun y hy => hl y (by simp [hy])) fun y hy => ?_
    rcases mem_insS hy with rfl | hy
    · exact hx
    · exact ha y hy
/-- The order of keys. -/
def ltK (ks : List Int) (x y : Nat) : Bool := decide (ks.getD x 0 < ks.getD y 0)
/-- The indices of numbers, sorted. -/
def srtK (ks : List Int) (n : Nat) : List Nat := srt (ltK ks) (List.range n) []
theorem srtK_succ (ks : List Int) (n : Nat) : srtK ks (n + 1) = insS (ltK ks) n (srtK ks n) := by
  simp [srtK, srt, List.range_succ]
theorem srtK_length (ks : List Int) : ∀ n, (srtK ks n).length = n
  | 0 => rfl
  | n + 1 => by rw [srtK_succ, insS_length, srtK_length ks n]
theorem srtK_lt (ks : List Int) (n : Nat) : ∀ x ∈ srtK ks n, x < n := fun x hx => by
  rcases mem_srt _ _ hx with h | h
  · simpa using h
  · cases h
abbrev nInts (l : List Nat) : List Int := l.map fun (n : Nat) => (n : Int)
theorem seqL_key (l : List Od) (lt : Od → Od → Bool) (key : Od → Int) (h : ∀ x ∈ l, ∀ y ∈ l, lt x y = decide (key x < key y)) : seqL l lt = nInts (srtK (l.map key) l.length) := by
  have e : sortN l lt = (srtK (l.map key) l.length).toArray := by
    unfold sortN
    have h1 := sort_kit (ltN l lt) (List.range l.length)
    rw [List.length_range] at h1
    rw [h1]
    unfold srtK
    refine congrArg List.toArray (srt_congr l.length (fun x y hx hy => ?_) _ _ (fun x hx => by simpa using hx) (fun x hx => by cases hx))
    have o1 : oN l x = l[x] := by
      unfold oN
      rw [Nat.mod_eq_of_lt hx, List.getD_eq_getElem?_getD, List.getElem?_eq_getElem hx]
      rfl
    have o2 : oN l y = l[y] := by
      unfold oN
      rw [Nat.mod_eq_of_lt hy, List.getD_eq_getElem?_getD, List.getElem?_eq_getElem hy]
      rfl
    unfold ltN ltK
    rw [o1, o2, h _ (List.getElem_mem hx) _ (List.getElem_mem hy)]
    simp [hx, hy]
  unfold seqL
  rw [e]
  refine List.map_congr_left fun x hx => ?_
  rw [Nat.mod_eq_of_lt (srtK_lt _ _ x hx)]
end Go.Proofs.YtecaabmaoaacnaaGreatDoor
/-
  Orders by their keys: what the functions compute.
-/
namespace Go.Proofs.YtecaabmaoaacnaaGreatDoor
open Go Go.Proofs Go.V
set_option linter.unusedSimpArgs false

theorem e_spec_orSorted (ks : List Int) (h : ks.length ≤ 8) : F_spec_orSorted [ints ks] = some (.ret [ints (nInts (srtK ks ks.length))] []) := by
  rw [t_spec_orSorted]
  simp only [lenD_arr, List.length_map, Option.bind_some]
  refine loop_bind (.ext 0 [ints (nInts (srtK ks ks.length))]) (loop_for ks.length (fun i => [ints ks, ints (nInts (srtK ks i)), I ks.length, I i]) _ (fun i hi => ?_) ?_ rfl rfl) ?_
  · have hlen := srtK_length ks i
    have hmem := srtK_lt ks i
    rw [srtK_succ]
    generalize srtK ks i = O at hlen hmem
    have hw : IntKind.i64.wrap ((i : Int) + 1) = (i : Int) + 1 := wrap_id (by omega) (by omega)
    simp -implicitDefEqProofs only [sl_zero, sl_succ, bin_lss, hi, Option.bind_some, ifD_B, decide_true, if_true, lenD_arr, List.length_map, hlen]
    rw [if_pos (by simp [hi])]
    refine loop_wf_bind (fun r => r = some (Out.nrm [ints ks, ints (nInts (insS (ltK ks) i O)), I (ks.length : Int), I ((i + 1 : Nat) : Int)])) (fun (k : Nat) => [ints ks, ints (nInts O), I (i : Int), I (k : Int), I (ks.length : Int), I (i : Int)]) (fun k => k ≤ i ∧ posG (ltK ks) i O k = posG (ltK ks) i O i) (fun k => k)
      (fun o => o = .ext 2 [ints ks, ints (nInts O), I (i : Int), I ((posG (ltK ks) i O i : Nat) : Int), I (ks.length : Int), I (i : Int)]) (fun k hk => ?_) i ⟨Nat.le_refl _, rfl⟩ rfl ?_
    · obtain ⟨hk, hp⟩ := hk
      cases k with
      | zero =>
        refine .inr ⟨_, ?_, rfl, rfl⟩
        rw [← hp]
        simp -implicitDefEqProofs [posG]
      | succ k =>
        have hko : k < O.length := by omega
        have hm := hmem _ (List.getElem_mem hko)
        have hm2 : O[k] < ks.length := by omega
        have hw2 : IntKind.i64.wrap (((k + 1 : Nat) : Int) - 1) = (k : Int) := by rw [wrap_id (by omega) (by omega)]; omega
        have hw3 : IntKind.i64.wrap (k : Int) = (k : Int) := wrap_id (by omega) (by omega)
        have hpos : (0 : Int) < ((k + 1 : Nat) : Int) := by omega
        have hps : posG (ltK ks) i O (k + 1) = if ltK ks i (O.getD k 0) = true then posG (ltK ks) i O k else k + 1 := rfl
        have hgd : O.getD k 0 = O[k] := by rw [List.getD_eq_getElem?_getD, List.getElem?_eq_getElem hko]; rfl
        rw [hgd] at hps
        have hlt : ltK ks i O[k] = decide (ks[i] < ks[O[k]]) := by simp [ltK, hi, hm2]
        by_cases hc : ks[i] < ks[O[k]]
        · refine .inl ⟨k, ?_, ⟨by omega, ?_⟩, Nat.lt_succ_self _⟩
          · simp -implicitDefEqProofs [hpos, hw2, hw3, hko, hm2, hi, hc]
          · rw [← hp, hps, hlt, if_pos (by simp [hc])]
        · refine .inr ⟨_, ?_, rfl, rfl⟩
          rw [← hp, hps, hlt, if_neg (by simp [hc])]
          simp -implicitDefEqProofs [hpos, hw2, hw3, hko, hm2, hi, hc]
    · rintro o rfl
      have hp := posG_le (ltK ks) i O i
      have hin : insS (ltK ks) i O = O.take (posG (ltK ks) i O i) ++ i :: O.drop (posG (ltK ks) i O i) := by rw [← hlen]; rfl
      rw [hin]
      generalize posG (ltK ks) i O i = p at hp
      have s1 : sliceD false 1 (ints (nInts O)) (I ((0 : Nat) : Int)) (I (p : Int)) = some (ints (nInts (O.take p))) := by
        have := sliceD_nat (z := 1) (l := (nInts O).map I) (i := 0) (j := p) (k := .i64) (k' := .i64) (Nat.zero_le _) (by simp; omega)
        rw [this]
        simp [List.map_take]
      have s2 : sliceHi false 1 (ints (nInts O)) (I (p : Int)) = some (ints (nInts (O.drop p))) := by
        have := sliceHi_nat (z := 1) (l := (nInts O).map I) (i := p) (k := .i64) (by simp; omega)
        rw [this]
        simp [List.map_drop]
      have a1 : appD 1 8 (ints []) (ints (nInts (O.take p))) = some (ints (nInts (O.take p))) := app_ints (l := []) (by simp; omega)
      have a2 : appD 1 8 (ints (nInts (O.take p))) (ints [(i : Int)]) = some (ints (nInts (O.take p) ++ [(i : Int)])) := app_ints (by simp; omega)
      have a3 : appD 1 8 (ints (nInts (O.take p) ++ [(i : Int)])) (ints (nInts (O.drop p))) = some (ints (nInts (O.take p) ++ [(i : Int)] ++ nInts (O.drop p))) := app_ints (by simp; omega)
      have c1 : ∀ l, chkA (ints l) = some (ints l) := fun l => chkA_map fun _ => rfl
      have m1 : mkArr 1 [] = some (ints []) := rfl
      have hb : (Nat.beq 2 2) = true := rfl
      simp -implicitDefEqProofs only [outK, sl_zero, sl_succ, hb, ifN_B, if_true, m1, one_int, c1, Option.bind_some]
      rw [show (D.v (Value.int IntKind.i64 0)) = I ((0 : Nat) : Int) from rfl, s1]
      simp -implicitDefEqProofs only [Option.bind_some, c1, a1, a2, s2, a3, bin_add, hw]
      simp [nInts]
  · simp
  · simp

/-- The orders by due times. -/
def dueR (l : List Od) : List Int := if goodO l = true then nInts (srtK (l.map fun x => x.2.2.2) l.length) else []
theorem goodO_len {l : List Od} (h : goodO l = true) : l.length ≤ 8 := by
  simp only [goodO, Bool.and_eq_true, decide_eq_true_eq] at h
  exact h.2
theorem dueR_len (l : List Od) : (dueR l).length ≤ l.length := by
  unfold dueR
  split
  · simp [srtK_length]
  · exact Nat.zero_le _
end Go.Proofs.YtecaabmaoaacnaaGreatDoor
