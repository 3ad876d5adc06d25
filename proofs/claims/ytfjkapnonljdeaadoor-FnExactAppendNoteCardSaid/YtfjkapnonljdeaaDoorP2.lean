/-
  Texts cut at a byte.
-/
import Derived.Test.YtfjkapnonljdeaaDoorQ1
import Derived.Lib.IndexBytes
namespace Go.Proofs.YtfjkapnonljdeaaDoor
open Go Go.V
set_option linter.unusedSimpArgs false

theorem chars_inj {a b : ByteArray} (h : chars a = chars b) : a = b := by
  cases a with | mk a => cases b with | mk b =>
    cases a with | mk a => cases b with | mk b =>
      simp [chars] at h
      rw [h]
theorem chars_extract (s : ByteArray) (i j : Nat) : chars (s.extract i j) = ((chars s).take j).drop i := by
  simp [chars, List.drop_take]
theorem chars_mk (l : List UInt8) : chars ⟨l.toArray⟩ = l := by simp [chars]
theorem mk_chars (s : ByteArray) : (⟨(chars s).toArray⟩ : ByteArray) = s := chars_inj (chars_mk _)
theorem chars_append (a b : ByteArray) : chars (a ++ b) = chars a ++ chars b := by simp [chars]
theorem sliceS {s : ByteArray} {z i j : Nat} (h1 : i ≤ j) (h2 : j ≤ s.size) : sliceD true z (T s) (I (i : Int)) (I (j : Int)) = some (T (s.extract i j)) := by
  simp only [sliceD, Int.toNat_natCast]
  rw [if_pos (by omega)]
theorem sliceHiS {s : ByteArray} {z i : Nat} (h : i ≤ s.size) : sliceHi true z (T s) (I (i : Int)) = some (T (s.extract i s.size)) := by
  simp only [sliceHi, Int.toNat_natCast]
  rw [if_pos (by omega)]

/-! ### the pieces -/
def consH (x : UInt8) : List (List UInt8) → List (List UInt8)
  | [] => [[x]]
  | h :: t => (x :: h) :: t
/-- A text cut at each c. -/
def splitL (c : UInt8) : List UInt8 → List (List UInt8)
  | [] => [[]]
  | x :: l => if x = c then [] :: splitL c l else consH x (splitL c l)
theorem splitL_ne (c : UInt8) (l : List UInt8) : splitL c l ≠ [] := by
  cases l with
  | nil => simp [splitL]
  | cons x l =>
    simp only [splitL]
    split
    · simp
    · cases splitL c l <;> simp [consH]
theorem splitL_miss {c : UInt8} : ∀ {l : List UInt8}, c ∉ l → splitL c l = [l]
  | [], _ => rfl
  | x :: l, h => by
    simp only [List.mem_cons, not_or] at h
    simp only [splitL]
    rw [if_neg (Ne.symm h.1), splitL_miss h.2]
    rfl
theorem splitL_hit {c : UInt8} {b : List UInt8} : ∀ {a : List UInt8}, c ∉ a → splitL c (a ++ c :: b) = a :: splitL c b
  | [], _ => by simp [splitL]
  | x :: a, h => by
    simp only [List.mem_cons, not_or] at h
    rw [List.cons_append]
    simp only [splitL]
    rw [if_neg (Ne.symm h.1), splitL_hit h.2]
    rfl
theorem splitL_snoc (c x : UInt8) : ∀ (l : List UInt8) (o : List (List UInt8)) (p : List UInt8), splitL c l = o ++ [p] → splitL c (l ++ [x]) = if x = c then (o ++ [p]) ++ [[]] else o ++ [p ++ [x]]
  | [], o, p, h => by
    have h : [[]] = o ++ [p] := h
    have : o = [] ∧ p = [] := by
      cases o with
      | nil => simpa using h.symm
      | cons y o => cases o <;> simp at h
    obtain ⟨rfl, rfl⟩ := this
    simp only [List.nil_append, splitL]
    split <;> rfl
  | y :: l, o, p, h => by
    simp only [splitL] at h
    rw [List.cons_append]
    simp only [splitL]
    by_cases hy : y = c
    · rw [if_pos hy] at h ⊢
      cases o with
      | nil => exact absurd (List.cons.inj h).2 (splitL_ne c l)
      | cons z o =>
        rw [List.cons_append, List.cons.injEq] at h
        obtain ⟨rfl, h⟩ := h
        rw [splitL_snoc c x l o p h]
        split <;> rfl
    · rw [if_neg hy] at h ⊢
      generalize hs : splitL c l = s at h
      cases s with
      | nil => exact absurd hs (splitL_ne c l)
      | cons z s =>
        simp only [consH] at h
        cases o with
        | nil =>
          have : s = [] ∧ p = y :: z := by
            rw [List.nil_append, List.cons.injEq] at h
            exact ⟨h.2, h.1.symm⟩
          obtain ⟨rfl, rfl⟩ := this
          rw [splitL_snoc c x l [] z hs]
          split <;> simp [consH]
        | cons w o =>
          rw [List.cons_append, List.cons.injEq] at h
          obtain ⟨rfl, h⟩ := h
          rw [splitL_snoc c x l (z :: o) p (by rw [hs, h]; rfl)]
          split <;> simp [consH]

/-! ### the library's own words -/
theorem index_spec (c : UInt8) : ∀ (l : List UInt8), (Lib.index l [c] = -1 ∧ c ∉ l) ∨ ∃ a b, l = a ++ c :: b ∧ c ∉ a ∧ Lib.index l [c] = a.length
  | [] => .inl ⟨by simp [Lib.index], by simp⟩
  | x :: l => by
    rw [Lib.index_one]
    simp only [Lib.indexByte]
    by_cases hx : x = c
    · subst hx
      exact .inr ⟨[], l, rfl, by simp, by simp⟩
    · have ih := index_spec c l
      rw [Lib.index_one] at ih
      rw [if_neg (by simpa using hx)]
      rcases ih with ⟨h1, h2⟩ | ⟨a, b, rfl, h2, h3⟩
      · exact .inl ⟨by rw [h1]; rfl, by simp [h2, Ne.symm hx]⟩
      · refine .inr ⟨x :: a, b, rfl, by simp [h2, Ne.symm hx], ?_⟩
        rw [if_neg (by rw [h3]; simp), h3]
        simp
theorem splitK_eq (c : UInt8) : ∀ (n : Nat) (l : List UInt8), l.length ≤ n → Lib.splitK [c] 0 (Lib.count l [c]) l = splitL c l
  | n, l, hn => by
    rcases index_spec c l with ⟨h1, h2⟩ | ⟨a, b, rfl, h2, h3⟩
    · rw [Lib.count_miss h1, splitL_miss h2]
      rfl
    · rw [Lib.count_hit (by simp) h3, splitL_hit h2, Nat.add_comm 1]
      have hb : (a ++ c :: b).drop (a.length + [c].length) = b := by
        rw [← List.drop_drop]
        simp
      cases n with
      | zero => simp at hn
      | succ n =>
        rw [hb]
        unfold Lib.splitK
        rw [if_neg (by rw [h3]; simp), h3]
        have e : ((a.length : Int)).toNat = a.length := by omega
        rw [e, hb, splitK_eq c n b (by simp at hn; omega)]
        simp
/-- A text cut at each c. -/
def splitT (c : UInt8) (s : ByteArray) : List ByteArray := (splitL c (chars s)).map fun l => ⟨l.toArray⟩
theorem splitOf_eq (c : UInt8) (s : ByteArray) : splitOf s ⟨#[c]⟩ = splitT c s := by
  have h : (splitOf s ⟨#[c]⟩).map chars = splitL c (chars s) := by
    have := Lib.splitB_data ⟨#[c]⟩ 0 (Lib.countB s ⟨#[c]⟩) s
    rw [show (fun x : ByteArray => x.data.toList) = chars from rfl] at this
    rw [splitOf, this]
    exact splitK_eq c _ _ (Nat.le_refl _)
  have h2 : (splitOf s ⟨#[c]⟩).map (fun x => (⟨(chars x).toArray⟩ : ByteArray)) = splitT c s := by
    rw [splitT, ← h, List.map_map]
    rfl
  rw [← h2]
  have : (fun x : ByteArray => (⟨(chars x).toArray⟩ : ByteArray)) = id := funext mk_chars
  rw [this, List.map_id]
theorem e_Split {c : UInt8} {s : ByteArray} (h : s.size < 4294967281) : fSplit [T s, T ⟨#[c]⟩] = some (.ret [.arr 1 ((splitT c s).map T)] []) := by
  have h1 : 1 ≤ (⟨#[c]⟩ : ByteArray).size := Nat.le_refl 1
  simp only [fSplit, h, h1, and_self, if_true, splitOf_eq]
theorem cut_miss {c : UInt8} {l : List UInt8} (h : c ∉ l) : Lib.cut l [c] = (l, [], false) := by
  rcases index_spec c l with ⟨h1, _⟩ | ⟨a, b, rfl, _, _⟩
  · unfold Lib.cut
    rw [h1, if_neg (by decide)]
  · simp at h
theorem cut_hit {c : UInt8} {a b : List UInt8} (h : c ∉ a) : Lib.cut (a ++ c :: b) [c] = (a, b, true) := by
  rcases index_spec c (a ++ c :: b) with ⟨_, h2⟩ | ⟨a', b', e, h2, h3⟩
  · simp at h2
  · have hl : a.length = a'.length := by
      have key : ∀ (a a' b b' : List UInt8), c ∉ a → c ∉ a' → a ++ c :: b = a' ++ c :: b' → a.length = a'.length := by
        intro a
        induction a with
        | nil =>
          intro a' b b' _ h2 e
          cases a' with
          | nil => rfl
          | cons y a' =>
            simp at e
            simp [e.1] at h2
        | cons x a ih =>
          intro a' b b' h1 h2 e
          cases a' with
          | nil =>
            simp at e
            simp [e.1] at h1
          | cons y a' =>
            simp at e h1 h2 ⊢
            exact ih a' b b' h1.2 h2.2 e.2
      exact key a a' b b' h h2 e
    unfold Lib.cut
    rw [h3, if_pos (by omega)]
    have e2 : ((a'.length : Int)).toNat = a.length := by omega
    rw [e2]
    have hb : (a ++ c :: b).drop (a.length + [c].length) = b := by
      rw [← List.drop_drop]
      simp
    rw [hb]
    simp

theorem splitL_length (c : UInt8) : ∀ (l : List UInt8), (splitL c l).length ≤ l.length + 1
  | [] => by simp [splitL]
  | x :: l => by
    have ih := splitL_length c l
    simp only [splitL]
    split
    · simp; omega
    · generalize splitL c l = s at ih
      cases s <;> simp [consH] at ih ⊢ <;> omega
theorem one_text (s : ByteArray) : mkArr 1 [T s] = some (.arr 1 [T s]) := by simp [mkArr, lenOkD]
theorem chkA_texts (l : List ByteArray) : chkA (.arr 1 (l.map T)) = some (.arr 1 (l.map T)) := chkA_map fun _ => rfl

theorem e_spec_l1Split (s : ByteArray) (c : UInt8) (h : s.size ≤ 4294967296) : F_spec_l1Split [T s, U c.toNat] = some (.ret [.arr 1 ((splitT c s).map T)] []) := by
  rw [t_spec_l1Split]
  let mk : List UInt8 → ByteArray := fun l => ⟨l.toArray⟩
  refine loop_wf_bind (fun r => r = _) (fun (a : List (List UInt8) × Nat × Nat) => [T s, U c.toNat, .arr 1 ((a.1.map mk).map T), I (a.2.1 : Int), I (a.2.2 : Int)])
    (fun a => a.2.2 ≤ s.size ∧ a.2.1 ≤ a.2.2 ∧ a.1.length ≤ a.2.2 ∧ splitL c ((chars s).take a.2.2) = a.1 ++ [((chars s).take a.2.2).drop a.2.1])
    (fun a => s.size - a.2.2) (fun o => ∃ (outs : List (List UInt8)) (fr : Nat), o = .ext 0 [T s, .arr 1 ((outs.map mk).map T), I (fr : Int)] ∧ fr ≤ s.size ∧ outs.length ≤ s.size ∧ splitL c (chars s) = outs ++ [(chars s).drop fr])
    ?_ ([], 0, 0) ⟨Nat.zero_le _, Nat.le_refl _, Nat.le_refl _, by simp [splitL]⟩ rfl ?_
  · rintro ⟨outs, fr, i⟩ ⟨h1, h2, h3, h4⟩
    simp only at h1 h2 h3 h4
    by_cases hi : i < s.size
    · left
      have hl : i < (chars s).length := by rw [← size_list]; exact hi
      have hi' : (i : Int) < (s.size : Int) := by omega
      have hw : IntKind.i64.wrap ((i : Int) + 1) = ((i + 1 : Nat) : Int) := by rw [wrap_id (by omega) (by omega)]; omega
      have hch : charD (T s) (I (i : Int)) = some (U ((chars s)[i].toNat : Int)) := by
        rw [charD_nat, List.getElem?_eq_getElem hl]
        rfl
      have htk : (chars s).take (i + 1) = (chars s).take i ++ [(chars s)[i]] := List.take_succ_eq_append_getElem hl
      have hdr : ((chars s).take i ++ [(chars s)[i]]).drop fr = ((chars s).take i).drop fr ++ [(chars s)[i]] := by
        rw [List.drop_append_of_le_length (by rw [List.length_take]; omega)]
      by_cases hc : (chars s)[i] = c
      · refine ⟨(outs ++ [((chars s).take i).drop fr], i + 1, i + 1), ?_, ⟨by simp only; omega, Nat.le_refl _, by simp; omega, ?_⟩, by simp only; omega⟩
        · have hsl := sliceS (s := s) (z := 0) (i := fr) (j := i) h2 (by omega)
          have hmk : mk (((chars s).take i).drop fr) = s.extract fr i := chars_inj (by rw [chars_extract]; exact chars_mk _)
          have hap : (outs.length + 1) * 16 ≤ 140737488355328 ∧ outs.length + 1 ≤ 1152921504606846976 := by omega
          have e2 : (outs ++ [((chars s).take i).drop fr]).map mk = outs.map mk ++ [s.extract fr i] := by rw [List.map_append, List.map_cons, List.map_nil, hmk]
          have e1 : ((outs.map mk).map T).length + [T (s.extract fr i)].length = outs.length + 1 := by simp
          have hck : chkA (.arr 1 [T (s.extract fr i)]) = some (.arr 1 [T (s.extract fr i)]) := chkA_texts [s.extract fr i]
          simp only [sl_zero, sl_succ, lenD_str, Option.bind_some, bin_lss, hi', decide_true, ifD_B, if_true, hch, bin_eql, hc, hsl, one_text, hck, appD_eq, e1, hap, and_self, bin_add, hw, e2, List.map_append, List.map_cons, List.map_nil]
        · have := splitL_snoc c (chars s)[i] _ _ _ h4
          rw [if_pos hc, ← htk] at this
          simp only
          have hz : ((chars s).take (i + 1)).drop (i + 1) = [] := List.drop_eq_nil_of_le (by rw [List.length_take]; omega)
          rw [this, hz]
      · refine ⟨(outs, fr, i + 1), ?_, ⟨by simp only; omega, by simp only; omega, by simp only; omega, ?_⟩, by simp only; omega⟩
        · have hne : ¬ ((chars s)[i].toNat : Int) = (c.toNat : Int) := fun e => hc (UInt8.toNat_inj.1 (by omega))
          simp only [sl_zero, sl_succ, lenD_str, Option.bind_some, bin_lss, hi', decide_true, ifD_B, if_true, hch, bin_eql, hne, decide_false, Bool.false_eq_true, if_false, bin_add, hw]
        · have := splitL_snoc c (chars s)[i] _ _ _ h4
          rw [if_neg hc, ← htk] at this
          simp only
          rw [this, htk, hdr]
    · right
      have hi' : ¬ (i : Int) < (s.size : Int) := by omega
      have hie : i = s.size := by omega
      refine ⟨_, ?_, rfl, outs, fr, rfl, by omega, by omega, ?_⟩
      · simp only [sl_zero, sl_succ, lenD_str, Option.bind_some, bin_lss, hi', decide_false, ifD_B, Bool.false_eq_true, if_false]
      · rw [hie, size_list, List.take_length] at h4
        exact h4
  · rintro o ⟨outs, fr, rfl, h1, h2, h3⟩
    have hsl := sliceHiS (s := s) (z := 0) (i := fr) h1
    have hmk : mk ((chars s).drop fr) = s.extract fr s.size := chars_inj (by rw [chars_extract, size_list, List.take_length]; exact chars_mk _)
    have hap : (outs.length + 1) * 16 ≤ 140737488355328 ∧ outs.length + 1 ≤ 1152921504606846976 := by omega
    have e1 : ((outs.map mk).map T).length + [T (s.extract fr s.size)].length = outs.length + 1 := by simp
    have hck : chkA (.arr 1 [T (s.extract fr s.size)]) = some (.arr 1 [T (s.extract fr s.size)]) := chkA_texts [s.extract fr s.size]
    have e2 : splitT c s = outs.map mk ++ [s.extract fr s.size] := by rw [splitT, h3, List.map_append, List.map_cons, List.map_nil]; exact congrArg _ (congrArg (fun x => [x]) hmk)
    simp only [outK_ext, Nat.beq_refl, ifN_B, if_true, sl_zero, sl_succ, hsl, Option.bind_some, one_text, hck, appD_eq, e1, hap, and_self, e2, List.map_append, List.map_cons, List.map_nil]
end Go.Proofs.YtfjkapnonljdeaaDoor
