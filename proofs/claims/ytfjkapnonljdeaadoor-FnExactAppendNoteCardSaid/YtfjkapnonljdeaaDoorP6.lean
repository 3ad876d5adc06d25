/-
  Lines of a journal.
-/
import Derived.Test.YtfjkapnonljdeaaDoorP5
import Derived.Test.YtfjkapnonljdeaaDoorQN
namespace Go.Proofs.YtfjkapnonljdeaaDoor
open Go Go.V
set_option linter.unusedSimpArgs false

theorem isNt_iff {x : Nt} : isNt x = true ↔ (0 ≤ x.1 ∧ x.1 ≤ 9999) ∧ (0 ≤ x.2.1 ∧ x.2.1 ≤ 3) ∧ (1 ≤ x.2.2 ∧ x.2.2 ≤ 99999) := by
  simp only [isNt, Bool.and_eq_true, decide_eq_true_eq, and_assoc]
/-- The check of a note behind a check. -/
def ckN (b : Int) (x : Nt) : Int := (31 * b + 17 * x.1 + 5 * x.2.1 + x.2.2) % 9973
theorem ckN_range (b : Int) (x : Nt) : 0 ≤ ckN b x ∧ ckN b x ≤ 9972 := by
  unfold ckN
  omega
theorem ck_steps {b : Int} {x : Nt} (hb : 0 ≤ b ∧ b ≤ 9972) (hx : isNt x = true) : IntKind.i64.wrap (31 * b) = 31 * b ∧ IntKind.i64.wrap (17 * x.1) = 17 * x.1 ∧ IntKind.i64.wrap (31 * b + 17 * x.1) = 31 * b + 17 * x.1 ∧
    IntKind.i64.wrap (5 * x.2.1) = 5 * x.2.1 ∧ IntKind.i64.wrap (31 * b + 17 * x.1 + 5 * x.2.1) = 31 * b + 17 * x.1 + 5 * x.2.1 ∧ IntKind.i64.wrap (31 * b + 17 * x.1 + 5 * x.2.1 + x.2.2) = 31 * b + 17 * x.1 + 5 * x.2.1 + x.2.2 ∧
    (31 * b + 17 * x.1 + 5 * x.2.1 + x.2.2).tmod 9973 = ckN b x := by
  obtain ⟨h1, h2, h3⟩ := isNt_iff.1 hx
  refine ⟨wrap_id (by omega) (by omega), wrap_id (by omega) (by omega), wrap_id (by omega) (by omega), wrap_id (by omega) (by omega), wrap_id (by omega) (by omega), wrap_id (by omega) (by omega), ?_⟩
  rw [Int.tmod_eq_emod_of_nonneg (by omega)]
  rfl
theorem e_impl_check {b : Int} {x : Nt} (hb : 0 ≤ b ∧ b ≤ 9972) (hx : isNt x = true) : F_impl_check [I b, nt x] = some (.ret [I (ckN b x)] []) := by
  rw [t_impl_check]
  obtain ⟨h1, h2, h3, h4, h5, h6, h7⟩ := ck_steps hb hx
  simp -implicitDefEqProofs [h1, h2, h3, h4, h5, h6, h7]
theorem e_spec_joCheck {b : Int} {x : Nt} (hb : 0 ≤ b ∧ b ≤ 9972) (hx : isNt x = true) : F_spec_joCheck [I b, nt x] = some (.ret [I (ckN b x)] []) := by
  rw [t_spec_joCheck]
  obtain ⟨h1, h2, h3, h4, h5, h6, h7⟩ := ck_steps hb hx
  simp -implicitDefEqProofs [h1, h2, h3, h4, h5, h6, h7]

/-- The line of a note with a check. -/
def lnT (x : Nt) (c : Int) : ByteArray := intT x.1 ++ ⟨#[32]⟩ ++ intT x.2.1 ++ ⟨#[32]⟩ ++ intT x.2.2 ++ ⟨#[32]⟩ ++ intT c ++ ⟨#[10]⟩
theorem e_spec_joLine {x : Nt} {c : Int} (hx : isNt x = true) (hc : 0 ≤ c ∧ c ≤ 9972) : F_spec_joLine [nt x, I c] = some (.ret [T (lnT x c)] []) := by
  rw [t_spec_joLine]
  obtain ⟨h1, h2, h3⟩ := isNt_iff.1 hx
  have s1 := intT_size 9 (n := x.1) (by omega) (by omega)
  have s2 := intT_size 9 (n := x.2.1) (by omega) (by omega)
  have s3 := intT_size 9 (n := x.2.2) (by omega) (by omega)
  have s4 := intT_size 9 (n := c) (by omega) (by omega)
  have n1 := e_spec_l1Num (n := x.1) (by omega) (by omega)
  have n2 := e_spec_l1Num (n := x.2.1) (by omega) (by omega)
  have n3 := e_spec_l1Num (n := x.2.2) (by omega) (by omega)
  have n4 := e_spec_l1Num (n := c) (by omega) (by omega)
  simp -implicitDefEqProofs (disch := (first | assumption | (simp only [ByteArray.size_append, sz1]; omega))) [n1, n2, n3, n4, addS, -bin_addS, lnT]

/-- Numbers with a separator between them. -/
theorem e_impl_join (l : List Int) (sep : ByteArray) (hl : l.length ≤ 1048576) (hr : ∀ n ∈ l, -9223372036854775808 ≤ n ∧ n ≤ 9223372036854775807) (hz : (joinOf (l.map intT) sep).size ≤ 140737488355328) : F_impl_join [ints l, T sep] = some (.ret [T (joinOf (l.map intT) sep)] []) := by
  rw [t_impl_join]
  simp only [mkArr_nil, Option.bind_some, lenD_arr, List.length_map]
  refine loop_bind _ (loop_for l.length (fun i => [T sep, .arr 1 (((l.take i).map intT).map T), ints l, I l.length, I (i : Int)]) (.ext 0 [T sep, .arr 1 ((l.map intT).map T)]) (fun i hi => ?_) ?_ rfl rfl) ?_
  · have hi' : (i : Int) < (l.length : Int) := by omega
    have hw : IntKind.i64.wrap ((i : Int) + 1) = ((i + 1 : Nat) : Int) := by rw [wrap_id (by omega) (by omega)]; omega
    have hel : elemD 1 (ints l) (I (i : Int)) = some [I l[i]] := by simp [hi]
    have hr' := hr l[i] (List.getElem_mem hi)
    have hIt := e_Itoa hr'.1 hr'.2
    have e1 : (((l.take i).map intT).map T).length + [T (intT l[i])].length = i + 1 := by
      simp only [List.length_map, List.length_take, List.length_cons, List.length_nil]
      omega
    have hap : (i + 1) * 16 ≤ 140737488355328 ∧ i + 1 ≤ 1152921504606846976 := by omega
    have hck : chkA (.arr 1 [T (intT l[i])]) = some (.arr 1 [T (intT l[i])]) := chkA_texts [intT l[i]]
    have htk : ((l.take (i + 1)).map intT).map T = ((l.take i).map intT).map T ++ [T (intT l[i])] := by
      rw [List.take_succ_eq_append_getElem hi, List.map_append, List.map_append]
      rfl
    simp only [sl_zero, sl_succ, bin_lss, hi', decide_true, Option.bind_some, ifD_B, if_true, hel, Option.map_some, ldD_ptr, takeD_f, chkV_v, hIt, callK_ret, one_text, hck, appD_eq, e1, hap, and_self, bin_add, hw, htk]
  · have hi' : ¬ (l.length : Int) < (l.length : Int) := by omega
    simp only [sl_zero, sl_succ, bin_lss, hi', decide_false, Option.bind_some, ifD_B, Bool.false_eq_true, if_false, List.take_length]
  · have hj : fJoin [.arr 1 ((l.map intT).map T), T sep] = some (.ret [T (joinOf (l.map intT) sep)] []) := by
      simp only [fJoin, textsOf_T, Option.bind_some, List.length_map]
      rw [if_pos ⟨by omega, hz⟩]
    simp only [outK_ext, Nat.beq_refl, ifN_B, if_true, sl_zero, sl_succ, liveD_arr, liveD_ref, Option.bind_some, hj, callK_ret]
theorem callK_of {r : Option Out} {rs us : List D} {k : List D → List D → Option Out} {o : Option Out} (h : r = some (.ret rs us)) (hk : k rs us = o) : callK r k = o := by rw [h]; exact hk
theorem join4 (a b c d : ByteArray) (s : ByteArray) : joinOf [a, b, c, d] s = a ++ s ++ b ++ s ++ c ++ s ++ d := by
  apply chars_inj
  simp only [chars_append]
  unfold joinOf
  rw [chars_mk]
  simp [Lib.join, List.intercalate, List.intersperse, chars]
theorem e_impl_noteLine {x : Nt} {c : Int} (hx : isNt x = true) (hc : 0 ≤ c ∧ c ≤ 9972) : F_impl_noteLine [nt x, I c] = some (.ret [T (lnT x c)] []) := by
  rw [t_impl_noteLine]
  obtain ⟨h1, h2, h3⟩ := isNt_iff.1 hx
  have s1 := intT_size 9 (n := x.1) (by omega) (by omega)
  have s2 := intT_size 9 (n := x.2.1) (by omega) (by omega)
  have s3 := intT_size 9 (n := x.2.2) (by omega) (by omega)
  have s4 := intT_size 9 (n := c) (by omega) (by omega)
  have hj4 : joinOf ([x.1, x.2.1, x.2.2, c].map intT) ⟨#[32]⟩ = intT x.1 ++ ⟨#[32]⟩ ++ intT x.2.1 ++ ⟨#[32]⟩ ++ intT x.2.2 ++ ⟨#[32]⟩ ++ intT c := join4 _ _ _ _ _
  have hjz : (joinOf ([x.1, x.2.1, x.2.2, c].map intT) ⟨#[32]⟩).size ≤ 100 := by
    rw [hj4]
    simp only [ByteArray.size_append, sz1]
    omega
  have hj := e_impl_join [x.1, x.2.1, x.2.2, c] ⟨#[32]⟩ (by simp) (by simp; omega) (by omega)
  rw [hj4] at hj
  have hm : mkArr 1 [I x.1, I x.2.1, I x.2.2, I c] = some (ints [x.1, x.2.1, x.2.2, c]) := by simp [mkArr, lenOkD]
  simp -implicitDefEqProofs [hm]
  refine callK_of (hj : F_impl_join [ints [x.1, x.2.1, x.2.2, c], T ⟨#[32]⟩] = _) ?_
  simp -implicitDefEqProofs (disch := (first | assumption | (simp only [ByteArray.size_append, sz1]; omega))) [addS, -bin_addS, lnT]

/-! ### lines read -/
theorem chars_lnT (x : Nt) (c : Int) : chars (lnT x c) = (chars (intT x.1) ++ 32 :: (chars (intT x.2.1) ++ 32 :: (chars (intT x.2.2) ++ 32 :: chars (intT c)))) ++ [10] := by
  simp only [lnT, chars_append, List.append_assoc, List.cons_append, show chars ⟨#[32]⟩ = [32] from rfl, show chars ⟨#[10]⟩ = [10] from rfl, List.nil_append]
/-- A line without its end. -/
def lnL (x : Nt) (c : Int) : List UInt8 := chars (intT x.1) ++ 32 :: (chars (intT x.2.1) ++ 32 :: (chars (intT x.2.2) ++ 32 :: chars (intT c)))
theorem lnT_iff {x : Nt} {c : Int} {s : ByteArray} : lnT x c = s ++ ⟨#[10]⟩ ↔ chars s = lnL x c := by
  constructor
  · intro h
    have := congrArg chars h
    rw [chars_lnT, chars_append] at this
    exact (List.append_inj_left' this rfl).symm
  · intro h
    apply chars_inj
    rw [chars_lnT, chars_append, h]
    rfl
theorem nums_line {x : Nt} {c : Int} (hx : isNt x = true) (hc : 0 ≤ c ∧ c ≤ 9972) {s : ByteArray} (hs : chars s = lnL x c) : numsT s = [x.1, x.2.1, x.2.2, c] := by
  obtain ⟨h1, h2, h3⟩ := isNt_iff.1 hx
  have d1 := dig_int (n := x.1) (by omega)
  have d2 := dig_int (n := x.2.1) (by omega)
  have d3 := dig_int (n := x.2.2) (by omega)
  have d4 := dig_int (n := c) (by omega)
  refine numsT_of ?_ (by simp; omega) ?_
  · rw [hs]
    intro b hb
    simp only [lnL, List.mem_append, List.mem_cons] at hb
    rcases hb with hb | rfl | hb | rfl | hb | rfl | hb <;> first
      | decide
      | exact dig_lt (d1.2 b hb)
      | exact dig_lt (d2.2 b hb)
      | exact dig_lt (d3.2 b hb)
      | exact dig_lt (d4.2 b hb)
  · rw [hs, lnL, flds_word d1.1 d1.2 (by decide), flds_word d2.1 d2.2 (by decide), flds_word d3.1 d3.2 (by decide), flds_last d4.1 d4.2]
    rfl
theorem split_line {x : Nt} {c : Int} (hx : isNt x = true) (hc : 0 ≤ c ∧ c ≤ 9972) {s : ByteArray} (hs : chars s = lnL x c) : splitT 32 s = [intT x.1, intT x.2.1, intT x.2.2, intT c] := by
  obtain ⟨h1, h2, h3⟩ := isNt_iff.1 hx
  have d1 := dig_int (n := x.1) (by omega)
  have d2 := dig_int (n := x.2.1) (by omega)
  have d3 := dig_int (n := x.2.2) (by omega)
  have d4 := dig_int (n := c) (by omega)
  unfold splitT
  rw [hs, lnL, splitL_hit (not_dig d1.2 (by decide)), splitL_hit (not_dig d2.2 (by decide)), splitL_hit (not_dig d3.2 (by decide)), splitL_miss (not_dig d4.2 (by decide))]
  simp only [List.map_cons, List.map_nil, mk_chars]

theorem goodN_last {l : List Nt} {x : Nt} (h : goodN (l ++ [x]) = true) : isNt x = true ∧ l.length + 1 ≤ 24 := by
  unfold goodN at h
  simp only [Bool.and_eq_true, decide_eq_true_eq] at h
  refine ⟨?_, by simpa using h.2⟩
  have key : ∀ (p : Nat → Nt → Bool) (m : List Nt) (i : Nat), allI p i (m ++ [x]) = true → p (i + m.length) x = true := by
    intro p m
    induction m with
    | nil => intro i hi; simpa [allI] using hi
    | cons y m ih =>
      intro i hi
      simp only [List.cons_append, allI, Bool.and_eq_true] at hi
      have := ih (i + 1) hi.2
      rw [List.length_cons, show i + (m.length + 1) = i + 1 + m.length by omega]
      exact this
  have := key _ _ _ h.1
  simp only [pNt, Bool.and_eq_true] at this
  exact this.1
/-- What the program, and what the reference takes a line for. -/
def accI (l : List Nt) (c : Int) (s : ByteArray) : Option Nt :=
  match numsT s with
  | [a, b, g, _] => if goodN (l ++ [(a, b, g)]) = true ∧ lnT (a, b, g) (ckN c (a, b, g)) = s ++ ⟨#[10]⟩ then some (a, b, g) else none
  | _ => none
def accS (l : List Nt) (c : Int) (s : ByteArray) : Option Nt :=
  match splitT 32 s with
  | [a, b, g, _] => if goodN (l ++ [(readT a, readT b, readT g)]) = true ∧ lnT (readT a, readT b, readT g) (ckN c (readT a, readT b, readT g)) = s ++ ⟨#[10]⟩ then some (readT a, readT b, readT g) else none
  | _ => none
theorem accI_some {l : List Nt} {c : Int} {s : ByteArray} {x : Nt} (h : accI l c s = some x) : goodN (l ++ [x]) = true ∧ lnT x (ckN c x) = s ++ ⟨#[10]⟩ := by
  unfold accI at h
  split at h
  · split at h
    · rename_i hc
      cases h
      exact hc
    · cases h
  · cases h
theorem accS_some {l : List Nt} {c : Int} {s : ByteArray} {x : Nt} (h : accS l c s = some x) : goodN (l ++ [x]) = true ∧ lnT x (ckN c x) = s ++ ⟨#[10]⟩ := by
  unfold accS at h
  split at h
  · split at h
    · rename_i hc
      cases h
      exact hc
    · cases h
  · cases h
theorem accI_of {l : List Nt} {c : Int} {s : ByteArray} {x : Nt} (h : goodN (l ++ [x]) = true) (hs : lnT x (ckN c x) = s ++ ⟨#[10]⟩) : accI l c s = some x := by
  have hx := (goodN_last h).1
  unfold accI
  rw [nums_line hx (ckN_range c x) (lnT_iff.1 hs)]
  simp only
  rw [if_pos ⟨h, hs⟩]
theorem accS_of {l : List Nt} {c : Int} {s : ByteArray} {x : Nt} (h : goodN (l ++ [x]) = true) (hs : lnT x (ckN c x) = s ++ ⟨#[10]⟩) : accS l c s = some x := by
  have hx := (goodN_last h).1
  obtain ⟨h1, h2, h3⟩ := isNt_iff.1 hx
  unfold accS
  rw [split_line hx (ckN_range c x) (lnT_iff.1 hs)]
  simp only
  rw [readT_int (n := x.1) (by omega) (by omega), readT_int (n := x.2.1) (by omega) (by omega), readT_int (n := x.2.2) (by omega) (by omega), if_pos ⟨h, hs⟩]
theorem acc_eq (l : List Nt) (c : Int) (s : ByteArray) : accI l c s = accS l c s := by
  cases hi : accI l c s with
  | some x =>
    obtain ⟨h1, h2⟩ := accI_some hi
    rw [accS_of h1 h2]
  | none =>
    cases hs : accS l c s with
    | none => rfl
    | some x =>
      obtain ⟨h1, h2⟩ := accS_some hs
      rw [accI_of h1 h2] at hi
      cases hi
/-- The notes of lines: as many as belong to a journal, and how long their lines are. -/
def readN : List (List UInt8) → List Nt → Int → Nat → List Nt × Nat
  | [], l, _, u => (l, u)
  | m :: ms, l, c, u => match accS l c ⟨m.toArray⟩ with
    | some x => readN ms (l ++ [x]) (ckN c x) (u + (m.length + 1))
    | none => (l, u)
end Go.Proofs.YtfjkapnonljdeaaDoor
