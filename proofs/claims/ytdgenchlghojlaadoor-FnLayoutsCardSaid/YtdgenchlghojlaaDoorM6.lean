/-
  Numbers read out of texts: the plain laws; 'l1Read', 'numbersIn'.
-/
import Derived.Test.YtdgenchlghojlaaDoorRows
import Derived.Test.YtdgenchlghojlaaDoorTie
import Derived.Test.YtdgenchlghojlaaDoorCards
import Derived.Test.YtdgenchlghojlaaDoorM5
import Derived.Laws.RangeString
import Derived.Laws.Bits64b
namespace Go.Proofs.YtdgenchlghojlaaDoor
open Go Go.V
set_option linter.unusedSimpArgs false

/-! ### digits -/
def dig (b : UInt8) : Bool := decide (48 ≤ b.toNat) && decide (b.toNat ≤ 57)
theorem dig_iff {b : UInt8} : dig b = true ↔ 48 ≤ b.toNat ∧ b.toNat ≤ 57 := by simp [dig]
theorem toNat_digit {u : Nat} (h : u < 10) : (UInt8.ofNat (48 + u)).toNat = 48 + u := by
  simp
  omega
theorem dig_ofNat {u : Nat} (h : u < 10) : dig (UInt8.ofNat (48 + u)) = true := by
  rw [dig_iff, toNat_digit h]
  omega
theorem decDigits_step {u : Nat} (h : ¬ u < 10) : Lib.decDigits u = Lib.decDigits (u / 10) ++ [UInt8.ofNat (48 + u % 10)] := by rw [Lib.decDigits, dif_neg h]
theorem decDigits_ind {P : Nat → Prop} (h0 : ∀ u, u < 10 → P u) (h1 : ∀ u, ¬ u < 10 → P (u / 10) → P u) : ∀ u, P u := by
  intro u
  induction u using Nat.strongRecOn with
  | _ u ih =>
    by_cases h : u < 10
    · exact h0 u h
    · exact h1 u h (ih (u / 10) (by omega))
theorem decDigits_dig : ∀ u, ∀ b ∈ Lib.decDigits u, dig b = true := by
  refine decDigits_ind (fun u h b hb => ?_) (fun u h ih b hb => ?_)
  · rw [Lib.decDigits_one h] at hb
    rw [List.mem_singleton.1 hb]
    exact dig_ofNat h
  · rw [decDigits_step h] at hb
    rcases List.mem_append.1 hb with hb | hb
    · exact ih b hb
    · rw [List.mem_singleton.1 hb]
      exact dig_ofNat (Nat.mod_lt u (show 10 > 0 by decide))
theorem decDigits_ne : ∀ u, Lib.decDigits u ≠ [] := by
  refine decDigits_ind (fun u h => ?_) (fun u h ih => ?_)
  · rw [Lib.decDigits_one h]; simp
  · rw [decDigits_step h]; simp
/-- The first digit is 0 just at 0. -/
theorem decDigits_head : ∀ u, 0 < u → ∀ b t, Lib.decDigits u = b :: t → b ≠ 48 := by
  refine decDigits_ind (fun u h h0 b t e => ?_) (fun u h ih h0 b t e => ?_)
  · rw [Lib.decDigits_one h] at e
    obtain ⟨rfl, _⟩ := List.cons.inj e
    intro e2
    have := congrArg UInt8.toNat e2
    rw [toNat_digit h] at this
    have h48 : (48 : UInt8).toNat = 48 := rfl
    omega
  · rw [decDigits_step h] at e
    cases hd : Lib.decDigits (u / 10) with
    | nil => exact absurd hd (decDigits_ne _)
    | cons b' t' =>
      rw [hd, List.cons_append] at e
      obtain ⟨rfl, _⟩ := List.cons.inj e
      exact ih (by omega) _ _ hd
/-- What digits spell. -/
def valF (a : Nat) (l : List UInt8) : Nat := l.foldl (fun a b => a * 10 + (b.toNat - 48)) a
theorem valF_dec : ∀ u, valF 0 (Lib.decDigits u) = u := by
  refine decDigits_ind (fun u h => ?_) (fun u h ih => ?_)
  · rw [Lib.decDigits_one h]
    simp only [valF, List.foldl_cons, List.foldl_nil, toNat_digit h]
    omega
  · rw [decDigits_step h]
    simp only [valF] at ih ⊢
    rw [List.foldl_append, ih]
    simp only [List.foldl_cons, List.foldl_nil, toNat_digit (Nat.mod_lt u (show 10 > 0 by decide))]
    omega

/-! ### strconv.Atoi -/
theorem parse_append : ∀ (l r : List UInt8) (a b : Nat), Lib.parseUint10 a l = .ok b → Lib.parseUint10 a (l ++ r) = Lib.parseUint10 b r
  | [], r, a, b, h => by
    simp only [Lib.parseUint10] at h
    injection h with h
    subst h
    rfl
  | c :: l, r, a, b, h => by
    simp only [Lib.parseUint10] at h
    rw [List.cons_append]
    simp only [Lib.parseUint10]
    split at h
    · rename_i h1
      rw [if_pos h1]
      split at h
      · cases h
      · rename_i h2
        rw [if_neg h2]
        split at h
        · cases h
        · rename_i h3
          rw [if_neg h3]
          exact parse_append l r _ b h
    · cases h
theorem parse_dec : ∀ u, u < 1844674407370955162 → Lib.parseUint10 0 (Lib.decDigits u) = .ok u := by
  refine decDigits_ind (fun u h hu => ?_) (fun u h ih hu => ?_)
  · rw [Lib.decDigits_one h]
    simp only [Lib.parseUint10, toNat_digit h]
    rw [if_pos (by omega), if_neg (by omega), if_neg (by omega)]
    congr 1
    omega
  · have h10 := toNat_digit (Nat.mod_lt u (show 10 > 0 by decide))
    rw [decDigits_step h, parse_append _ _ _ _ (ih (by omega))]
    simp only [Lib.parseUint10, h10]
    rw [if_pos (by omega), if_neg (by omega), if_neg (by omega)]
    congr 1
    omega
theorem atoi_dec {u : Nat} (h : u < 1844674407370955162) : Lib.atoiAll (Lib.decDigits u) = .ok (u : Int) := by
  have hp := parse_dec u h
  cases hd : Lib.decDigits u with
  | nil => exact absurd hd (decDigits_ne u)
  | cons c r =>
    have hc := dig_iff.1 (decDigits_dig u c (by rw [hd]; simp))
    rw [hd] at hp
    unfold Lib.atoiAll
    simp only
    rw [if_neg (by omega)]
    unfold Lib.parseMag
    rw [if_neg (by simp), hp]
    simp only
    have h45 : ¬ c.toNat = 45 := by omega
    rw [if_neg (by omega), if_neg (by simp [h45]), if_neg h45]

/-! ### the fields of a text -/
def sepB (b : UInt8) : Bool := isSep b.toNat
theorem sepB_dig (b : UInt8) : sepB b = !dig b := by
  simp only [sepB, isSep, dig]
  by_cases h1 : b.toNat < 48 <;> by_cases h2 : 57 < b.toNat <;> simp [h1, h2] <;> omega
def flds : Option (List UInt8) → List UInt8 → List (List UInt8)
  | none, [] => []
  | some c, [] => [c]
  | none, b :: l => if sepB b = true then flds none l else flds (some [b]) l
  | some c, b :: l => if sepB b = true then c :: flds none l else flds (some (c ++ [b])) l
theorem flds_sep : ∀ {a : List UInt8} (l : List UInt8), (∀ b ∈ a, dig b = false) → flds none (a ++ l) = flds none l
  | [], _, _ => rfl
  | x :: a, l, h => by
    rw [List.cons_append]
    simp only [flds]
    rw [if_pos (by rw [sepB_dig, h x (by simp)]; rfl)]
    exact flds_sep l fun b hb => h b (by simp [hb])
theorem flds_cur : ∀ {w : List UInt8} (c l : List UInt8), (∀ b ∈ w, dig b = true) → flds (some c) (w ++ l) = flds (some (c ++ w)) l
  | [], c, l, _ => by simp
  | x :: w, c, l, h => by
    rw [List.cons_append]
    simp only [flds]
    rw [if_neg (by rw [sepB_dig, h x (by simp)]; simp), flds_cur (c ++ [x]) l fun b hb => h b (by simp [hb])]
    simp
theorem flds_word {w : List UInt8} (hn : w ≠ []) (h : ∀ b ∈ w, dig b = true) {x : UInt8} (hx : dig x = false) (l : List UInt8) : flds none (w ++ x :: l) = w :: flds none l := by
  cases w with
  | nil => exact absurd rfl hn
  | cons y w =>
    rw [List.cons_append]
    simp only [flds]
    rw [if_neg (by rw [sepB_dig, h y (by simp)]; simp), flds_cur [y] _ fun b hb => h b (by simp [hb])]
    simp only [flds]
    rw [if_pos (by rw [sepB_dig, hx]; rfl)]
    rfl
theorem flds_last {w : List UInt8} (hn : w ≠ []) (h : ∀ b ∈ w, dig b = true) : flds none w = [w] := by
  cases w with
  | nil => exact absurd rfl hn
  | cons y w =>
    simp only [flds]
    rw [if_neg (by rw [sepB_dig, h y (by simp)]; simp)]
    have := flds_cur (w := w) [y] [] fun b hb => h b (by simp [hb])
    rw [List.append_nil] at this
    rw [this]
    rfl

theorem fields_spans (s : ByteArray) (hs : ∀ b ∈ chars s, b.toNat < 128) : ∀ (f pos : Nat) (st : Option Nat) (acc : List (Nat × Nat)), s.size ≤ pos + f → pos ≤ s.size → (∀ a, st = some a → a < pos) →
    (Lib.closeSpans s (Lib.spansFromP isSep s f pos st acc)).map (fun x => chars (s.extract x.1 x.2)) = acc.map (fun x => chars (s.extract x.1 x.2)) ++ flds (st.map fun a => ((chars s).take pos).drop a) ((chars s).drop pos) := by
  intro f
  induction f with
  | zero =>
    intro pos st acc h1 h2 h3
    have hp : pos = s.size := by omega
    have hd : (chars s).drop pos = [] := List.drop_eq_nil_of_le (by rw [← size_list]; omega)
    rw [hd]
    cases st with
    | none => simp [Lib.spansFromP, Lib.closeSpans, flds]
    | some a => simp only [Lib.spansFromP, Lib.closeSpans, flds, Option.map_some, List.map_append, List.map_cons, List.map_nil, chars_extract, hp]
  | succ f ih =>
    intro pos st acc h1 h2 h3
    by_cases hp : pos < s.size
    case neg =>
      have hpe : pos = s.size := by omega
      have hd : (chars s).drop pos = [] := List.drop_eq_nil_of_le (by rw [← size_list]; omega)
      rw [hd, Lib.spansFromP_end _ _ _ _ _ _ hp]
      cases st with
      | none => simp [Lib.closeSpans, flds]
      | some a => simp only [Lib.closeSpans, flds, Option.map_some, List.map_append, List.map_cons, List.map_nil, chars_extract, hpe]
    have hl : pos < (chars s).length := by rw [← size_list]; exact hp
    have hb : (chars s)[pos].toNat < 128 := hs _ (List.getElem_mem hl)
    have hdec : Utf8.decode s pos = ((chars s)[pos].toNat, 1) := decode_ascii s pos hp hb
    have hcons : (chars s).drop pos = (chars s)[pos] :: (chars s).drop (pos + 1) := List.drop_eq_getElem_cons hl
    have htk : (chars s).take (pos + 1) = (chars s).take pos ++ [(chars s)[pos]] := List.take_succ_eq_append_getElem hl
    rw [hcons]
    unfold Lib.spansFromP
    rw [if_pos hp, hdec]
    simp only
    by_cases hsep : isSep (chars s)[pos].toNat = true
    · rw [if_pos hsep]
      cases st with
      | none =>
        simp only [Option.map_none, flds]
        rw [if_pos (show sepB _ = true from hsep)]
        exact ih (pos + 1) none acc (by omega) (by omega) (by simp)
      | some a =>
        simp only [Option.map_some, flds]
        rw [if_pos (show sepB _ = true from hsep), ih (pos + 1) none (acc ++ [(a, pos)]) (by omega) (by omega) (by simp)]
        simp only [List.map_append, List.map_cons, List.map_nil, List.append_assoc, chars_extract, Option.map_none, List.cons_append, List.nil_append]
    · rw [if_neg hsep]
      cases st with
      | none =>
        simp only [Option.map_none, flds]
        rw [if_neg (show ¬ sepB _ = true from hsep), ih (pos + 1) (some pos) acc (by omega) (by omega) (by intro a ha; cases ha; omega)]
        simp only [Option.map_some]
        rw [htk, List.drop_append_of_le_length (by rw [List.length_take]; omega), List.drop_eq_nil_of_le (by rw [List.length_take]; omega)]
        rfl
      | some a =>
        have ha := h3 a rfl
        simp only [Option.map_some, flds]
        rw [if_neg (show ¬ sepB _ = true from hsep), ih (pos + 1) (some a) acc (by omega) (by omega) (by intro a' ha'; cases ha'; omega)]
        simp only [Option.map_some]
        rw [htk, List.drop_append_of_le_length (by rw [List.length_take]; omega)]
theorem fields_ascii (s : ByteArray) (hs : ∀ b ∈ chars s, b.toNat < 128) : (Lib.goFieldsP isSep s).map chars = flds none (chars s) := by
  have := fields_spans s hs s.size 0 none [] (by omega) (Nat.zero_le _) (by simp)
  simpa [Lib.goFieldsP, Lib.spansOfP, List.map_map, Function.comp_def] using this

/-! ### numbersIn -/
/-- The numbers that words spell; none, if one is no number. -/
def numsG : List ByteArray → List Int → List Int
  | [], acc => acc
  | w :: l, acc => match Lib.atoiAll (chars w) with
    | .ok v => numsG l (acc ++ [v])
    | _ => []
def numsT (s : ByteArray) : List Int := numsG (Lib.goFieldsP isSep s) []
abbrev ints (l : List Int) : D := .arr 1 (l.map I)
theorem spans_length (p : Nat → Bool) (s : ByteArray) : ∀ (f pos : Nat) (st : Option Nat) (acc : List (Nat × Nat)), (Lib.spansFromP p s f pos st acc).1.length ≤ acc.length + f
  | 0, pos, st, acc => by simp [Lib.spansFromP]
  | f + 1, pos, st, acc => by
    unfold Lib.spansFromP
    by_cases hp : pos < s.size
    case neg =>
      rw [if_neg hp]
      exact Nat.le_add_right _ _
    rw [if_pos hp]
    by_cases hq : p (Utf8.decode s pos).1 = true
    · rw [if_pos hq]
      cases st with
      | none => exact Nat.le_trans (spans_length p s f _ none acc) (by omega)
      | some a =>
        have h := spans_length p s f (pos + (Utf8.decode s pos).2) none (acc ++ [(a, pos)])
        rw [List.length_append, List.length_singleton] at h
        exact Nat.le_trans h (by omega)
    · rw [if_neg hq]
      cases st with
      | none => exact Nat.le_trans (spans_length p s f _ _ acc) (by omega)
      | some a => exact Nat.le_trans (spans_length p s f _ _ acc) (by omega)
theorem fields_length (p : Nat → Bool) (s : ByteArray) : (Lib.goFieldsP p s).length ≤ s.size + 1 := by
  unfold Lib.goFieldsP Lib.spansOfP
  rw [List.length_map]
  have := spans_length p s s.size 0 none []
  unfold Lib.closeSpans
  split
  · simp only [List.length_append, List.length_cons, List.length_nil] at this ⊢; omega
  · simp only [List.length_nil] at this; omega
theorem fields_size (p : Nat → Bool) (s : ByteArray) : ∀ w ∈ Lib.goFieldsP p s, w.size ≤ s.size := by
  intro w hw
  unfold Lib.goFieldsP at hw
  obtain ⟨x, _, rfl⟩ := List.mem_map.1 hw
  rw [size_list, chars_extract, List.length_drop, List.length_take, ← size_list]
  omega
theorem e_FieldsFunc (s : ByteArray) (k : Nat) (p : Nat → Bool) (h : s.size ≤ 4294967296) : fFieldsFunc k p [T s, .clo k []] = some (.ret [.arr 1 ((Lib.goFieldsP p s).map T)] []) := by
  simp only [fFieldsFunc, h, and_self, if_true]
theorem one_int (a : Int) : mkArr 1 [I a] = some (ints [a]) := by simp [mkArr, lenOkD]
theorem chkA_ints (l : List Int) : chkA (ints l) = some (ints l) := chkA_map fun _ => rfl
theorem e_Atoi (w : ByteArray) (h : w.size ≤ 4294967296) : fAtoi [T w] = some (match Lib.atoiAll (chars w) with
    | .ok v => Out.ret [I v, .v .nilIface] []
    | .range => Out.ret [I (Lib.atoiSat (chars w)), .ifc] []
    | _ => Out.ret [I 0, .ifc] []) := by
  have h2 : w.size ≤ 281474976710656 := by omega
  simp only [fAtoi, h2, if_true]
  rw [show w.data.toList = chars w from rfl]
  cases Lib.atoiAll (chars w) <;> rfl
theorem e_impl_numbersIn (s : ByteArray) (h : s.size ≤ 1048576) : F_impl_numbersIn [T s] = some (.ret [ints (numsT s)] []) := by
  rw [t_impl_numbersIn]
  have hl := fields_length isSep s
  have hz := fields_size isSep s
  rw [e_FieldsFunc s _ isSep (by omega)]
  simp only [mkArr_nil, Option.bind_some, callK_ret, sl_zero, lenD_arr, List.length_map]
  generalize hw : Lib.goFieldsP isSep s = ws at hl hz
  have hnum : numsT s = numsG ws [] := by rw [numsT, hw]
  rw [hnum]
  refine loop_wf_bind (fun r => r = _) (fun (a : List Int × Nat) => [ints a.1, .arr 1 (ws.map T), I ws.length, I (a.2 : Int)]) (fun a => a.2 ≤ ws.length ∧ a.1.length ≤ a.2 ∧ numsG (ws.drop a.2) a.1 = numsG ws [])
    (fun a => ws.length - a.2) (fun o => o = .ext 0 [ints (numsG ws [])] ∨ o = .ret [ints (numsG ws [])] []) ?_ ([], 0) ⟨Nat.zero_le _, Nat.le_refl _, rfl⟩ rfl ?_
  · rintro ⟨acc, i⟩ ⟨h1, h2, h3⟩
    simp only at h1 h2 h3
    by_cases hi : i < ws.length
    · have hi' : (i : Int) < (ws.length : Int) := by omega
      have hw : IntKind.i64.wrap ((i : Int) + 1) = ((i + 1 : Nat) : Int) := by rw [wrap_id (by omega) (by omega)]; omega
      have hat := e_Atoi ws[i] (by have := hz ws[i] (List.getElem_mem hi); omega)
      have hel : elemD 1 (.arr 1 (ws.map T)) (I (i : Int)) = some [T ws[i]] := by simp [hi]
      rw [List.drop_eq_getElem_cons hi] at h3
      simp only [numsG] at h3
      cases ha : Lib.atoiAll (chars ws[i]) with
      | ok v =>
        rw [ha] at h3 hat
        left
        refine ⟨(acc ++ [v], i + 1), ?_, ⟨by simp only; omega, by simp; omega, h3⟩, by simp only; omega⟩
        have e1 : (acc.map I).length + ([v].map I).length = acc.length + 1 := by simp
        have hap : (acc.length + 1) * 8 ≤ 140737488355328 ∧ acc.length + 1 ≤ 1152921504606846976 := by omega
        simp only [sl_zero, sl_succ, Option.bind_some, bin_lss, hi', decide_true, ifD_B, if_true, hel, Option.map_some, ldD_ptr, takeD_f, chkV_v, hat, callK_ret, show tupAt (.tup [I v, .v .nilIface]) 0 = some (I v) from rfl,
          show tupAt (.tup [I v, .v .nilIface]) 1 = some (.v .nilIface) from rfl, show binI true BinOp.neq (.v .nilIface) (.v .nilIface) = some (B false) from rfl, Bool.false_eq_true, if_false, one_int, chkA_ints, appD_eq, e1, hap, and_self, bin_add, hw]
        rw [← List.map_append]
      | range =>
        rw [ha] at h3 hat
        right
        refine ⟨.ret [ints []] [], ?_, rfl, .inr (by rw [← h3])⟩
        simp only [sl_zero, sl_succ, Option.bind_some, bin_lss, hi', decide_true, ifD_B, if_true, hel, Option.map_some, ldD_ptr, takeD_f, chkV_v, hat, callK_ret, show ∀ n : Int, tupAt (.tup [I n, .ifc]) 0 = some (I n) from fun _ => rfl,
          show ∀ n : Int, tupAt (.tup [I n, .ifc]) 1 = some .ifc from fun _ => rfl, show binI true BinOp.neq .ifc (.v .nilIface) = some (B true) from rfl, mkArr_nil]
        rfl
      | _ =>
        rw [ha] at h3 hat
        right
        refine ⟨.ret [ints []] [], ?_, rfl, .inr (by rw [← h3])⟩
        simp only [sl_zero, sl_succ, Option.bind_some, bin_lss, hi', decide_true, ifD_B, if_true, hel, Option.map_some, ldD_ptr, takeD_f, chkV_v, hat, callK_ret, show tupAt (.tup [I 0, .ifc]) 0 = some (I 0) from rfl,
          show tupAt (.tup [I 0, .ifc]) 1 = some .ifc from rfl, show binI true BinOp.neq .ifc (.v .nilIface) = some (B true) from rfl, mkArr_nil]
        rfl
    · right
      have hi' : ¬ (i : Int) < (ws.length : Int) := by omega
      refine ⟨.ext 0 [ints acc], ?_, rfl, .inl ?_⟩
      · simp only [sl_zero, sl_succ, Option.bind_some, bin_lss, hi', decide_false, ifD_B, Bool.false_eq_true, if_false]
      · rw [List.drop_eq_nil_of_le (by omega)] at h3
        rw [← h3]
        rfl
  · rintro o (rfl | rfl)
    · simp only [outK_ext, Nat.beq_refl, ifN_B, if_true, sl_zero]
    · rfl
end Go.Proofs.YtdgenchlghojlaaDoor
/-
  Orders read out of texts.
-/
namespace Go.Proofs.YtdgenchlghojlaaDoor
open Go Go.V
set_option linter.unusedSimpArgs false

/-! ### l1Read -/
def readL (l : List UInt8) : Int :=
  if (1 ≤ l.length ∧ l.length ≤ 6) ∧ ¬ (l.head? = some 48 ∧ 1 < l.length) ∧ l.all dig = true then (valF 0 l : Int) else -1
def readT (s : ByteArray) : Int := readL (chars s)
theorem valF_snoc (l : List UInt8) (x : UInt8) (a : Nat) : valF a (l ++ [x]) = valF a l * 10 + (x.toNat - 48) := by simp [valF, List.foldl_append]
theorem valF_lt : ∀ (n : Nat) (l : List UInt8), l.length = n → (∀ b ∈ l, dig b = true) → valF 0 l < 10 ^ n := by
  intro n
  induction n with
  | zero =>
    intro l hl _
    rw [List.eq_nil_of_length_eq_zero hl]
    decide
  | succ n ih =>
    intro l hl hd
    have hne : l ≠ [] := fun e => by rw [e] at hl; simp at hl
    have hsp := List.dropLast_concat_getLast hne
    have h1 := ih l.dropLast (by rw [List.length_dropLast]; omega) fun b hb => hd b ((List.dropLast_sublist l).subset hb)
    have h2 := dig_iff.1 (hd _ (List.getLast_mem hne))
    rw [← hsp, valF_snoc, Nat.pow_succ]
    omega
theorem e_spec_l1Read (s : ByteArray) (h : s.size ≤ 4294967296) : F_spec_l1Read [T s] = some (.ret [I (readT s)] []) := by
  rw [t_spec_l1Read]
  have hsz : s.size = (chars s).length := rfl
  by_cases h1 : 1 ≤ (s.size : Int) ∧ (s.size : Int) ≤ 6
  case neg =>
    have hr : readT s = -1 := by
      unfold readT readL
      rw [if_neg (by rintro ⟨⟨g1, g2⟩, _⟩; exact h1 (by omega))]
    rw [hr]
    simp -implicitDefEqProofs [e_spec_l1In, h1]
  have hpos : 0 < (chars s).length := by omega
  have hch0 : charD (T s) (I 0) = some (U ((chars s)[0].toNat : Int)) := by
    have := charD_nat (s := s) (k := .i64) (i := 0)
    rw [List.getElem?_eq_getElem hpos] at this
    exact this
  have hhead : (chars s).head? = some (chars s)[0] := by rw [List.head?_eq_getElem?, List.getElem?_eq_getElem hpos]
  have h48 : (48 : UInt8).toNat = 48 := rfl
  have hc48 : ((chars s)[0].toNat : Int) = 48 ↔ (chars s)[0] = 48 := ⟨fun e => UInt8.toNat_inj.1 (by omega), fun e => by rw [e]; rfl⟩
  by_cases h2 : (chars s)[0] = 48 ∧ 1 < (chars s).length
  · have hr : readT s = -1 := by
      unfold readT readL
      rw [if_neg (by rintro ⟨_, g, _⟩; exact g ⟨by rw [hhead, h2.1], h2.2⟩)]
    have hl : (1 : Int) < (s.size : Int) := by omega
    have hc := hc48.2 h2.1
    rw [hr]
    simp -implicitDefEqProofs [e_spec_l1In, h1, hch0, hc, hl]
  have hgo : ∀ (K : D → Option Out), ((bin BinOp.eql false [] (U ((chars s)[0].toNat : Int)) (D.v (Value.int IntKind.u8 48))).bind fun z_3 => (gate (D.tup []) (B false) false (some z_3)).bind fun z_4 => (gate (D.tup []) z_4 true (some (T s))).bind fun z_5 =>
      (gate (D.tup []) z_4 true (lenD true z_5)).bind fun z_6 => (gate (D.tup []) z_4 true (bin BinOp.gtr false [] z_6 (D.v (Value.int IntKind.i64 1)))).bind fun z_7 => (gate (D.tup []) (B false) false (pickD z_4 z_7 (D.v (Value.bool false)))).bind K) = K (B false) := by
    intro K
    by_cases e : ((chars s)[0].toNat : Int) = 48
    · have : ¬ (1 : Int) < (s.size : Int) := fun hl => h2 ⟨hc48.1 e, by omega⟩
      simp -implicitDefEqProofs [e, this]
    · simp -implicitDefEqProofs [e]
  simp only [lenD_str, Option.bind_some, e_spec_l1In, h1, and_self, decide_true, callK_ret, sl_zero, un_not, Bool.not_true, gate_f, Bool.false_eq_true, if_false, hch0]
  have hgo' := hgo
  simp only [gate_f, Bool.false_eq_true, if_false, Option.bind_some] at hgo'
  rw [hgo']
  simp only [pickD_B, Bool.false_eq_true, if_false, Option.bind_some, ifD_B]
  refine loop_wf_bind (fun r => r = _) (fun (a : Nat × Nat) => [T s, I (a.1 : Int), I (a.2 : Int)]) (fun a => a.2 ≤ s.size ∧ a.1 = valF 0 ((chars s).take a.2) ∧ ∀ b ∈ (chars s).take a.2, dig b = true) (fun a => s.size - a.2)
    (fun o => o = if (chars s).all dig = true then .ext 0 [I (valF 0 (chars s) : Int)] else .ret [I (-1)] []) ?_ (0, 0) ⟨Nat.zero_le _, rfl, by simp⟩ rfl ?_
  · rintro ⟨n, i⟩ ⟨g1, g2, g3⟩
    simp only at g1 g2 g3
    by_cases hi : i < s.size
    · have hl : i < (chars s).length := by rw [← hsz]; exact hi
      have hi' : (i : Int) < (s.size : Int) := by omega
      have hch : charD (T s) (I (i : Int)) = some (U ((chars s)[i].toNat : Int)) := by
        rw [charD_nat, List.getElem?_eq_getElem hl]
        rfl
      have htk : (chars s).take (i + 1) = (chars s).take i ++ [(chars s)[i]] := List.take_succ_eq_append_getElem hl
      by_cases hd : dig (chars s)[i] = true
      · left
        have hd' := dig_iff.1 hd
        have hn : n < 10 ^ i := by
          rw [g2]
          exact valF_lt i _ (by rw [List.length_take]; omega) g3
        have h10 : 10 ^ i ≤ 10 ^ 6 := Nat.pow_le_pow_right (by decide) (by omega)
        have hw : IntKind.i64.wrap ((i : Int) + 1) = ((i + 1 : Nat) : Int) := by rw [wrap_id (by omega) (by omega)]; omega
        have hw1 : IntKind.i64.wrap (10 * (n : Int)) = 10 * (n : Int) := wrap_id (by omega) (by omega)
        have hw2 : IntKind.u8.wrap (((chars s)[i].toNat : Int) - 48) = ((chars s)[i].toNat : Int) - 48 := wrap8 _ (by omega) (by omega)
        have hw3 : IntKind.i64.wrap (((chars s)[i].toNat : Int) - 48) = ((chars s)[i].toNat : Int) - 48 := wrap_id (by omega) (by omega)
        have hw4 : IntKind.i64.wrap (10 * (n : Int) + (((chars s)[i].toNat : Int) - 48)) = ((n * 10 + ((chars s)[i].toNat - 48) : Nat) : Int) := by rw [wrap_id (by omega) (by omega)]; omega
        have c1 : ¬ ((chars s)[i].toNat : Int) < 48 := by omega
        have c2 : ¬ (57 : Int) < ((chars s)[i].toNat : Int) := by omega
        refine ⟨(n * 10 + ((chars s)[i].toNat - 48), i + 1), ?_, ⟨by simp only; omega, ?_, ?_⟩, by simp only; omega⟩
        · simp only [sl_zero, sl_succ, lenD_str, Option.bind_some, bin_lss, hi', decide_true, ifD_B, if_true, hch, c1, decide_false, gate_f, Bool.false_eq_true, if_false, bin_gtr, c2, pickD_B, bin_mul, hw1, bin_sub, hw2, convD, hw3, bin_add, hw4, hw]
        · simp only
          rw [htk, valF_snoc, g2]
        · simp only
          rw [htk]
          intro b hb
          rcases List.mem_append.1 hb with hb | hb
          · exact g3 b hb
          · rw [List.mem_singleton.1 hb]; exact hd
      · right
        refine ⟨.ret [I (-1)] [], ?_, rfl, ?_⟩
        · by_cases c1 : ((chars s)[i].toNat : Int) < 48
          · simp -implicitDefEqProofs [hi', hch, c1]
          · have c2 : (57 : Int) < ((chars s)[i].toNat : Int) := by
              have : ¬ (48 ≤ (chars s)[i].toNat ∧ (chars s)[i].toNat ≤ 57) := fun e => hd (dig_iff.2 e)
              omega
            simp -implicitDefEqProofs [hi', hch, c1, c2]
        · rw [if_neg]
          intro hall
          exact hd (List.all_eq_true.1 hall _ (List.getElem_mem hl))
    · right
      have hi' : ¬ (i : Int) < (s.size : Int) := by omega
      have hie : (chars s).take i = chars s := List.take_of_length_le (by omega)
      rw [hie] at g2 g3
      refine ⟨.ext 0 [I (n : Int)], ?_, rfl, ?_⟩
      · simp -implicitDefEqProofs [hi']
      · rw [if_pos (List.all_eq_true.2 g3), g2]
  · rintro o rfl
    by_cases ha : (chars s).all dig = true
    · have hr : readT s = (valF 0 (chars s) : Int) := by
        unfold readT readL
        rw [if_pos ⟨⟨by omega, by omega⟩, fun g => h2 ⟨by have := g.1; rw [hhead] at this; exact Option.some.inj this, g.2⟩, ha⟩]
      rw [if_pos ha, hr]
      rfl
    · have hr : readT s = -1 := by
        unfold readT readL
        rw [if_neg (fun g => ha g.2.2)]
      rw [if_neg ha, hr]
      rfl
theorem decDigits_len {u : Nat} (h : u < 1000000) : (Lib.decDigits u).length ≤ 6 := numT_size 5 u (by omega)
theorem readL_dec {u : Nat} (h : u < 1000000) : readL (Lib.decDigits u) = (u : Int) := by
  have h1 := decDigits_ne u
  have h2 := decDigits_len h
  have h3 : 1 ≤ (Lib.decDigits u).length := List.length_pos_iff.2 h1
  have hno : ¬ ((Lib.decDigits u).head? = some 48 ∧ 1 < (Lib.decDigits u).length) := by
    rintro ⟨g1, g2⟩
    by_cases hu : 0 < u
    · cases hd : Lib.decDigits u with
      | nil => exact h1 hd
      | cons b t =>
        rw [hd] at g1
        exact decDigits_head u hu b t hd (by simpa using g1)
    · have : u = 0 := by omega
      subst this
      rw [Lib.decDigits_one (by decide)] at g2
      simp at g2
  unfold readL
  rw [if_pos ⟨⟨h3, h2⟩, hno, List.all_eq_true.2 (decDigits_dig u)⟩, valF_dec]
theorem chars_intT (n : Int) (h : 0 ≤ n) : chars (intT n) = Lib.decDigits n.toNat := by
  obtain ⟨u, rfl⟩ := Int.eq_ofNat_of_zero_le h
  rw [intT_nat]
  exact chars_mk _
theorem readT_int {n : Int} (h0 : 0 ≤ n) (h1 : n < 1000000) : readT (intT n) = n := by
  unfold readT
  rw [chars_intT n h0, readL_dec (by omega)]
  omega
theorem atoi_int {n : Int} (h0 : 0 ≤ n) (h1 : n < 1000000) : Lib.atoiAll (chars (intT n)) = .ok n := by
  rw [chars_intT n h0, atoi_dec (by omega)]
  congr 1
  omega
theorem dig_int {n : Int} (h0 : 0 ≤ n) : chars (intT n) ≠ [] ∧ ∀ b ∈ chars (intT n), dig b = true := by
  rw [chars_intT n h0]
  exact ⟨decDigits_ne _, decDigits_dig _⟩
theorem dig_lt {b : UInt8} (h : dig b = true) : b.toNat < 128 := by
  have := dig_iff.1 h
  omega
/-- The numbers of a text whose fields are numerals. -/
theorem numsT_of {s : ByteArray} (hs : ∀ b ∈ chars s, b.toNat < 128) {ns : List Int} (hn : ∀ n ∈ ns, 0 ≤ n ∧ n < 1000000) (h : flds none (chars s) = ns.map fun n => chars (intT n)) : numsT s = ns := by
  unfold numsT
  have hf := fields_ascii s hs
  rw [h] at hf
  have key : ∀ (ws : List ByteArray) (ns : List Int) (acc : List Int), (∀ n ∈ ns, 0 ≤ n ∧ n < 1000000) → ws.map chars = ns.map (fun n => chars (intT n)) → numsG ws acc = acc ++ ns := by
    intro ws
    induction ws with
    | nil =>
      intro ns acc _ e
      cases ns with
      | nil => simp [numsG]
      | cons _ _ => simp at e
    | cons w ws ih =>
      intro ns acc hn e
      cases ns with
      | nil => simp at e
      | cons n ns =>
        rw [List.map_cons, List.map_cons, List.cons.injEq] at e
        have hr := hn n (by simp)
        simp only [numsG]
        rw [e.1, atoi_int hr.1 hr.2]
        simp only
        rw [ih ns (acc ++ [n]) (fun m hm => hn m (by simp [hm])) e.2]
        simp
  simpa using key _ ns [] hn hf

/-! ### orders -/
theorem not_dig {b : UInt8} {l : List UInt8} (h : ∀ x ∈ l, dig x = true) (hb : dig b = false) : b ∉ l := fun hm => by rw [h b hm] at hb; cases hb
theorem splitT_size (c : UInt8) (s : ByteArray) : ∀ w ∈ splitT c s, w.size ≤ s.size := by
  intro w hw
  unfold splitT at hw
  obtain ⟨l, hl, rfl⟩ := List.mem_map.1 hw
  have key : ∀ (m : List UInt8), ∀ l ∈ splitL c m, l.length ≤ m.length := by
    intro m
    induction m with
    | nil => intro l hl; simp [splitL] at hl; simp [hl]
    | cons x m ih =>
      intro l hl
      simp only [splitL] at hl
      split at hl
      · rcases List.mem_cons.1 hl with rfl | hl
        · simp
        · have := ih l hl
          simp; omega
      · generalize hs : splitL c m = t at hl ih
        cases t with
        | nil => exact absurd hs (splitL_ne c m)
        | cons y t =>
          simp only [consH] at hl
          rcases List.mem_cons.1 hl with rfl | hl
          · have := ih y (by simp)
            simp; omega
          · have := ih l (by simp [hl])
            simp; omega
  have := key _ l hl
  rw [size_list, chars_mk]
  exact this
theorem splitT_length (c : UInt8) (s : ByteArray) : (splitT c s).length = (splitL c (chars s)).length := by simp [splitT]
end Go.Proofs.YtdgenchlghojlaaDoor
/-
  Numbers in a text with a byte between them: written, read back in two ways.
-/
namespace Go.Proofs.YtdgenchlghojlaaDoor
open Go Go.V
set_option linter.unusedSimpArgs false

/-- Texts with a byte between them. -/
def joinL (c : UInt8) : List (List UInt8) → List UInt8
  | [] => []
  | [a] => a
  | a :: b :: l => a ++ c :: joinL c (b :: l)
theorem splitL_joinL {c : UInt8} : ∀ (ws : List (List UInt8)), ws ≠ [] → (∀ w ∈ ws, c ∉ w) → splitL c (joinL c ws) = ws
  | [], h, _ => absurd rfl h
  | [a], _, h => splitL_miss (h a (by simp))
  | a :: b :: l, _, h => by
    have hj : joinL c (a :: b :: l) = a ++ c :: joinL c (b :: l) := rfl
    rw [hj, splitL_hit (h a (by simp)), splitL_joinL (b :: l) (by simp) fun w hw => h w (by simp [hw])]
theorem joinL_splitL (c : UInt8) : ∀ (l : List UInt8), joinL c (splitL c l) = l
  | [] => rfl
  | x :: l => by
    have ih := joinL_splitL c l
    simp only [splitL]
    split
    · rename_i hx
      cases hs : splitL c l with
      | nil => exact absurd hs (splitL_ne c l)
      | cons y t =>
        rw [hs] at ih
        have : joinL c ([] :: y :: t) = [] ++ c :: joinL c (y :: t) := rfl
        rw [this, ih, hx]
        rfl
    · cases hs : splitL c l with
      | nil => exact absurd hs (splitL_ne c l)
      | cons y t =>
        rw [hs] at ih
        cases t with
        | nil =>
          have e : joinL c [y] = y := rfl
          rw [e] at ih
          show x :: y = x :: l
          rw [ih]
        | cons z t =>
          have e : joinL c (y :: z :: t) = y ++ c :: joinL c (z :: t) := rfl
          rw [e] at ih
          show (x :: y) ++ c :: joinL c (z :: t) = x :: l
          rw [← ih]
          rfl
theorem flds_joinL {c : UInt8} (hc : dig c = false) : ∀ (ws : List (List UInt8)), (∀ w ∈ ws, w ≠ [] ∧ ∀ b ∈ w, dig b = true) → flds none (joinL c ws) = ws
  | [], _ => rfl
  | [a], h => flds_last (h a (by simp)).1 (h a (by simp)).2
  | a :: b :: l, h => by
    have hj : joinL c (a :: b :: l) = a ++ c :: joinL c (b :: l) := rfl
    rw [hj, flds_word (h a (by simp)).1 (h a (by simp)).2 hc, flds_joinL hc (b :: l) fun w hw => h w (by simp [hw])]
theorem mem_joinL {c b : UInt8} : ∀ {ws : List (List UInt8)}, b ∈ joinL c ws → b = c ∨ ∃ w ∈ ws, b ∈ w
  | [], h => by cases h
  | [a], h => .inr ⟨a, by simp, h⟩
  | a :: a' :: l, h => by
    have hj : joinL c (a :: a' :: l) = a ++ c :: joinL c (a' :: l) := rfl
    rw [hj, List.mem_append, List.mem_cons] at h
    rcases h with h | h | h
    · exact .inr ⟨a, by simp, h⟩
    · exact .inl h
    · rcases mem_joinL h with h | ⟨w, hw, hb⟩
      · exact .inl h
      · exact .inr ⟨w, by simp only [List.mem_cons] at hw ⊢; exact .inr hw, hb⟩

/-! ### numerals are read back -/
theorem decDigits_val : ∀ (n : Nat) (l : List UInt8), l.length = n + 1 → (∀ b ∈ l, dig b = true) → (l.head? = some 48 → n = 0) → Lib.decDigits (valF 0 l) = l := by
  intro n
  induction n with
  | zero =>
    intro l hl hd _
    obtain ⟨x, rfl⟩ := List.length_eq_one_iff.1 hl
    have hx := dig_iff.1 (hd x (by simp))
    have hv : valF 0 [x] = x.toNat - 48 := by simp [valF]
    rw [hv, Lib.decDigits_one (by omega)]
    congr 1
    apply UInt8.toNat_inj.1
    rw [toNat_digit (by omega)]
    omega
  | succ n ih =>
    intro l hl hd hz
    have hne : l ≠ [] := fun e => by rw [e] at hl; simp at hl
    have hsp := List.dropLast_concat_getLast hne
    have hlen : l.dropLast.length = n + 1 := by rw [List.length_dropLast]; omega
    have hne2 : l.dropLast ≠ [] := fun e => by rw [e] at hlen; simp at hlen
    have hx := dig_iff.1 (hd _ (List.getLast_mem hne))
    have hhead : l.head? = l.dropLast.head? := by
      conv => lhs; rw [← hsp]
      cases h : l.dropLast with
      | nil => exact absurd h hne2
      | cons a t => rfl
    have h48 : l.dropLast.head? ≠ some 48 := fun e => by have := hz (hhead.trans e); omega
    have hi := ih l.dropLast hlen (fun b hb => hd b ((List.dropLast_sublist l).subset hb)) fun e => absurd e h48
    have hpos : 1 ≤ valF 0 l.dropLast := by
      rcases Nat.lt_or_ge 0 (valF 0 l.dropLast) with g | g
      · exact g
      · have h0 : valF 0 l.dropLast = 0 := by omega
        rw [h0, Lib.decDigits_one (by decide)] at hi
        rw [← hi] at h48
        exact absurd rfl h48
    have hv : valF 0 l = valF 0 l.dropLast * 10 + ((l.getLast hne).toNat - 48) := by
      conv => lhs; rw [← hsp]
      exact valF_snoc _ _ _
    rw [hv, decDigits_step (by omega)]
    have h1 : (valF 0 l.dropLast * 10 + ((l.getLast hne).toNat - 48)) / 10 = valF 0 l.dropLast := by omega
    have h2 : (valF 0 l.dropLast * 10 + ((l.getLast hne).toNat - 48)) % 10 = (l.getLast hne).toNat - 48 := by omega
    rw [h1, h2, hi]
    conv => rhs; rw [← hsp]
    congr 1
    congr 1
    apply UInt8.toNat_inj.1
    rw [toNat_digit (by omega)]
    omega
theorem readT_canon {w : ByteArray} {n : Int} (h : readT w = n) (h0 : 0 ≤ n) : w = intT n := by
  unfold readT readL at h
  split at h
  · rename_i hc
    obtain ⟨⟨g1, g2⟩, g3, g4⟩ := hc
    subst h
    apply chars_inj
    rw [chars_intT _ h0]
    have : ((valF 0 (chars w) : Int)).toNat = valF 0 (chars w) := by omega
    rw [this]
    refine (decDigits_val ((chars w).length - 1) (chars w) (by omega) (List.all_eq_true.1 g4) fun e => ?_).symm
    rcases Nat.lt_or_ge 1 (chars w).length with g | g
    · exact absurd ⟨e, g⟩ g3
    · omega
  · omega

/-! ### numbers with a byte between them -/
def numsJ (c : UInt8) (ns : List Int) : ByteArray := ⟨(joinL c (ns.map fun n => chars (intT n))).toArray⟩
def fewI (ns : List Int) : Prop := ∀ n ∈ ns, 0 ≤ n ∧ n < 1000000000000000000
theorem chars_numsJ (c : UInt8) (ns : List Int) : chars (numsJ c ns) = joinL c (ns.map fun n => chars (intT n)) := chars_mk _
theorem atoi_int' {n : Int} (h0 : 0 ≤ n) (h1 : n < 1000000000000000000) : Lib.atoiAll (chars (intT n)) = .ok n := by
  rw [chars_intT n h0, atoi_dec (by omega)]
  congr 1
  omega
/-- The numbers of a text whose fields are numerals. -/
theorem numsT_of' {s : ByteArray} (hs : ∀ b ∈ chars s, b.toNat < 128) {ns : List Int} (hn : fewI ns) (h : flds none (chars s) = ns.map fun n => chars (intT n)) : numsT s = ns := by
  unfold numsT
  have hf := fields_ascii s hs
  rw [h] at hf
  have key : ∀ (ws : List ByteArray) (ns : List Int) (acc : List Int), fewI ns → ws.map chars = ns.map (fun n => chars (intT n)) → numsG ws acc = acc ++ ns := by
    intro ws
    induction ws with
    | nil =>
      intro ns acc _ e
      cases ns with
      | nil => simp [numsG]
      | cons _ _ => simp at e
    | cons w ws ih =>
      intro ns acc hn e
      cases ns with
      | nil => simp at e
      | cons n ns =>
        rw [List.map_cons, List.map_cons, List.cons.injEq] at e
        have hr := hn n (by simp)
        simp only [numsG]
        rw [e.1, atoi_int' hr.1 hr.2]
        simp only
        rw [ih ns (acc ++ [n]) (fun m hm => hn m (by simp [hm])) e.2]
        simp
  simpa using key _ ns [] hn hf
theorem numsT_J {c : UInt8} {ns : List Int} (hc : dig c = false) (hb : c.toNat < 128) (h : fewI ns) : numsT (numsJ c ns) = ns := by
  have hw : ∀ w ∈ ns.map (fun n => chars (intT n)), w ≠ [] ∧ ∀ b ∈ w, dig b = true := by
    intro w hw
    obtain ⟨n, hn, rfl⟩ := List.mem_map.1 hw
    exact dig_int (h n hn).1
  refine numsT_of' (fun b hb' => ?_) h ?_
  · rw [chars_numsJ] at hb'
    rcases mem_joinL hb' with rfl | ⟨w, hw', hb'⟩
    · exact hb
    · exact dig_lt ((hw w hw').2 b hb')
  · rw [chars_numsJ]
    exact flds_joinL hc _ hw
theorem splitT_J {c : UInt8} {ns : List Int} (hc : dig c = false) (hne : ns ≠ []) (h : fewI ns) : splitT c (numsJ c ns) = ns.map intT := by
  unfold splitT
  rw [chars_numsJ, splitL_joinL _ (by simpa using hne)]
  · rw [List.map_map]
    refine List.map_congr_left fun n _ => ?_
    exact mk_chars _
  · intro w hw
    obtain ⟨n, hn, rfl⟩ := List.mem_map.1 hw
    exact not_dig (dig_int (h n hn).1).2 hc
/-- A way to read numerals back. -/
structure Reads (rd : ByteArray → Int) (few : Int) : Prop where
  le : few ≤ 1000000000000000000
  of : ∀ n, 0 ≤ n → n < few → rd (intT n) = n
  canon : ∀ w, 0 ≤ rd w → w = intT (rd w)
theorem reads_T : Reads readT 1000000 := ⟨by decide, fun _ h0 h1 => readT_int h0 h1, fun _ h => readT_canon rfl h⟩
section
variable {rd : ByteArray → Int} {few : Int} (hr : Reads rd few) {c : UInt8} (hc : dig c = false) (hb : c.toNat < 128)
include hr hc
theorem readT_J {ns : List Int} (hne : ns ≠ []) (h : ∀ n ∈ ns, 0 ≤ n ∧ n < few) : (splitT c (numsJ c ns)).map rd = ns := by
  rw [splitT_J hc hne (fun n hn => ⟨(h n hn).1, Int.lt_of_lt_of_le (h n hn).2 hr.le⟩), List.map_map]
  have : ns.map (rd ∘ intT) = ns.map id := List.map_congr_left fun n hn => hr.of n (h n hn).1 (h n hn).2
  rw [this, List.map_id]
omit hc in
theorem split_read {s : ByteArray} (h : ∀ n ∈ (splitT c s).map rd, 0 ≤ n) : numsJ c ((splitT c s).map rd) = s := by
  apply chars_inj
  rw [chars_numsJ, List.map_map]
  have e : (splitT c s).map ((fun n => chars (intT n)) ∘ rd) = (splitT c s).map chars := List.map_congr_left fun w hw => by
    have := hr.canon w (h _ (List.mem_map_of_mem hw))
    exact congrArg chars this.symm
  rw [e]
  have e2 : (splitT c s).map chars = splitL c (chars s) := by
    unfold splitT
    rw [List.map_map]
    have : ((chars ∘ fun l : List UInt8 => (⟨l.toArray⟩ : ByteArray))) = id := funext fun l => chars_mk l
    rw [this, List.map_id]
  rw [e2, joinL_splitL]
end
/-- Numbers read out of a text: all numbers in it, which are written so; the numbers between the bytes. -/
def parseI (c : UInt8) (k : Nat) (good : List Int → Bool) (s : ByteArray) : Option (List Int) :=
  if (numsT s).length = k ∧ good (numsT s) = true ∧ numsJ c (numsT s) = s then some (numsT s) else none
def parseS (rd : ByteArray → Int) (c : UInt8) (k : Nat) (good : List Int → Bool) (s : ByteArray) : Option (List Int) :=
  if (splitT c s).length = k ∧ good ((splitT c s).map rd) = true then some ((splitT c s).map rd) else none
section
variable {rd : ByteArray → Int} {few : Int} (hr : Reads rd few) {c : UInt8} (hc : dig c = false) (hb : c.toNat < 128) {k : Nat} {good : List Int → Bool} (hg : ∀ ns, good ns = true → ∀ n ∈ ns, 0 ≤ n ∧ n < few)
include hr hc hg
include hb in
theorem parseI_J {ns : List Int} (h : good ns = true) (hk : ns.length = k) : parseI c k good (numsJ c ns) = some ns := by
  unfold parseI
  rw [numsT_J hc hb fun n hn => ⟨(hg ns h n hn).1, Int.lt_of_lt_of_le (hg ns h n hn).2 hr.le⟩, if_pos ⟨hk, h, rfl⟩]
theorem parseS_J (hk0 : 0 < k) {ns : List Int} (h : good ns = true) (hk : ns.length = k) : parseS rd c k good (numsJ c ns) = some ns := by
  have hne : ns ≠ [] := fun e => by rw [e] at hk; simp at hk; omega
  unfold parseS
  rw [readT_J hr hc hne (hg ns h), if_pos]
  refine ⟨?_, h⟩
  have := congrArg List.length (readT_J hr hc hne (hg ns h))
  rw [List.length_map] at this
  exact this.trans hk
include hb in
theorem parse_eq (hk0 : 0 < k) (s : ByteArray) : parseI c k good s = parseS rd c k good s := by
  by_cases h : (numsT s).length = k ∧ good (numsT s) = true ∧ numsJ c (numsT s) = s
  · obtain ⟨h1, h2, h3⟩ := h
    have a := parseI_J hr hc hb hg h2 h1
    have b := parseS_J hr hc hg hk0 h2 h1
    rw [h3] at a b
    rw [a, b]
  · by_cases h' : (splitT c s).length = k ∧ good ((splitT c s).map rd) = true
    · obtain ⟨h1, h2⟩ := h'
      have hl : ((splitT c s).map rd).length = k := by rw [List.length_map]; exact h1
      have a := parseI_J hr hc hb hg h2 hl
      have b := parseS_J hr hc hg hk0 h2 hl
      have h3 := split_read hr (c := c) (s := s) fun n hn => (hg _ h2 n hn).1
      rw [h3] at a b
      rw [a, b]
    · rw [parseI, parseS, if_neg h, if_neg h']
end
theorem parse_some {c : UInt8} {k : Nat} {good : List Int → Bool} {s : ByteArray} {ns : List Int} (h : parseI c k good s = some ns) : ns.length = k ∧ good ns = true ∧ numsJ c ns = s := by
  unfold parseI at h
  split at h
  · rename_i hc
    cases h
    exact hc
  · cases h
end Go.Proofs.YtdgenchlghojlaaDoor
/-
  Draws: what the cursor gives.
-/
namespace Go.Proofs.YtdgenchlghojlaaDoor
open Go Go.V
set_option linter.unusedSimpArgs false

structure Cur where
  code : List Int
  at_ : Nat
  seed : Int
abbrev bytesD (l : List Int) : D := .arr 1 (l.map U)
abbrev curD (c : Cur) : D := .agg [bytesD c.code, I c.at_, .v (.int .u64 c.seed)]
structure Cur.ok (c : Cur) (B : Nat) : Prop where
  by_ : ∀ n ∈ c.code, 0 ≤ n ∧ n ≤ 255
  len : c.code.length ≤ 1048576
  at_ : c.at_ ≤ B
  lo : 0 ≤ c.seed
  hi : c.seed < 18446744073709551616

theorem convD_i64 {k : IntKind} {n : Int} : convD (some .i64) false (.v (.int k n)) = some (I (IntKind.i64.wrap n)) := rfl
theorem convD_u64 {k : IntKind} {n : Int} : convD (some .u64) false (.v (.int k n)) = some (.v (.int .u64 (IntKind.u64.wrap n))) := rfl
theorem bin_shr40 {n : Int} {bl : Bool} {eq : List Nat} : bin .shr bl eq (.v (.int .u64 n)) (.v (.int .u64 40)) = some (.v (.int .u64 (n.fdiv 1099511627776))) := by
  simp [bin, IntKind.bits]
theorem bin_and {a b : Int} {bl : Bool} {eq : List Nat} : bin .and bl eq (.v (.int .u64 a)) (.v (.int .u64 b)) = some (.v (.int .u64 (bits .and .u64 a b))) := by simp [bin, intBin]
theorem and255 {n : Int} (h0 : 0 ≤ n) (h1 : n < 18446744073709551616) : 0 ≤ bits .and .u64 n 255 ∧ bits .and .u64 n 255 ≤ 255 := by
  obtain ⟨m, rfl⟩ := Int.eq_ofNat_of_zero_le h0
  have := bits_and_u64_nat m 255 (by omega) (by omega)
  rw [show ((255 : Int)) = ((255 : Nat) : Int) from rfl, this]
  have h2 : m &&& 255 ≤ 255 := Nat.and_le_right
  omega
theorem wrap64 (n : Int) : 0 ≤ IntKind.u64.wrap n ∧ IntKind.u64.wrap n < 18446744073709551616 := by
  rw [IntKind.wrap_u64]
  omega

def seedOf (s n : Int) : Int := IntKind.u64.wrap (IntKind.u64.wrap (IntKind.u64.wrap (s * 6364136223846793005) + IntKind.u64.wrap n) + 1442695040888963407)
def topOf (s : Int) : Int := bits .and .u64 (s.fdiv 1099511627776) 255
theorem seedOf_in (s n : Int) : 0 ≤ seedOf s n ∧ seedOf s n < 18446744073709551616 := wrap64 _
theorem topOf_in {s : Int} (h0 : 0 ≤ s) (h1 : s < 18446744073709551616) : 0 ≤ topOf s ∧ topOf s ≤ 255 := by
  unfold topOf
  rw [Int.fdiv_eq_ediv_of_nonneg _ (by omega)]
  exact and255 (by omega) (by omega)
theorem seed_run {s n : Int} : ((bin BinOp.mul false [] (.v (.int .u64 s)) (.v (.int .u64 6364136223846793005))).bind fun x => (bin BinOp.add false [] x (.v (.int .u64 (IntKind.u64.wrap n)))).bind fun y => bin BinOp.add false [] y (.v (.int .u64 1442695040888963407))) = some (.v (.int .u64 (seedOf s n))) := by
  simp only [bin_mul, bin_add, Option.bind_some, seedOf]
theorem next1 (c : Cur) (B : Nat) (h : c.ok B) (hB : B ≤ 1000000000000) (hc : c.at_ < c.code.length) : F_spec_l1Cur_next [curD c] = some (.ret [I c.code[c.at_]] [curD ⟨c.code, c.at_ + 1, seedOf c.seed c.code[c.at_]⟩]) := by
  have hl := h.len
  have ha := h.at_
  have hw : IntKind.i64.wrap ((c.at_ : Int) + 1) = (c.at_ : Int) + 1 := wrap_id (by omega) (by omega)
  have hn := h.by_ c.code[c.at_] (List.getElem_mem hc)
  have hv : IntKind.i64.wrap c.code[c.at_] = c.code[c.at_] := wrap_id (by omega) (by omega)
  have hle : (c.at_ : Int) + 1 ≤ (c.code.length : Int) := by omega
  rw [t_spec_l1Cur_next]
  simp -implicitDefEqProofs [hc, hw, hv, hle, convD_i64, convD_u64, seedOf]
theorem next2 (c : Cur) (B : Nat) (h : c.ok B) (hB : B ≤ 1000000000000) (hc : ¬ c.at_ < c.code.length) : F_spec_l1Cur_next [curD c] = some (.ret [I (topOf (seedOf c.seed 0))] [curD ⟨c.code, c.at_ + 1, seedOf c.seed 0⟩]) := by
  have hl := h.len
  have ha := h.at_
  have hw : IntKind.i64.wrap ((c.at_ : Int) + 1) = (c.at_ : Int) + 1 := wrap_id (by omega) (by omega)
  have hle : ¬ (c.at_ : Int) + 1 ≤ (c.code.length : Int) := by omega
  have hq := topOf_in (seedOf_in c.seed 0).1 (seedOf_in c.seed 0).2
  have hv : IntKind.i64.wrap (topOf (seedOf c.seed 0)) = topOf (seedOf c.seed 0) := wrap_id (by omega) (by omega)
  unfold topOf seedOf at hv
  rw [t_spec_l1Cur_next]
  simp -implicitDefEqProofs [hc, hw, hle, convD_i64, convD_u64, bin_shr40, bin_and, hv, seedOf, topOf]
theorem d_next (c : Cur) (B : Nat) (h : c.ok B) (hB : B ≤ 1000000000000) : ∃ v c', F_spec_l1Cur_next [curD c] = some (.ret [I v] [curD c']) ∧ 0 ≤ v ∧ v ≤ 255 ∧ c'.ok (B + 1) := by
  have ha := h.at_
  by_cases hc : c.at_ < c.code.length
  · have hn := h.by_ c.code[c.at_] (List.getElem_mem hc)
    exact ⟨_, _, next1 c B h hB hc, hn.1, hn.2, ⟨h.by_, h.len, Nat.succ_le_succ ha, (seedOf_in _ _).1, (seedOf_in _ _).2⟩⟩
  · have hq := topOf_in (seedOf_in c.seed 0).1 (seedOf_in c.seed 0).2
    exact ⟨_, _, next2 c B h hB hc, hq.1, hq.2, ⟨h.by_, h.len, Nat.succ_le_succ ha, (seedOf_in _ _).1, (seedOf_in _ _).2⟩⟩

theorem d_pick (c : Cur) (n : Int) (B : Nat) (h : c.ok B) (hB : B ≤ 100000000000) (hn : n ≤ 1000000000) : ∃ v c', F_spec_l1Cur_pick [curD c, I n] = some (.ret [I v] [curD c']) ∧ 0 ≤ v ∧ (v < n ∨ v = 0) ∧ c'.ok (B + 2) := by
  rw [t_spec_l1Cur_pick]
  by_cases h1 : n ≤ 1
  · exact ⟨0, c, by simp [h1], by omega, .inr rfl, ⟨h.by_, h.len, by have := h.at_; omega, h.lo, h.hi⟩⟩
  obtain ⟨v, c1, e1, l1, u1, k1⟩ := d_next c B h (by omega)
  have hn0 : ¬ n = 0 := by omega
  by_cases h2 : 200 < n
  · obtain ⟨v2, c2, e2, l2, u2, k2⟩ := d_next c1 (B + 1) k1 (by omega)
    have w1 : IntKind.i64.wrap (v * 256) = v * 256 := wrap_id (by omega) (by omega)
    have w2 : IntKind.i64.wrap (v * 256 + v2) = v * 256 + v2 := wrap_id (by omega) (by omega)
    refine ⟨(v * 256 + v2).tmod n, c2, by simp [h1, h2, e1, e2, w1, w2, hn0], Int.tmod_nonneg _ (by omega), .inl (Int.tmod_lt_of_pos _ (by omega)), k2⟩
  · refine ⟨v.tmod n, c1, by simp [h1, h2, e1, hn0], Int.tmod_nonneg _ l1, .inl (Int.tmod_lt_of_pos _ (by omega)), ⟨k1.by_, k1.len, by have := k1.at_; omega, k1.lo, k1.hi⟩⟩
theorem d_one (c : Cur) (n : Int) (B : Nat) (h : c.ok B) (hB : B ≤ 100000000000) (hn : n ≤ 1000000000) : ∃ (b : Bool) (c' : Cur), F_spec_l1Cur_one [curD c, I n] = some (.ret [.v (.bool b)] [curD c']) ∧ c'.ok (B + 2) := by
  rw [t_spec_l1Cur_one]
  obtain ⟨v, c1, e1, l1, u1, k1⟩ := d_pick c n B h hB hn
  exact ⟨_, c1, by simp [e1]; rfl, k1⟩
abbrev intsD (l : List Int) : D := .arr 1 (l.map I)
theorem d_among (c : Cur) (l : List Int) (B : Nat) (h : c.ok B) (hB : B ≤ 100000000000) (hl : l ≠ []) (hn : l.length ≤ 1000000000) : ∃ v c', F_spec_l1Cur_among [curD c, intsD l] = some (.ret [I v] [curD c']) ∧ v ∈ l ∧ c'.ok (B + 2) := by
  rw [t_spec_l1Cur_among]
  have hp : 0 < l.length := List.length_pos_iff.2 hl
  obtain ⟨v, c1, e1, l1, u1, k1⟩ := d_pick c l.length B h hB (by omega)
  obtain ⟨i, rfl⟩ := Int.eq_ofNat_of_zero_le l1
  have hi : i < l.length := by omega
  exact ⟨l[i], c1, by simp [e1, hi], List.getElem_mem hi, k1⟩

theorem Cur.ok.mono {c : Cur} {B C : Nat} (h : c.ok B) (hBC : B ≤ C) : c.ok C := ⟨h.by_, h.len, Nat.le_trans h.at_ hBC, h.lo, h.hi⟩
theorem mkInts {l : List Int} : mkArr 1 (l.map I) = some (intsD l) := by
  have : lenOkD 1 (l.map I).length (l.map I) = true := by
    unfold lenOkD
    simp
  simp only [mkArr, this, if_true]
theorem e_laws_big (a b : List Int) : ∃ p : Bool, F_laws_big [bytesD a, bytesD b] = some (.ret [B p] []) ∧ (p = false → a.length ≤ 1048576 ∧ b.length ≤ 1048576) := by
  rw [t_laws_big]
  by_cases h1 : 1048576 < (a.length : Int)
  · exact ⟨true, by simp [h1], fun h => by cases h⟩
  have hw : IntKind.i64.wrap (1048576 - (a.length : Int)) = 1048576 - (a.length : Int) := wrap_id (by omega) (by omega)
  by_cases h2 : 1048576 - (a.length : Int) < (b.length : Int)
  · exact ⟨true, by simp [h1, h2, hw], fun h => by cases h⟩
  · exact ⟨false, by simp [h1, h2, hw], fun _ => by omega⟩

theorem bldCur (l : List Int) : bldD [(0, 1)] [D.arr 1 [], I 0, D.v (.int .u64 0)] [bytesD l] = some (.agg [bytesD l, I 0, D.v (.int .u64 0)]) := by
  simp [bldD, fillD]
structure Bytes (l : List Int) : Prop where
  by_ : ∀ n ∈ l, 0 ≤ n ∧ n ≤ 255
  len : l.length ≤ 1048576
theorem cur0 {l : List Int} (h : Bytes l) : Cur.ok ⟨l, 0, 0⟩ 0 := ⟨h.by_, h.len, Nat.le_refl _, Int.le_refl 0, show (0 : Int) < 18446744073709551616 by decide⟩

abbrev curZ (l : List Int) : D := .agg [bytesD l, I 0, .v (.int .u64 0)]
theorem d_pick0 (l : List Int) (h : Bytes l) (n : Int) (hn : n ≤ 1000000000) : ∃ (v : Int) (c' : Cur), F_spec_l1Cur_pick [curZ l, I n] = some (.ret [I v] [curD c']) ∧ 0 ≤ v ∧ (v < n ∨ v = 0) ∧ c'.ok 2 := d_pick ⟨l, 0, 0⟩ n 0 (cur0 h) (by omega) hn
abbrev txs (l : List ByteArray) : D := .arr 1 (l.map T)
theorem mkTxs {l : List ByteArray} : mkArr 1 (l.map T) = some (txs l) := by
  have : lenOkD 1 (l.map T).length (l.map T) = true := by
    unfold lenOkD
    simp
  simp only [mkArr, this, if_true]
theorem d_of (c : Cur) (l : List ByteArray) (B : Nat) (h : c.ok B) (hB : B ≤ 100000000000) (hl : l ≠ []) (hn : l.length ≤ 1000000000) : ∃ v c', F_spec_l1Cur_of [curD c, txs l] = some (.ret [T v] [curD c']) ∧ v ∈ l ∧ c'.ok (B + 2) := by
  rw [t_spec_l1Cur_of]
  have hp : 0 < l.length := List.length_pos_iff.2 hl
  obtain ⟨v, c1, e1, l1, u1, k1⟩ := d_pick c l.length B h hB (by omega)
  obtain ⟨i, rfl⟩ := Int.eq_ofNat_of_zero_le l1
  have hi : i < l.length := by omega
  exact ⟨l[i], c1, by simp [e1, hi], List.getElem_mem hi, k1⟩

theorem char_at {w : ByteArray} {i : Nat} (h : i < w.size) : ∃ b : UInt8, charD (T w) (I (i : Int)) = some (U (b.toNat : Int)) := by
  have h' : i < (chars w).length := h
  refine ⟨(chars w)[i]'h', ?_⟩
  rw [charD_nat, List.getElem?_eq_getElem h']
  rfl
theorem str_byte (b : UInt8) : strD (.arr 1 [U (b.toNat : Int)]) = some (T ⟨#[b]⟩) := by
  have : bytesOf [U (b.toNat : Int)] = some [b] := by simp [bytesOf]
  simp only [strD, this, Option.map_some]
theorem mkU (n : Int) : mkArr 1 [U n] = some (.arr 1 [U n]) := by simp [mkArr, lenOkD]
theorem add_small {a b : ByteArray} (h : a.size + b.size ≤ 100000000) : bin .add false [] (T a) (T b) = some (T (a ++ b)) := by
  rw [bin_addS, if_pos (by omega)]
theorem size_ext (s : ByteArray) (i j : Nat) : (s.extract i j).size = min j s.size - i := by rw [ByteArray.size_extract]
theorem d_spoilt (c : Cur) (s w : ByteArray) (B : Nat) (h : c.ok B) (hB : B ≤ 1000000000) (hs : s.size ≤ 100000) (hw : 0 < w.size ∧ w.size ≤ 100) :
    ∃ (t : ByteArray) (c' : Cur), F_spec_l1Cur_spoilt [curD c, T s, T w] = some (.ret [T t] [curD c']) ∧ t.size ≤ s.size + 2 ∧ c'.ok (B + 20) := by
  obtain ⟨v, c1, e1, l1, u1, k1⟩ := d_pick c 2 B h (by omega) (by omega)
  obtain ⟨v, rfl⟩ := Int.eq_ofNat_of_zero_le l1
  have hw1 : IntKind.i64.wrap (1 + (v : Int)) = ((1 + v : Nat) : Int) := by rw [wrap_id (by omega) (by omega)]; omega
  rw [t_spec_l1Cur_spoilt]
  simp -implicitDefEqProofs only [liveD_agg, Option.bind_some, ref0_eq, e1, callK_ret, sl_zero, bin_add, hw1]
  refine loop_wf_bind (fun X => ∃ t c', X = some (.ret [T t] [curD c']) ∧ t.size ≤ s.size + 2 ∧ c'.ok (B + 20)) (fun a : Cur × ByteArray × Nat => [curD a.1, T a.2.1, T w, I (a.2.2 : Int)])
    (fun a => a.1.ok (B + 2 + 6 * (2 - a.2.2)) ∧ a.2.2 ≤ 2 ∧ a.2.1.size + a.2.2 ≤ s.size + 2) (fun a => a.2.2) (fun o => ∃ t c', o = .ext 0 [curD c', T t] ∧ t.size ≤ s.size + 2 ∧ c'.ok (B + 20)) ?_ (c1, s, 1 + v) ⟨k1.mono (by simp only; omega), by simp only; omega, by simp only; omega⟩ rfl ?_
  · rintro ⟨ca, t, n⟩ ⟨h1, h2, h3⟩
    simp only at h1 h2 h3
    by_cases hn : 0 < n
    case neg =>
      have hn' : ¬ (0 : Int) < (n : Int) := by omega
      refine .inr ⟨_, ?_, rfl, t, ca, rfl, by omega, h1.mono (by omega)⟩
      simp -implicitDefEqProofs only [sl_zero, sl_succ, bin_gtr, hn', decide_false, Option.bind_some, gate_t, gate_s, Bool.false_eq_true, if_false, pickD_B, ifD_B]
    have hn' : (0 : Int) < (n : Int) := by omega
    by_cases ht : 0 < t.size
    case neg =>
      have ht' : ¬ (0 : Int) < (t.size : Int) := by omega
      refine .inr ⟨_, ?_, rfl, t, ca, rfl, by omega, h1.mono (by omega)⟩
      simp -implicitDefEqProofs only [sl_zero, sl_succ, bin_gtr, hn', ht', decide_true, decide_false, lenD_str, Option.bind_some, gate_t, gate_s, Bool.false_eq_true, if_false, if_true, pickD_B, ifD_B]
    have ht' : (0 : Int) < (t.size : Int) := by omega
    obtain ⟨i, c2, e2, l2, u2, k2⟩ := d_pick ca (t.size : Int) _ h1 (by omega) (by omega)
    obtain ⟨i, rfl⟩ := Int.eq_ofNat_of_zero_le l2
    obtain ⟨j, c3, e3, l3, u3, k3⟩ := d_pick c2 (w.size : Int) _ k2 (by omega) (by omega)
    obtain ⟨j, rfl⟩ := Int.eq_ofNat_of_zero_le l3
    obtain ⟨b, hb⟩ := char_at (w := w) (i := j) (by omega)
    obtain ⟨k, c4, e4, l4, u4, k4⟩ := d_pick c3 3 _ k3 (by omega) (by omega)
    have hwn : IntKind.i64.wrap ((n : Int) - 1) = ((n - 1 : Nat) : Int) := by rw [wrap_id (by omega) (by omega)]; omega
    have hwi : IntKind.i64.wrap ((i : Int) + 1) = ((i + 1 : Nat) : Int) := by rw [wrap_id (by omega) (by omega)]; omega
    have s1 : sliceD true 0 (T t) (I 0) (I (i : Int)) = some (T (t.extract 0 i)) := sliceS (i := 0) (Nat.zero_le _) (by omega)
    have s2 : sliceHi true 0 (T t) (I (i : Int)) = some (T (t.extract i t.size)) := sliceHiS (by omega)
    have s3 : sliceHi true 0 (T t) (I ((i + 1 : Nat) : Int)) = some (T (t.extract (i + 1) t.size)) := sliceHiS (by omega)
    have z1 := size_ext t 0 i
    have z2 := size_ext t i t.size
    have z3 := size_ext t (i + 1) t.size
    have sb : (⟨#[b]⟩ : ByteArray).size = 1 := rfl
    have a1 := add_small (a := t.extract 0 i) (b := ⟨#[b]⟩) (by omega)
    have a2 := add_small (a := t.extract 0 i ++ ⟨#[b]⟩) (b := t.extract i t.size) (by rw [ByteArray.size_append]; omega)
    have a3 := add_small (a := t.extract 0 i ++ ⟨#[b]⟩) (b := t.extract (i + 1) t.size) (by rw [ByteArray.size_append]; omega)
    have a4 := add_small (a := t.extract 0 i) (b := t.extract (i + 1) t.size) (by omega)
    left
    by_cases q0 : k = 0
    · refine ⟨(c4, t.extract 0 i ++ ⟨#[b]⟩ ++ t.extract i t.size, n - 1), ?_, ⟨k4.mono (by simp only; omega), by simp only; omega, by simp only [ByteArray.size_append]; omega⟩, by simp only; omega⟩
      simp -implicitDefEqProofs only [sl_zero, sl_succ, bin_gtr, hn', ht', decide_true, lenD_str, Option.bind_some, gate_t, if_true, pickD_B, ifD_B, liveD_agg, ref0_eq, e2, e3, e4, callK_ret, hb, mkU, str_byte, bin_eql, q0, s1, s2, a1, a2, bin_sub, hwn]
    by_cases q1 : k = 1
    · refine ⟨(c4, t.extract 0 i ++ ⟨#[b]⟩ ++ t.extract (i + 1) t.size, n - 1), ?_, ⟨k4.mono (by simp only; omega), by simp only; omega, by simp only [ByteArray.size_append]; omega⟩, by simp only; omega⟩
      simp -implicitDefEqProofs only [sl_zero, sl_succ, bin_gtr, hn', ht', decide_true, decide_false, Bool.false_eq_true, if_false, lenD_str, Option.bind_some, gate_t, if_true, pickD_B, ifD_B, liveD_agg, ref0_eq, e2, e3, e4, callK_ret, hb, mkU, str_byte, bin_eql, q0, q1, show ¬ (1 : Int) = 0 by decide, s1, s3, a1, a3, bin_sub, bin_add, hwi, hwn]
    · refine ⟨(c4, t.extract 0 i ++ t.extract (i + 1) t.size, n - 1), ?_, ⟨k4.mono (by simp only; omega), by simp only; omega, by simp only [ByteArray.size_append]; omega⟩, by simp only; omega⟩
      simp -implicitDefEqProofs only [sl_zero, sl_succ, bin_gtr, hn', ht', decide_true, decide_false, Bool.false_eq_true, if_false, lenD_str, Option.bind_some, gate_t, if_true, pickD_B, ifD_B, liveD_agg, ref0_eq, e2, e3, e4, callK_ret, hb, mkU, str_byte, bin_eql, q0, q1, s1, s3, a4, bin_sub, bin_add, hwi, hwn]
  · rintro o ⟨t, c', rfl, g1, g2⟩
    refine ⟨t, c', ?_, g1, g2⟩
    simp -implicitDefEqProofs only [outK_ext, Nat.beq_refl, ifN_B, if_true, sl_zero, sl_succ, liveD_agg, Option.bind_some]
end Go.Proofs.YtdgenchlghojlaaDoor
/-
  Layouts: what the functions compute.
-/
namespace Go.Proofs.YtdgenchlghojlaaDoor
open Go Go.V
set_option linter.unusedSimpArgs false

/-! ### numbers in a text -/
theorem lib_join (c : UInt8) : ∀ (ws : List (List UInt8)), Lib.join ws [c] = joinL c ws
  | [] => rfl
  | [a] => by rw [Lib.join_one]; rfl
  | a :: b :: l => by
    have ih := lib_join c (b :: l)
    rw [Lib.join_cons] at ih ⊢
    have hj : joinL c (a :: b :: l) = a ++ c :: joinL c (b :: l) := rfl
    rw [hj, ← ih]
    simp [Lib.joinTail]
theorem joinOf_J (c : UInt8) (ns : List Int) : joinOf (ns.map intT) ⟨#[c]⟩ = numsJ c ns := by
  apply chars_inj
  rw [chars_numsJ, ← lib_join]
  unfold joinOf
  rw [chars_mk, List.map_map]
  rfl
theorem joinL_len {c : UInt8} {m : Nat} : ∀ (ws : List (List UInt8)), (∀ w ∈ ws, w.length ≤ m) → (joinL c ws).length ≤ ws.length * (m + 1)
  | [], _ => by simp [joinL]
  | [a], h => by
    have := h a (by simp)
    show a.length ≤ 1 * (m + 1)
    omega
  | a :: b :: l, h => by
    have ih := joinL_len (c := c) (b :: l) fun w hw => h w (by simp [hw])
    have ha := h a (by simp)
    have hj : joinL c (a :: b :: l) = a ++ c :: joinL c (b :: l) := rfl
    rw [hj, List.length_append, List.length_cons]
    have e : (a :: b :: l).length * (m + 1) = (b :: l).length * (m + 1) + (m + 1) := by rw [List.length_cons, Nat.succ_mul]
    omega
theorem numsJ_size {c : UInt8} {ns : List Int} (h : ∀ n ∈ ns, 0 ≤ n ∧ n < 1000000000000000000) : (numsJ c ns).size ≤ ns.length * 19 := by
  have : (numsJ c ns).size = (joinL c (ns.map fun n => chars (intT n))).length := by rw [size_list, chars_numsJ]
  rw [this]
  have := joinL_len (c := c) (m := 18) (ns.map fun n => chars (intT n)) fun w hw => by
    obtain ⟨n, hn, rfl⟩ := List.mem_map.1 hw
    exact intT_size 17 (h n hn).1 (by have := (h n hn).2; omega)
  rwa [List.length_map] at this
abbrev intsL (l : List Int) : D := .arr 1 (l.map I)
theorem txs_app {l m : List ByteArray} (h : l.length + m.length ≤ 1048577) : appD 1 16 (txs l) (txs m) = some (txs (l ++ m)) := by
  rw [appD_eq, if_pos (by simp only [List.length_map]; omega)]
  simp
theorem e_impl_join (ns : List Int) (c : UInt8) (h : ∀ n ∈ ns, 0 ≤ n ∧ n < 1000000000000000000) (hl : ns.length ≤ 1000000) : F_impl_join [intsL ns, T ⟨#[c]⟩] = some (.ret [T (numsJ c ns)] []) := by
  rw [t_impl_join]
  simp only [mkArr_nil, lenD_arr, List.length_map, Option.bind_some]
  refine loop_bind _ (loop_for ns.length (fun i => [T ⟨#[c]⟩, txs ((ns.take i).map intT), intsL ns, I ns.length, I i]) (.ext 0 [T ⟨#[c]⟩, txs (ns.map intT)]) (fun i hi => ?_) ?_ rfl rfl) ?_
  · have hi' : (i : Int) < (ns.length : Int) := by omega
    have hw : IntKind.i64.wrap ((i : Int) + 1) = ((i + 1 : Nat) : Int) := by rw [wrap_id (by omega) (by omega)]; omega
    have hx := h ns[i] (List.getElem_mem hi)
    have hel : elemD 1 (intsL ns) (I (i : Int)) = some [I ns[i]] := by simp [hi]
    have hit := e_Itoa (n := ns[i]) (by omega) (by omega)
    have hap := txs_app (l := (ns.take i).map intT) (m := [intT ns[i]]) (by simp; omega)
    have htk : (ns.take (i + 1)).map intT = (ns.take i).map intT ++ [intT ns[i]] := by rw [List.take_succ_eq_append_getElem hi, List.map_append]; rfl
    rw [← htk] at hap
    have hck : chkA (.arr 1 [T (intT ns[i])]) = some (txs [intT ns[i]]) := chkA_texts [intT ns[i]]
    show _ = some (Out.nrm [T ⟨#[c]⟩, txs ((ns.take (i + 1)).map intT), intsL ns, I ns.length, I ((i + 1 : Nat) : Int)])
    simp -implicitDefEqProofs only [sl_zero, sl_succ, bin_lss, hi', decide_true, Option.bind_some, ifD_B, if_true, hel, Option.map_some, ldD_ptr, takeD_f, chkV_v, hit, callK_ret, one_text, hck, hap, bin_add, hw]
  · simp
  · have hz := numsJ_size (c := c) h
    have hj : fJoin [txs (ns.map intT), T ⟨#[c]⟩] = some (.ret [T (numsJ c ns)] []) := by
      simp only [fJoin, textsOf_T, Option.bind_some, joinOf_J]
      rw [if_pos ⟨by rw [List.length_map]; omega, by omega⟩]
    simp -implicitDefEqProofs only [outK_ext, Nat.beq_refl, ifN_B, if_true, sl_zero, sl_succ, liveD_arr, liveD_ref, Option.bind_some, hj, callK_ret]
theorem allI_In {a b : Int} : ∀ (l : List Int) (i : Nat), allI (fun _ x => decide (a ≤ x ∧ x ≤ b)) i l = l.all fun x => decide (a ≤ x ∧ x ≤ b)
  | [], _ => rfl
  | x :: l, i => by simp only [allI, allI_In l, List.all_cons]
theorem e_spec_l1All (l : List Int) (a b : Int) (h : l.length ≤ 1048577) : F_spec_l1All [intsL l, I a, I b] = some (.ret [B (l.all fun x => decide (a ≤ x ∧ x ≤ b))] []) := by
  rw [t_spec_l1All]
  simp only [lenD_arr, List.length_map, Option.bind_some]
  refine loop_bind _ (loop_all l (fun i => [I a, I b, intsL l, I l.length, I i]) (fun _ x => decide (a ≤ x ∧ x ≤ b)) (.ret [B false] []) (.ext 0 []) (fun i hi => ?_) ?_ rfl rfl rfl) ?_
  · have hw : IntKind.i64.wrap ((i : Int) + 1) = (i : Int) + 1 := wrap_id (by omega) (by omega)
    by_cases h1 : a ≤ l[i] ∧ l[i] ≤ b <;> simp -implicitDefEqProofs [hi, hw, h1, e_spec_l1In]
  · simp
  · rw [allI_In]
    by_cases hm : (l.all fun x => decide (a ≤ x ∧ x ≤ b)) = true
    · rw [if_pos hm, hm]; rfl
    · rw [if_neg hm]
      rw [Bool.not_eq_true] at hm
      rw [hm]
      rfl

/-! ### layouts -/
abbrev Mg := Int × Int × Int × Int
abbrev mg (m : Mg) : D := .agg [I m.1, I m.2.1, I m.2.2.1, I m.2.2.2]
def goodM (m : Mg) : Bool := decide (0 ≤ m.1 ∧ m.1 ≤ 300) && decide (0 ≤ m.2.1 ∧ m.2.1 ≤ 300) && decide (0 ≤ m.2.2.1 ∧ m.2.2.1 ≤ 300) && decide (0 ≤ m.2.2.2 ∧ m.2.2.2 ≤ 300)
theorem goodM_iff {m : Mg} : goodM m = true ↔ (0 ≤ m.1 ∧ m.1 ≤ 300) ∧ (0 ≤ m.2.1 ∧ m.2.1 ≤ 300) ∧ (0 ≤ m.2.2.1 ∧ m.2.2.1 ≤ 300) ∧ (0 ≤ m.2.2.2 ∧ m.2.2.2 ≤ 300) := by
  simp only [goodM, Bool.and_eq_true, decide_eq_true_eq, and_assoc]
def pageB (n : Int) : Bool := decide (60 ≤ n ∧ n ≤ 2000)
def layB (w h : Int) (m : Mg) : Bool := pageB w && pageB h && goodM m && decide (30 ≤ w - m.2.1 - m.2.2.1) && decide (30 ≤ h - m.1 - m.2.2.2)
theorem layB_iff {w h : Int} {m : Mg} : layB w h m = true ↔ (60 ≤ w ∧ w ≤ 2000) ∧ (60 ≤ h ∧ h ≤ 2000) ∧ goodM m = true ∧ 30 ≤ w - m.2.1 - m.2.2.1 ∧ 30 ≤ h - m.1 - m.2.2.2 := by
  simp only [layB, pageB, Bool.and_eq_true, decide_eq_true_eq, and_assoc]
theorem e_impl_areMargins (m : Mg) : F_impl_areMargins [mg m] = some (.ret [B (goodM m)] []) := by
  rw [t_impl_areMargins]
  by_cases h1 : 0 ≤ m.1 ∧ m.1 ≤ 300 <;> by_cases h2 : 0 ≤ m.2.1 ∧ m.2.1 ≤ 300 <;> by_cases h3 : 0 ≤ m.2.2.1 ∧ m.2.2.1 ≤ 300 <;> simp -implicitDefEqProofs [e_impl_within, goodM, h1, h2, h3]
theorem mk4 (a b c d : Int) : mkArr 1 [I a, I b, I c, I d] = some (intsL [a, b, c, d]) := mkInts (l := [a, b, c, d])
theorem e_spec_mgGood (m : Mg) : F_spec_mgGood [mg m] = some (.ret [B (goodM m)] []) := by
  rw [t_spec_mgGood]
  have hp : F_spec_mgParts [mg m] = some (.ret [intsL [m.1, m.2.1, m.2.2.1, m.2.2.2]] []) := by
    rw [t_spec_mgParts]
    have := mk4 m.1 m.2.1 m.2.2.1 m.2.2.2
    simp -implicitDefEqProofs [this]
  have ha := e_spec_l1All [m.1, m.2.1, m.2.2.1, m.2.2.2] 0 300 (by simp)
  have e : ([m.1, m.2.1, m.2.2.1, m.2.2.2].all fun x => decide (0 ≤ x ∧ x ≤ 300)) = goodM m := by
    simp only [List.all_cons, List.all_nil, Bool.and_true, goodM, Bool.and_assoc]
  rw [e] at ha
  simp -implicitDefEqProofs [hp, ha, -List.map_cons]
theorem e_impl_isPageSize (n : Int) : F_impl_isPageSize [I n] = some (.ret [B (pageB n)] []) := by
  rw [t_impl_isPageSize]
  simp -implicitDefEqProofs [e_impl_within, pageB]
theorem e_spec_mgPage (w h : Int) : F_spec_mgPage [I w, I h] = some (.ret [B (pageB w && pageB h)] []) := by
  rw [t_spec_mgPage]
  by_cases h1 : 60 ≤ w ∧ w ≤ 2000 <;> simp -implicitDefEqProofs [e_spec_l1In, pageB, h1]
theorem lay_wrap {w h : Int} {m : Mg} (h1 : 60 ≤ w ∧ w ≤ 2000) (h2 : 60 ≤ h ∧ h ≤ 2000) (h3 : goodM m = true) : IntKind.i64.wrap (w - m.2.1) = w - m.2.1 ∧ IntKind.i64.wrap (w - m.2.1 - m.2.2.1) = w - m.2.1 - m.2.2.1 ∧ IntKind.i64.wrap (h - m.1) = h - m.1 ∧ IntKind.i64.wrap (h - m.1 - m.2.2.2) = h - m.1 - m.2.2.2 := by
  have := goodM_iff.1 h3
  exact ⟨wrap_id (by omega) (by omega), wrap_id (by omega) (by omega), wrap_id (by omega) (by omega), wrap_id (by omega) (by omega)⟩
theorem e_impl_IsLayout (w h : Int) (m : Mg) : F_impl_IsLayout [I w, I h, mg m] = some (.ret [B (layB w h m)] []) := by
  rw [t_impl_IsLayout]
  by_cases h1 : 60 ≤ w ∧ w ≤ 2000
  case neg => simp -implicitDefEqProofs [e_impl_isPageSize, pageB, layB, h1]
  by_cases h2 : 60 ≤ h ∧ h ≤ 2000
  case neg => simp -implicitDefEqProofs [e_impl_isPageSize, pageB, layB, h1, h2]
  cases h3 : goodM m
  · simp -implicitDefEqProofs [e_impl_isPageSize, e_impl_areMargins, pageB, layB, h1, h2, h3]
  obtain ⟨w1, w2, w3, w4⟩ := lay_wrap h1 h2 h3
  by_cases h4 : 30 ≤ w - m.2.1 - m.2.2.1 <;> simp -implicitDefEqProofs [e_impl_isPageSize, e_impl_areMargins, pageB, layB, h1, h2, h3, w1, w2, w3, w4, h4]
theorem e_spec_mgLayout (w h : Int) (m : Mg) : F_spec_mgLayout [I w, I h, mg m] = some (.ret [B (layB w h m)] []) := by
  rw [t_spec_mgLayout]
  by_cases h1 : 60 ≤ w ∧ w ≤ 2000
  case neg => simp -implicitDefEqProofs [e_spec_mgPage, pageB, layB, h1]
  by_cases h2 : 60 ≤ h ∧ h ≤ 2000
  case neg => simp -implicitDefEqProofs [e_spec_mgPage, pageB, layB, h1, h2]
  cases h3 : goodM m
  · simp -implicitDefEqProofs [e_spec_mgPage, e_spec_mgGood, pageB, layB, h1, h2, h3]
  obtain ⟨w1, w2, w3, w4⟩ := lay_wrap h1 h2 h3
  by_cases h4 : 30 ≤ w - m.2.1 - m.2.2.1 <;> simp -implicitDefEqProofs [e_spec_mgPage, e_spec_mgGood, pageB, layB, h1, h2, h3, w1, w2, w3, w4, h4]
abbrev m0 : Mg := (0, 0, 0, 0)
def ifM (b : Bool) (m : Mg) : Mg := if b = true then m else m0
theorem e_impl_checkedMargins (w h : Int) (m : Mg) : F_impl_checkedMargins [I w, I h, mg m] = some (.ret [mg (ifM (layB w h m) m), B (layB w h m)] []) := by
  rw [t_impl_checkedMargins]
  cases hl : layB w h m <;> simp -implicitDefEqProofs [e_impl_IsLayout, hl, ifM, bldD, fillD]
theorem tpI (n : Int) (ds : List D) : tupAt (.tup (I n :: ds)) 0 = some (I n) := rfl
theorem tpA (l : List D) (ds : List D) : tupAt (.tup (.agg l :: ds)) 0 = some (.agg l) := rfl
theorem tp1 (a : D) (v : Value) (ds : List D) : tupAt (.tup (a :: .v v :: ds)) 1 = some (.v v) := rfl
theorem tp2 (a b : D) (v : Value) (ds : List D) : tupAt (.tup (a :: b :: .v v :: ds)) 2 = some (.v v) := rfl
theorem bld4 (a b c d : Int) : bldD [(0, 1), (1, 1), (2, 1), (3, 1)] [I 0, I 0, I 0, I 0] [I a, I b, I c, I d] = some (mg (a, b, c, d)) := by simp [bldD, fillD]
theorem bld0 : bldD [] [I 0, I 0, I 0, I 0] [] = some (mg m0) := by simp [bldD, fillD]
theorem st4 (m : Mg) : stD 4 (.agg [I 0, I 0, I 0, I 0]) (.ref 0 0) (mg m) = some (mg m) := by simp
theorem fld4 (m : Mg) : fldD true 4 0 (mg m) = some (mg m) := by simp
theorem box4 (m : Mg) : boxD 4 (mg m) = some (mg m) := by simp
/-- Margins that are moved. -/
def shOk (w h : Int) (m : Mg) (dx dy : Int) : Bool := layB w h m && decide (-300 ≤ dx ∧ dx ≤ 300) && decide (-300 ≤ dy ∧ dy ≤ 300)
def shM (m : Mg) (dx dy : Int) : Mg := (m.1 + dy, m.2.1 + dx, m.2.2.1 - dx, m.2.2.2 - dy)
def shB (w h : Int) (m : Mg) (dx dy : Int) : Bool := shOk w h m dx dy && layB w h (shM m dx dy)
def shR (w h : Int) (m : Mg) (dx dy : Int) : Mg := ifM (shB w h m dx dy) (shM m dx dy)
theorem sh_wrap {w h dx dy : Int} {m : Mg} (h1 : layB w h m = true) (h2 : -300 ≤ dx ∧ dx ≤ 300) (h3 : -300 ≤ dy ∧ dy ≤ 300) : IntKind.i64.wrap (m.1 + dy) = m.1 + dy ∧ IntKind.i64.wrap (m.2.1 + dx) = m.2.1 + dx ∧ IntKind.i64.wrap (m.2.2.1 - dx) = m.2.2.1 - dx ∧ IntKind.i64.wrap (m.2.2.2 - dy) = m.2.2.2 - dy := by
  have := goodM_iff.1 (layB_iff.1 h1).2.2.1
  exact ⟨wrap_id (by omega) (by omega), wrap_id (by omega) (by omega), wrap_id (by omega) (by omega), wrap_id (by omega) (by omega)⟩
theorem e_impl_ShiftMargins (w h dx dy : Int) (m : Mg) : F_impl_ShiftMargins [I w, I h, mg m, I dx, I dy] = some (.ret [mg (shR w h m dx dy), B (shB w h m dx dy)] []) := by
  rw [t_impl_ShiftMargins]
  cases h1 : layB w h m
  · simp -implicitDefEqProofs [e_impl_IsLayout, h1, shR, shB, shOk, ifM, bld0]
  by_cases h2 : -300 ≤ dx ∧ dx ≤ 300
  case neg => simp -implicitDefEqProofs [e_impl_IsLayout, e_impl_within, h1, h2, shR, shB, shOk, ifM, bld0]
  by_cases h3 : -300 ≤ dy ∧ dy ≤ 300
  case neg => simp -implicitDefEqProofs [e_impl_IsLayout, e_impl_within, h1, h2, h3, shR, shB, shOk, ifM, bld0]
  obtain ⟨w1, w2, w3, w4⟩ := sh_wrap h1 h2 h3
  have hc := e_impl_checkedMargins w h (shM m dx dy)
  have ho : shOk w h m dx dy = true := by simp only [shOk, h1, h2, h3, and_self, decide_true, Bool.and_self]
  have e : shB w h m dx dy = layB w h (shM m dx dy) := by rw [shB, ho, Bool.true_and]
  have e2 : shR w h m dx dy = ifM (layB w h (shM m dx dy)) (shM m dx dy) := by rw [shR, e]
  rw [e2, e]
  simp -implicitDefEqProofs only [box4, fld4, Option.bind_some, e_impl_IsLayout, h1, callK_ret, sl_zero, un_not, Bool.not_true, gate_f, Bool.false_eq_true, if_false, gateC_f, e_impl_within, h2, h3, and_self, decide_true, nrmK_some, pickD_B, ifD_B, liveD_agg, atD_agg, List.drop_zero, List.drop_succ_cons, takeD_f, bin_add, bin_sub, w1, w2, w3, w4, bld4,
    show mg (m.1 + dy, m.2.1 + dx, m.2.2.1 - dx, m.2.2.2 - dy) = mg (shM m dx dy) from rfl, hc, tpA, tp1, st4]
theorem e_spec_ShiftMargins (w h dx dy : Int) (m : Mg) : F_spec_ShiftMargins [I w, I h, mg m, I dx, I dy] = some (.ret [mg (shR w h m dx dy), B (shB w h m dx dy)] []) := by
  rw [t_spec_ShiftMargins]
  cases h1 : layB w h m
  · simp -implicitDefEqProofs [e_spec_mgLayout, h1, shR, shB, shOk, ifM, bld0]
  by_cases h2 : -300 ≤ dx ∧ dx ≤ 300
  case neg => simp -implicitDefEqProofs [e_spec_mgLayout, e_spec_l1In, h1, h2, shR, shB, shOk, ifM, bld0]
  by_cases h3 : -300 ≤ dy ∧ dy ≤ 300
  case neg => simp -implicitDefEqProofs [e_spec_mgLayout, e_spec_l1In, h1, h2, h3, shR, shB, shOk, ifM, bld0]
  obtain ⟨w1, w2, w3, w4⟩ := sh_wrap h1 h2 h3
  have hc := e_spec_mgLayout w h (shM m dx dy)
  have ho : shOk w h m dx dy = true := by simp only [shOk, h1, h2, h3, and_self, decide_true, Bool.and_self]
  have e : shB w h m dx dy = layB w h (shM m dx dy) := by rw [shB, ho, Bool.true_and]
  have e2 : shR w h m dx dy = ifM (layB w h (shM m dx dy)) (shM m dx dy) := by rw [shR, e]
  rw [e2, e]
  simp -implicitDefEqProofs only [box4, fld4, Option.bind_some, e_spec_mgLayout, h1, callK_ret, sl_zero, un_not, Bool.not_true, gate_f, Bool.false_eq_true, if_false, gateC_f, e_spec_l1In, h2, h3, and_self, decide_true, nrmK_some, pickD_B, ifD_B, liveD_agg, atD_agg, List.drop_zero, List.drop_succ_cons, takeD_f, bin_add, bin_sub, w1, w2, w3, w4, bld4,
    show mg (m.1 + dy, m.2.1 + dx, m.2.2.1 - dx, m.2.2.2 - dy) = mg (shM m dx dy) from rfl, hc, st4]
  cases layB w h (shM m dx dy) <;> simp -implicitDefEqProofs [ifM, bld0]
def areaW (w : Int) (m : Mg) : Int := w - m.2.1 - m.2.2.1
def areaH (h : Int) (m : Mg) : Int := h - m.1 - m.2.2.2
def ifN0 (b : Bool) (n : Int) : Int := if b = true then n else 0
theorem e_impl_TypeArea (w h : Int) (m : Mg) : F_impl_TypeArea [I w, I h, mg m] = some (.ret [I (ifN0 (layB w h m) (areaW w m)), I (ifN0 (layB w h m) (areaH h m)), B (layB w h m)] []) := by
  rw [t_impl_TypeArea]
  cases h1 : layB w h m
  · simp -implicitDefEqProofs [e_impl_IsLayout, h1, ifN0]
  · obtain ⟨g1, g2, g3, _, _⟩ := layB_iff.1 h1
    obtain ⟨w1, w2, w3, w4⟩ := lay_wrap g1 g2 g3
    simp -implicitDefEqProofs [e_impl_IsLayout, h1, ifN0, areaW, areaH, w1, w2, w3, w4]
theorem e_spec_TypeArea (w h : Int) (m : Mg) : F_spec_TypeArea [I w, I h, mg m] = some (.ret [I (ifN0 (layB w h m) (areaW w m)), I (ifN0 (layB w h m) (areaH h m)), B (layB w h m)] []) := by
  rw [t_spec_TypeArea]
  cases h1 : layB w h m
  · simp -implicitDefEqProofs [e_spec_mgLayout, h1, ifN0]
  · obtain ⟨g1, g2, g3, _, _⟩ := layB_iff.1 h1
    obtain ⟨w1, w2, w3, w4⟩ := lay_wrap g1 g2 g3
    simp -implicitDefEqProofs [e_spec_mgLayout, h1, ifN0, areaW, areaH, w1, w2, w3, w4]
end Go.Proofs.YtdgenchlghojlaaDoor
/-
  Layouts: margins by the rule, places, texts; draws.
-/
namespace Go.Proofs.YtdgenchlghojlaaDoor
open Go Go.V
set_option linter.unusedSimpArgs false

theorem quo_in {t h w : Int} (h1 : 1 ≤ t ∧ t ≤ w) (h2 : 0 ≤ h) : 0 ≤ (t * h).tdiv w ∧ (t * h).tdiv w ≤ h := by
  have hp : 0 ≤ t * h := Int.mul_nonneg (by omega) h2
  rw [Int.tdiv_eq_ediv_of_nonneg hp]
  refine ⟨Int.ediv_nonneg hp (by omega), ?_⟩
  have hle : t * h ≤ w * h := Int.mul_le_mul_of_nonneg_right h1.2 h2
  have h3 := Int.ediv_le_ediv (c := w) (by omega) hle
  rwa [Int.mul_ediv_cancel_left h (by omega)] at h3
theorem three_in {n : Int} (h : 0 ≤ n) : 0 ≤ n.tdiv 3 ∧ 3 * n.tdiv 3 ≤ n := by
  rw [Int.tdiv_eq_ediv_of_nonneg h]
  omega
def ruM (w h t : Int) : Mg := ((h - (t * h).tdiv w).tdiv 3, (w - t).tdiv 3, (w - t) - (w - t).tdiv 3, (h - (t * h).tdiv w) - (h - (t * h).tdiv w).tdiv 3)
def ruOk (w h t : Int) : Bool := pageB w && pageB h && decide (1 ≤ t ∧ t ≤ w)
def ruB (w h t : Int) : Bool := ruOk w h t && layB w h (ruM w h t)
def ruR (w h t : Int) : Mg := ifM (ruB w h t) (ruM w h t)
theorem ru_wraps {w h t : Int} (h1 : 60 ≤ w ∧ w ≤ 2000) (h2 : 60 ≤ h ∧ h ≤ 2000) (h3 : 1 ≤ t ∧ t ≤ w) :
    IntKind.i64.wrap (w - t) = w - t ∧ IntKind.i64.wrap (t * h) = t * h ∧ IntKind.i64.wrap ((t * h).tdiv w) = (t * h).tdiv w ∧ IntKind.i64.wrap (h - (t * h).tdiv w) = h - (t * h).tdiv w ∧
    IntKind.i64.wrap ((h - (t * h).tdiv w).tdiv 3) = (h - (t * h).tdiv w).tdiv 3 ∧ IntKind.i64.wrap ((w - t).tdiv 3) = (w - t).tdiv 3 ∧ IntKind.i64.wrap (w - t - (w - t).tdiv 3) = w - t - (w - t).tdiv 3 ∧
    IntKind.i64.wrap (h - (t * h).tdiv w - (h - (t * h).tdiv w).tdiv 3) = h - (t * h).tdiv w - (h - (t * h).tdiv w).tdiv 3 := by
  have hq := quo_in h3 (show 0 ≤ h by omega)
  have hm : 0 ≤ t * h ∧ t * h ≤ 2000 * 2000 := ⟨Int.mul_nonneg (by omega) (by omega), Int.mul_le_mul (by omega) h2.2 (by omega) (by omega)⟩
  generalize (t * h).tdiv w = q at *
  have a := three_in (n := h - q) (by omega)
  have b := three_in (n := w - t) (by omega)
  refine ⟨wrap_id (by omega) (by omega), wrap_id (by omega) (by omega), wrap_id (by omega) (by omega), wrap_id (by omega) (by omega), wrap_id (by omega) (by omega), wrap_id (by omega) (by omega), wrap_id (by omega) (by omega), wrap_id (by omega) (by omega)⟩
theorem e_impl_MarginsByRule (w h t : Int) : F_impl_MarginsByRule [I w, I h, I t] = some (.ret [mg (ruR w h t), B (ruB w h t)] []) := by
  rw [t_impl_MarginsByRule]
  by_cases h1 : 60 ≤ w ∧ w ≤ 2000
  case neg => simp -implicitDefEqProofs [e_impl_isPageSize, pageB, h1, ruR, ruB, ruOk, ifM, bld0]
  by_cases h2 : 60 ≤ h ∧ h ≤ 2000
  case neg => simp -implicitDefEqProofs [e_impl_isPageSize, pageB, h1, h2, ruR, ruB, ruOk, ifM, bld0]
  by_cases h3 : 1 ≤ t ∧ t ≤ w
  case neg => simp -implicitDefEqProofs [e_impl_isPageSize, e_impl_within, pageB, h1, h2, h3, ruR, ruB, ruOk, ifM, bld0]
  obtain ⟨w1, w2, w3, w4, w5, w6, w7, w8⟩ := ru_wraps h1 h2 h3
  have hw0 : ¬ w = 0 := by omega
  have ho : ruOk w h t = true := by simp only [ruOk, pageB, h1, h2, h3, and_self, decide_true, Bool.and_self]
  have e : ruB w h t = layB w h (ruM w h t) := by rw [ruB, ho, Bool.true_and]
  have e2 : ruR w h t = ifM (layB w h (ruM w h t)) (ruM w h t) := by rw [ruR, e]
  have hc := e_impl_checkedMargins w h (ruM w h t)
  rw [e2, e]
  simp -implicitDefEqProofs only [e_impl_isPageSize, pageB, h1, h2, h3, and_self, decide_true, callK_ret, sl_zero, un_not, Bool.not_true, Option.bind_some, gate_f, Bool.false_eq_true, if_false, gateC_f, nrmK_some, e_impl_within, pickD_B, ifD_B, bin_sub, bin_mul, bin_quo, hw0, show ¬ (3 : Int) = 0 by decide, w1, w2, w3, w4, w5, w6, w7, w8, bld4,
    show mg ((h - (t * h).tdiv w).tdiv 3, (w - t).tdiv 3, w - t - (w - t).tdiv 3, h - (t * h).tdiv w - (h - (t * h).tdiv w).tdiv 3) = mg (ruM w h t) from rfl, hc, tpA, tp1, st4, fld4]
theorem e_spec_MarginsByRule (w h t : Int) : F_spec_MarginsByRule [I w, I h, I t] = some (.ret [mg (ruR w h t), B (ruB w h t)] []) := by
  rw [t_spec_MarginsByRule]
  by_cases h1 : 60 ≤ w ∧ w ≤ 2000
  case neg => simp -implicitDefEqProofs [e_spec_mgPage, pageB, h1, ruR, ruB, ruOk, ifM, bld0]
  by_cases h2 : 60 ≤ h ∧ h ≤ 2000
  case neg => simp -implicitDefEqProofs [e_spec_mgPage, pageB, h1, h2, ruR, ruB, ruOk, ifM, bld0]
  by_cases h3 : 1 ≤ t ∧ t ≤ w
  case neg => simp -implicitDefEqProofs [e_spec_mgPage, e_spec_l1In, pageB, h1, h2, h3, ruR, ruB, ruOk, ifM, bld0]
  obtain ⟨w1, w2, w3, w4, w5, w6, w7, w8⟩ := ru_wraps h1 h2 h3
  have hw0 : ¬ w = 0 := by omega
  have ho : ruOk w h t = true := by simp only [ruOk, pageB, h1, h2, h3, and_self, decide_true, Bool.and_self]
  have e : ruB w h t = layB w h (ruM w h t) := by rw [ruB, ho, Bool.true_and]
  have e2 : ruR w h t = ifM (layB w h (ruM w h t)) (ruM w h t) := by rw [ruR, e]
  have hc := e_spec_mgLayout w h (ruM w h t)
  have b2 : ∀ a b : Int, bldD [(0, 1), (1, 1)] [I 0, I 0, I 0, I 0] [I a, I b] = some (mg (a, b, 0, 0)) := fun a b => by simp [bldD, fillD]
  have s2 : ∀ a b c : Int, stD 1 (mg (a, b, 0, 0)) (.ref 0 2) (I c) = some (mg (a, b, c, 0)) := fun a b c => by simp
  have s3 : ∀ a b c d : Int, stD 1 (mg (a, b, c, 0)) (.ref 0 3) (I d) = some (mg (a, b, c, d)) := fun a b c d => by simp
  rw [e2, e]
  simp -implicitDefEqProofs only [e_spec_mgPage, pageB, h1, h2, h3, and_self, decide_true, Bool.and_self, callK_ret, sl_zero, un_not, Bool.not_true, Option.bind_some, gate_f, Bool.false_eq_true, if_false, gateC_f, nrmK_some, e_spec_l1In, pickD_B, ifD_B, bin_sub, bin_mul, bin_quo, hw0, show ¬ (3 : Int) = 0 by decide, w1, w2, w3, w4, w5, w6, w7, w8, b2, st4, liveD_agg, atD_agg, List.drop_zero, List.drop_succ_cons, takeD_f, s2, s3,
    show mg ((h - (t * h).tdiv w).tdiv 3, (w - t).tdiv 3, w - t - (w - t).tdiv 3, h - (t * h).tdiv w - (h - (t * h).tdiv w).tdiv 3) = mg (ruM w h t) from rfl, hc, fld4]
  cases layB w h (ruM w h t) <;> simp -implicitDefEqProofs [ifM, bld0]
/-! ### the place of the type -/
def plOk (w h : Int) (m : Mg) (p : Int) : Bool := layB w h m && decide (1 ≤ p ∧ p ≤ 9999)
def plX (w h : Int) (m : Mg) (p : Int) : Int := ifN0 (plOk w h m p) (if p.tmod 2 = 1 then m.2.1 else m.2.2.1)
theorem e_impl_PlaceOfType (w h p : Int) (m : Mg) : F_impl_PlaceOfType [I w, I h, mg m, I p] = some (.ret [I (plX w h m p), I (ifN0 (plOk w h m p) m.1), B (plOk w h m p)] []) := by
  rw [t_impl_PlaceOfType]
  cases h1 : layB w h m
  · simp -implicitDefEqProofs [e_impl_IsLayout, h1, plX, plOk, ifN0]
  by_cases h2 : 1 ≤ p ∧ p ≤ 9999
  case neg => simp -implicitDefEqProofs [e_impl_IsLayout, e_impl_within, h1, h2, plX, plOk, ifN0]
  by_cases h3 : p.tmod 2 = 1 <;> simp -implicitDefEqProofs [e_impl_IsLayout, e_impl_within, h1, h2, h3, plX, plOk, ifN0]
theorem e_spec_PlaceOfType (w h p : Int) (m : Mg) : F_spec_PlaceOfType [I w, I h, mg m, I p] = some (.ret [I (plX w h m p), I (ifN0 (plOk w h m p) m.1), B (plOk w h m p)] []) := by
  rw [t_spec_PlaceOfType]
  cases h1 : layB w h m
  · simp -implicitDefEqProofs [e_spec_mgLayout, h1, plX, plOk, ifN0]
  by_cases h2 : 1 ≤ p ∧ p ≤ 9999
  case neg => simp -implicitDefEqProofs [e_spec_mgLayout, e_spec_l1In, h1, h2, plX, plOk, ifN0]
  by_cases h3 : p.tmod 2 = 1 <;> simp -implicitDefEqProofs [e_spec_mgLayout, e_spec_l1In, h1, h2, h3, plX, plOk, ifN0]
/-! ### texts -/
def mgL (m : Mg) : List Int := [m.1, m.2.1, m.2.2.1, m.2.2.2]
theorem mgL_in {m : Mg} (h : goodM m = true) : ∀ n ∈ mgL m, 0 ≤ n ∧ n < 1000000 := by
  have := goodM_iff.1 h
  intro n hn
  simp only [mgL, List.mem_cons, List.not_mem_nil, or_false] at hn
  rcases hn with rfl | rfl | rfl | rfl <;> omega
def mgT (m : Mg) : ByteArray := numsJ 47 (mgL m)
theorem mgT_size {m : Mg} (h : goodM m = true) : (mgT m).size ≤ 100 := by
  have := numsJ_size (c := 47) (ns := mgL m) fun n hn => by have := mgL_in h n hn; omega
  show (numsJ 47 (mgL m)).size ≤ 100
  exact Nat.le_trans this (by simp [mgL])
theorem e_impl_marginsText {m : Mg} (h : goodM m = true) : F_impl_marginsText [mg m] = some (.ret [T (mgT m)] []) := by
  rw [t_impl_marginsText]
  have hj := e_impl_join (mgL m) 47 (fun n hn => by have := mgL_in h n hn; omega) (by simp [mgL])
  have e : (D.v (Value.string { data := { toList := [47] } })) = T ⟨#[47]⟩ := rfl
  simp -implicitDefEqProofs only [box4, Option.bind_some, liveD_agg, atD_agg, List.drop_zero, List.drop_succ_cons, takeD_f, mk4, e, show [m.1, m.2.1, m.2.2.1, m.2.2.2] = mgL m from rfl, hj, callK_ret, sl_zero, mgT]
theorem e_impl_MarginsText (m : Mg) : F_impl_MarginsText [mg m] = some (.ret [T (if goodM m = true then mgT m else ⟨#[]⟩), B (goodM m)] []) := by
  rw [t_impl_MarginsText]
  cases hg : goodM m
  · simp -implicitDefEqProofs [e_impl_areMargins, hg]
  · simp -implicitDefEqProofs [e_impl_areMargins, hg, e_impl_marginsText hg]
theorem joinL_snoc (c : UInt8) (w : List UInt8) : ∀ (ws : List (List UInt8)), ws ≠ [] → joinL c (ws ++ [w]) = joinL c ws ++ c :: w
  | [], h => absurd rfl h
  | [a], _ => rfl
  | a :: b :: l, _ => by
    have ih := joinL_snoc c w (b :: l) (by simp)
    have h1 : joinL c ((a :: b :: l) ++ [w]) = a ++ c :: joinL c ((b :: l) ++ [w]) := rfl
    have h2 : joinL c (a :: b :: l) = a ++ c :: joinL c (b :: l) := rfl
    rw [h1, h2, ih]
    simp
theorem numsJ_one (c : UInt8) (n : Int) : numsJ c [n] = intT n := chars_inj (by rw [chars_numsJ]; rfl)
theorem numsJ_snoc (c : UInt8) (ns : List Int) (n : Int) (h : ns ≠ []) : numsJ c (ns ++ [n]) = numsJ c ns ++ ⟨#[c]⟩ ++ intT n := by
  apply chars_inj
  rw [chars_numsJ, List.map_append, List.map_cons, List.map_nil, joinL_snoc _ _ _ (by simpa using h), chars_append, chars_append, chars_numsJ, show chars ⟨#[c]⟩ = [c] from rfl]
  simp
theorem e_spec_mgText {m : Mg} (h : goodM m = true) : F_spec_mgText [mg m] = some (.ret [T (mgT m)] []) := by
  rw [t_spec_mgText]
  have hp : F_spec_mgParts [mg m] = some (.ret [intsL (mgL m)] []) := by
    rw [t_spec_mgParts]
    have := mk4 m.1 m.2.1 m.2.2.1 m.2.2.2
    simp -implicitDefEqProofs [this, mgL]
  have hin := mgL_in h
  have hl : (mgL m).length = 4 := rfl
  have e : (D.v (Value.string { data := { toList := [47] } })) = T ⟨#[47]⟩ := rfl
  have e0 : (D.v (Value.string { data := { toList := [] } })) = T ⟨#[]⟩ := rfl
  simp -implicitDefEqProofs only [box4, fld4, Option.bind_some, hp, callK_ret, sl_zero, lenD_arr, List.length_map, e, e0]
  unfold mgT
  generalize mgL m = ns at hin hl
  refine loop_bind _ (loop_for ns.length (fun i => [T (numsJ 47 (ns.take i)), intsL ns, I ns.length, I i]) (.ext 0 [T (numsJ 47 ns)]) (fun i hi => ?_) ?_ rfl rfl) ?_
  · have hi' : (i : Int) < (ns.length : Int) := by omega
    have hw : IntKind.i64.wrap ((i : Int) + 1) = ((i + 1 : Nat) : Int) := by rw [wrap_id (by omega) (by omega)]; omega
    have hx := hin ns[i] (List.getElem_mem hi)
    have hel : elemD 1 (intsL ns) (I (i : Int)) = some [I ns[i]] := by simp [hi]
    have hn := e_spec_l1Num (n := ns[i]) (by omega) (by omega)
    have htk : ns.take (i + 1) = ns.take i ++ [ns[i]] := List.take_succ_eq_append_getElem hi
    have z1 := numsJ_size (c := 47) (ns := ns.take i) fun n hn => by have := hin n (List.mem_of_mem_take hn); omega
    have z1' : (ns.take i).length ≤ 4 := by rw [List.length_take]; omega
    have z2 := intT_size 9 (n := ns[i]) (by omega) (by omega)
    show _ = some (Out.nrm [T (numsJ 47 (ns.take (i + 1))), intsL ns, I ns.length, I ((i + 1 : Nat) : Int)])
    by_cases h0 : i = 0
    · subst h0
      have hg : ¬ (0 : Int) < ((0 : Nat) : Int) := by omega
      rw [htk, List.take_zero, List.nil_append, numsJ_one]
      have a1 : bin .add false [] (T (numsJ 47 [])) (T (intT ns[0])) = some (T (intT ns[0])) := by
        rw [addS (by simp only [show (numsJ 47 []).size = 0 from rfl]; omega)]
        congr 2
      simp -implicitDefEqProofs only [sl_zero, sl_succ, bin_lss, hi', decide_true, Option.bind_some, ifD_B, if_true, hel, Option.map_some, ldD_ptr, takeD_f, chkV_v, bin_gtr, hg, decide_false, Bool.false_eq_true, if_false, hn, callK_ret, a1, bin_add, hw]
    · have hg : (0 : Int) < (i : Int) := by omega
      have hne : ns.take i ≠ [] := fun e => by
        have := congrArg List.length e
        rw [List.length_take, List.length_nil] at this
        omega
      rw [htk, numsJ_snoc _ _ _ hne]
      have s1 : (⟨#[47]⟩ : ByteArray).size = 1 := rfl
      have a1 := addS (a := numsJ 47 (ns.take i)) (b := ⟨#[47]⟩) (bl := false) (eq := []) (by omega)
      have a2 := addS (a := numsJ 47 (ns.take i) ++ ⟨#[47]⟩) (b := intT ns[i]) (bl := false) (eq := []) (by rw [ByteArray.size_append]; omega)
      simp -implicitDefEqProofs only [sl_zero, sl_succ, bin_lss, hi', decide_true, Option.bind_some, ifD_B, if_true, hel, Option.map_some, ldD_ptr, takeD_f, chkV_v, bin_gtr, hg, hn, callK_ret, a1, a2, bin_add, hw]
  · simp
  · simp
theorem e_spec_MarginsText (m : Mg) : F_spec_MarginsText [mg m] = some (.ret [T (if goodM m = true then mgT m else ⟨#[]⟩), B (goodM m)] []) := by
  rw [t_spec_MarginsText]
  cases hg : goodM m
  · simp -implicitDefEqProofs [e_spec_mgGood, hg]
  · simp -implicitDefEqProofs [e_spec_mgGood, hg, e_spec_mgText hg]
/-! ### margins read out of texts -/
def okL (ns : List Int) : Bool :=
  match ns with
  | [a, b, c, d] => goodM (a, b, c, d)
  | _ => false
theorem okL_in (ns : List Int) (h : okL ns = true) : ∀ n ∈ ns, 0 ≤ n ∧ n < 1000000 := by
  unfold okL at h
  split at h
  · exact mgL_in h
  · cases h
def mgO (o : Option (List Int)) : Mg :=
  match o with
  | some [a, b, c, d] => (a, b, c, d)
  | _ => m0
abbrev pI (s : ByteArray) : Option (List Int) := parseI 47 4 okL s
theorem pI_eq (s : ByteArray) : parseS readT 47 4 okL s = pI s := (parse_eq reads_T (by decide) (by decide) okL_in (by decide) s).symm
theorem pI_T {m : Mg} (h : goodM m = true) : pI (mgT m) = some (mgL m) := parseI_J reads_T (by decide) (by decide) okL_in (ns := mgL m) h rfl
theorem e_impl_ParseMargins (s : ByteArray) (h : s.size ≤ 1048576) : F_impl_ParseMargins [T s] = some (.ret [mg (mgO (pI s)), B (pI s).isSome] []) := by
  rw [t_impl_ParseMargins, e_impl_numbersIn s h]
  unfold pI parseI
  generalize numsT s = ns
  rcases ns with _ | ⟨a, _ | ⟨b, _ | ⟨c, _ | ⟨d, _ | ⟨e, ns⟩⟩⟩⟩⟩
  · simp -implicitDefEqProofs [mgO, bld0]
  · simp -implicitDefEqProofs [mgO, bld0]
  · simp -implicitDefEqProofs [mgO, bld0]
  · simp -implicitDefEqProofs [mgO, bld0]
  · have e0 : elemD 1 (.arr 1 [I a, I b, I c, I d]) (I 0) = some [I a] := rfl
    have e1 : elemD 1 (.arr 1 [I a, I b, I c, I d]) (I 1) = some [I b] := rfl
    have e2 : elemD 1 (.arr 1 [I a, I b, I c, I d]) (I 2) = some [I c] := rfl
    have e3 : elemD 1 (.arr 1 [I a, I b, I c, I d]) (I 3) = some [I d] := rfl
    have f0 : elemD 1 (ints [a, b, c, d]) (I 0) = some [I a] := rfl
    have f1 : elemD 1 (ints [a, b, c, d]) (I 1) = some [I b] := rfl
    have f2 : elemD 1 (ints [a, b, c, d]) (I 2) = some [I c] := rfl
    have f3 : elemD 1 (ints [a, b, c, d]) (I 3) = some [I d] := rfl
    have hio := e_impl_areMargins (a, b, c, d)
    have ho : okL [a, b, c, d] = goodM (a, b, c, d) := rfl
    cases h1 : goodM (a, b, c, d)
    · rw [h1] at hio
      simp -implicitDefEqProofs [mgO, bld0, bld4, e0, e1, e2, e3, f0, f1, f2, f3, hio, ho, h1]
    · rw [h1] at hio
      have ht := e_impl_marginsText h1
      by_cases h2 : mgT (a, b, c, d) = s
      · have h2' : numsJ 47 [a, b, c, d] = s := h2
        simp -implicitDefEqProofs [mgO, bld0, bld4, e0, e1, e2, e3, f0, f1, f2, f3, hio, ho, h1, ht, h2, h2']
      · have h2' : ¬ numsJ 47 [a, b, c, d] = s := h2
        simp -implicitDefEqProofs [mgO, bld0, bld4, e0, e1, e2, e3, f0, f1, f2, f3, hio, ho, h1, ht, h2, h2']
  · have hl : ¬ ((ns.length : Int) + 1 + 1 + 1 + 1 + 1 = 4) := by omega
    have hl2 : ¬ (ns.length + 1 + 1 + 1 + 1 + 1 = 4) := by omega
    simp -implicitDefEqProofs [mgO, bld0, hl, hl2]
theorem e_spec_ParseMargins (s : ByteArray) (h : s.size ≤ 1048576) : F_spec_ParseMargins [T s] = some (.ret [mg (mgO (pI s)), B (pI s).isSome] []) := by
  rw [t_spec_ParseMargins, ← pI_eq]
  have hs : F_spec_l1Split [T s, D.v (Value.int IntKind.u8 47)] = some (.ret [.arr 1 ((splitT 47 s).map T)] []) := e_spec_l1Split s 47 (by omega)
  have hz := splitT_size 47 s
  rw [hs]
  unfold parseS
  generalize splitT 47 s = ws at hz
  rcases ws with _ | ⟨a, _ | ⟨b, _ | ⟨c, _ | ⟨d, _ | ⟨e, ws⟩⟩⟩⟩⟩
  · simp -implicitDefEqProofs [mgO, bld0]
  · simp -implicitDefEqProofs [mgO, bld0]
  · simp -implicitDefEqProofs [mgO, bld0]
  · simp -implicitDefEqProofs [mgO, bld0]
  · have e0 : elemD 1 (.arr 1 [T a, T b, T c, T d]) (I 0) = some [T a] := rfl
    have e1 : elemD 1 (.arr 1 [T a, T b, T c, T d]) (I 1) = some [T b] := rfl
    have e2 : elemD 1 (.arr 1 [T a, T b, T c, T d]) (I 2) = some [T c] := rfl
    have e3 : elemD 1 (.arr 1 [T a, T b, T c, T d]) (I 3) = some [T d] := rfl
    have r0 := e_spec_l1Read a (by have := hz a (by simp); omega)
    have r1 := e_spec_l1Read b (by have := hz b (by simp); omega)
    have r2 := e_spec_l1Read c (by have := hz c (by simp); omega)
    have r3 := e_spec_l1Read d (by have := hz d (by simp); omega)
    have hio := e_spec_mgGood (readT a, readT b, readT c, readT d)
    have ho : okL [readT a, readT b, readT c, readT d] = goodM (readT a, readT b, readT c, readT d) := rfl
    cases h1 : goodM (readT a, readT b, readT c, readT d)
    · rw [h1] at hio
      simp -implicitDefEqProofs [mgO, bld0, bld4, e0, e1, e2, e3, r0, r1, r2, r3, hio, ho, h1]
    · rw [h1] at hio
      simp -implicitDefEqProofs [mgO, bld0, bld4, e0, e1, e2, e3, r0, r1, r2, r3, hio, ho, h1]
  · have hl : ¬ ((ws.length : Int) + 1 + 1 + 1 + 1 + 1 = 4) := by omega
    have hl2 : ¬ (ws.length + 1 + 1 + 1 + 1 + 1 = 4) := by omega
    simp -implicitDefEqProofs [mgO, bld0, hl, hl2]
end Go.Proofs.YtdgenchlghojlaaDoor
/-
  Layouts: draws.
-/
namespace Go.Proofs.YtdgenchlghojlaaDoor
open Go Go.V
set_option linter.unusedSimpArgs false

theorem d_pageSide (c : Cur) (B : Nat) (h : c.ok B) (hB : B ≤ 1000000) : ∃ (v : Int) (c' : Cur), F_spec_l1Cur_pageSide [curD c] = some (.ret [I v] [curD c']) ∧ c'.ok (B + 6) := by
  obtain ⟨v1, c1, e1, l1, u1, k1⟩ := d_pick c 300 B h (by omega) (by omega)
  obtain ⟨v2, c2, e2, l2, k2⟩ := d_among c1 [60, 2000, 59, 2001, 100] _ k1 (by omega) (by simp) (by simp)
  obtain ⟨v3, c3, e3, l3, k3⟩ := d_among c2 [300, 450, 200, IntKind.i64.wrap (120 + v1), v2] _ k2 (by omega) (by simp) (by simp)
  have m1 := mkInts (l := [60, 2000, 59, 2001, 100])
  have m2 := mkInts (l := [300, 450, 200, IntKind.i64.wrap (120 + v1), v2])
  simp only [List.map_cons, List.map_nil] at m1 m2
  rw [t_spec_l1Cur_pageSide]
  exact ⟨v3, c3, by simp -implicitDefEqProofs [e1, m1, e2, m2, e3, -List.map_cons], k3.mono (by omega)⟩
theorem d_margins (c : Cur) (B : Nat) (h : c.ok B) (hB : B ≤ 1000000) : ∃ (m : Mg) (c' : Cur), F_spec_l1Cur_margins [curD c] = some (.ret [mg m] [curD c']) ∧ c'.ok (B + 20) := by
  obtain ⟨v1, c1, e1, l1, u1, k1⟩ := d_pick c 40 B h (by omega) (by omega)
  obtain ⟨v2, c2, e2, l2, u2, k2⟩ := d_pick c1 40 _ k1 (by omega) (by omega)
  obtain ⟨v3, c3, e3, l3, u3, k3⟩ := d_pick c2 50 _ k2 (by omega) (by omega)
  obtain ⟨v4, c4, e4, l4, u4, k4⟩ := d_pick c3 60 _ k3 (by omega) (by omega)
  obtain ⟨v5, c5, e5, l5, u5, k5⟩ := d_pick c4 24 _ k4 (by omega) (by omega)
  have m1 := mkInts (l := [0, 1, 2, 300, 301, -1])
  have m2 := mkInts (l := [0, 3, 300, 301, -1])
  have m3 := mkInts (l := [0, 300, -1, -9223372036854775808])
  simp only [List.map_cons, List.map_nil] at m1 m2 m3
  rw [t_spec_l1Cur_margins]
  by_cases h0 : v5 = 0
  · obtain ⟨v6, c6, e6, l6, k6⟩ := d_among c5 [0, 1, 2, 300, 301, -1] _ k5 (by omega) (by simp) (by simp)
    exact ⟨(IntKind.i64.wrap (10 + v1), v6, IntKind.i64.wrap (20 + v3), IntKind.i64.wrap (20 + v4)), c6, by simp -implicitDefEqProofs [e1, e2, e3, e4, e5, h0, bld4, m1, e6, -List.map_cons], k6.mono (by omega)⟩
  by_cases h1 : v5 = 1
  · obtain ⟨v6, c6, e6, l6, k6⟩ := d_among c5 [0, 3, 300, 301, -1] _ k5 (by omega) (by simp) (by simp)
    exact ⟨(IntKind.i64.wrap (10 + v1), IntKind.i64.wrap (10 + v2), v6, IntKind.i64.wrap (20 + v4)), c6, by simp -implicitDefEqProofs [e1, e2, e3, e4, e5, h0, h1, bld4, m2, e6, -List.map_cons], k6.mono (by omega)⟩
  by_cases h2 : v5 = 2
  · obtain ⟨v6, c6, e6, l6, k6⟩ := d_among c5 [0, 300, -1, -9223372036854775808] _ k5 (by omega) (by simp) (by simp)
    exact ⟨(v6, IntKind.i64.wrap (10 + v2), IntKind.i64.wrap (20 + v3), IntKind.i64.wrap (20 + v4)), c6, by simp -implicitDefEqProofs [e1, e2, e3, e4, e5, h0, h1, h2, bld4, m3, e6, -List.map_cons], k6.mono (by omega)⟩
  exact ⟨(IntKind.i64.wrap (10 + v1), IntKind.i64.wrap (10 + v2), IntKind.i64.wrap (20 + v3), IntKind.i64.wrap (20 + v4)), c5, by simp -implicitDefEqProofs [e1, e2, e3, e4, e5, h0, h1, h2, bld4, -List.map_cons], k5.mono (by omega)⟩
theorem curZ_eq (l : List Int) : curZ l = curD ⟨l, 0, 0⟩ := rfl
theorem cur8 {l : List Int} (h : Bytes l) : Cur.ok ⟨l, 8, 0⟩ 8 := ⟨h.by_, h.len, Nat.le_refl _, Int.le_refl 0, show (0 : Int) < 18446744073709551616 by decide⟩
theorem box_cur (l : List Int) : boxD 3 (.agg [bytesD l, I 0, D.v (.int .u64 0)]) = some (curZ l) := by simp
theorem at8 (l : List Int) : stD 1 (curZ l) (.ref 0 1) (I 8) = some (curD ⟨l, 8, 0⟩) := by simp
theorem d_DrawIsLayout (l : List Int) (h : Bytes l) : ∃ (w v : Int) (m : Mg), F_spec_DrawIsLayout [bytesD l] = some (.ret [I w, I v, mg m] []) := by
  obtain ⟨b, c1, e1, k1⟩ := d_one ⟨l, 0, 0⟩ 8 0 (cur0 h) (by omega) (by omega)
  rw [t_spec_DrawIsLayout]
  rw [← curZ_eq] at e1
  cases b
  · obtain ⟨v2, c2, e2, k2⟩ := d_pageSide c1 _ k1 (by omega)
    obtain ⟨v3, c3, e3, k3⟩ := d_pageSide c2 _ k2 (by omega)
    obtain ⟨m, c4, e4, k4⟩ := d_margins c3 _ k3 (by omega)
    exact ⟨v2, v3, m, by simp -implicitDefEqProofs [bldCur, e1, e2, e3, e4]⟩
  · obtain ⟨v2, c2, e2, l2, u2, k2⟩ := d_pick c1 2 _ k1 (by omega) (by omega)
    exact ⟨100, 100, (35, IntKind.i64.wrap (30 + v2), 40, 35), by simp -implicitDefEqProofs [bldCur, e1, e2, bld4]⟩
theorem d_DrawShiftMargins (l : List Int) (h : Bytes l) : ∃ (w v : Int) (m : Mg) (dx dy : Int), F_spec_DrawShiftMargins [bytesD l] = some (.ret [I w, I v, mg m, I dx, I dy] []) := by
  obtain ⟨w, v, m, e0⟩ := d_DrawIsLayout l h
  obtain ⟨v1, c1, e1, l1, k1⟩ := d_among ⟨l, 8, 0⟩ [300, -300, 301, -9223372036854775808] _ (cur8 h) (by omega) (by simp) (by simp)
  obtain ⟨v2, c2, e2, l2, k2⟩ := d_among c1 [0, 5, -5, 20, -20, v1] _ k1 (by omega) (by simp) (by simp)
  obtain ⟨v3, c3, e3, l3, k3⟩ := d_among c2 [0, 5, -5, 20, -20, v1] _ k2 (by omega) (by simp) (by simp)
  have m1 := mkInts (l := [300, -300, 301, -9223372036854775808])
  have m2 := mkInts (l := [0, 5, -5, 20, -20, v1])
  simp only [List.map_cons, List.map_nil] at m1 m2
  refine ⟨w, v, m, v2, v3, ?_⟩
  rw [t_spec_DrawShiftMargins]
  simp -implicitDefEqProofs only [bldCur, box_cur, Option.bind_some, liveD_agg, liveD_ref, e0, callK_ret, tpI, tp1, show tupAt (.tup [I w, I v, mg m]) 2 = some (mg m) from rfl, st4, refAdd_ref, Nat.zero_add, at8, m1, ref0_eq, e1, sl_zero, m2, fld4, e2, e3]
theorem d_DrawMarginsByRule (l : List Int) (h : Bytes l) : ∃ (w v t : Int), F_spec_DrawMarginsByRule [bytesD l] = some (.ret [I w, I v, I t] []) := by
  obtain ⟨v1, c1, e1, k1⟩ := d_pageSide ⟨l, 0, 0⟩ 0 (cur0 h) (by omega)
  obtain ⟨v2, c2, e2, k2⟩ := d_pageSide c1 _ k1 (by omega)
  obtain ⟨v3, c3, e3, l3, k3⟩ := d_among c2 [30, 29, 0, IntKind.i64.wrap (v1 + 1), -9223372036854775808] _ k2 (by omega) (by simp) (by simp)
  obtain ⟨v4, c4, e4, l4, k4⟩ := d_among c3 [IntKind.i64.wrap (v1.tdiv 2), IntKind.i64.wrap ((IntKind.i64.wrap (v1 * 2)).tdiv 3), v1, IntKind.i64.wrap (v1 - 30), v3] _ k3 (by omega) (by simp) (by simp)
  have m1 := mkInts (l := [30, 29, 0, IntKind.i64.wrap (v1 + 1), -9223372036854775808])
  have m2 := mkInts (l := [IntKind.i64.wrap (v1.tdiv 2), IntKind.i64.wrap ((IntKind.i64.wrap (v1 * 2)).tdiv 3), v1, IntKind.i64.wrap (v1 - 30), v3])
  simp only [List.map_cons, List.map_nil] at m1 m2
  rw [← curZ_eq] at e1
  refine ⟨v1, v2, v4, ?_⟩
  rw [t_spec_DrawMarginsByRule]
  simp -implicitDefEqProofs only [bldCur, box_cur, Option.bind_some, liveD_agg, liveD_ref, ref0_eq, e1, callK_ret, sl_zero, e2, bin_quo, show ¬ (2 : Int) = 0 by decide, show ¬ (3 : Int) = 0 by decide, if_false, bin_mul, bin_sub, bin_add, m1, e3, m2, e4]
theorem d_DrawPlaceOfType (l : List Int) (h : Bytes l) : ∃ (w v : Int) (m : Mg) (p : Int), F_spec_DrawPlaceOfType [bytesD l] = some (.ret [I w, I v, mg m, I p] []) := by
  obtain ⟨w, v, m, e0⟩ := d_DrawIsLayout l h
  obtain ⟨v1, c1, e1, l1, k1⟩ := d_among ⟨l, 8, 0⟩ [9999, 0, 10000] _ (cur8 h) (by omega) (by simp) (by simp)
  obtain ⟨v2, c2, e2, l2, k2⟩ := d_among c1 [1, 2, 3, 16, v1] _ k1 (by omega) (by simp) (by simp)
  have m1 := mkInts (l := [9999, 0, 10000])
  have m2 := mkInts (l := [1, 2, 3, 16, v1])
  simp only [List.map_cons, List.map_nil] at m1 m2
  refine ⟨w, v, m, v2, ?_⟩
  rw [t_spec_DrawPlaceOfType]
  simp -implicitDefEqProofs only [bldCur, box_cur, Option.bind_some, liveD_agg, liveD_ref, e0, callK_ret, tpI, tp1, show tupAt (.tup [I w, I v, mg m]) 2 = some (mg m) from rfl, st4, refAdd_ref, Nat.zero_add, at8, m1, ref0_eq, e1, sl_zero, m2, fld4, e2]
theorem tS (l : List UInt8) : (D.v (Value.string { data := { toList := l } })) = T ⟨⟨l⟩⟩ := rfl
def exM : List ByteArray := [⟨⟨[]⟩⟩, ⟨⟨[48, 47, 48, 47, 48, 47, 48]⟩⟩, ⟨⟨[49, 47, 49, 47, 49]⟩⟩, ⟨⟨[51, 48, 48, 47, 51, 48, 48, 47, 51, 48, 48, 47, 51, 48, 48]⟩⟩, ⟨⟨[51, 48, 49, 47, 48, 47, 48, 47, 48]⟩⟩, ⟨⟨[48, 49, 47, 48, 47, 48, 47, 48]⟩⟩, ⟨⟨[49, 47, 49, 47, 49, 47, 49, 47, 49]⟩⟩]
theorem exM_mk : mkArr 1 [T ⟨⟨[]⟩⟩, T ⟨⟨[48, 47, 48, 47, 48, 47, 48]⟩⟩, T ⟨⟨[49, 47, 49, 47, 49]⟩⟩, T ⟨⟨[51, 48, 48, 47, 51, 48, 48, 47, 51, 48, 48, 47, 51, 48, 48]⟩⟩, T ⟨⟨[51, 48, 49, 47, 48, 47, 48, 47, 48]⟩⟩, T ⟨⟨[48, 49, 47, 48, 47, 48, 47, 48]⟩⟩, T ⟨⟨[49, 47, 49, 47, 49, 47, 49, 47, 49]⟩⟩] = some (txs exM) := mkTxs (l := exM)
theorem exM_size : ∀ s ∈ exM, s.size ≤ 20 := by decide
theorem d_DrawParseMargins (l : List Int) (h : Bytes l) : ∃ s : ByteArray, F_spec_DrawParseMargins [bytesD l] = some (.ret [T s] []) ∧ s.size ≤ 1000 := by
  obtain ⟨m, c1, e1, k1⟩ := d_margins ⟨l, 0, 0⟩ 0 (cur0 h) (by omega)
  rw [← curZ_eq] at e1
  obtain ⟨v2, c2, e2, l2, u2, k2⟩ := d_pick c1 5 _ k1 (by omega) (by omega)
  have key : ∀ t : ByteArray, t.size ≤ 100 → (v2 = 0 → ∃ (s : ByteArray) (c3 : Cur), F_spec_l1Cur_spoilt [curD c2, T t, T ⟨⟨[47, 45, 48, 49, 51]⟩⟩] = some (.ret [T s] [curD c3]) ∧ s.size ≤ 1000) := by
    intro t ht _
    obtain ⟨s, c3, e3, g3, k3⟩ := d_spoilt c2 t ⟨⟨[47, 45, 48, 49, 51]⟩⟩ _ k2 (by omega) (by omega) ⟨by decide, by decide⟩
    exact ⟨s, c3, e3, by omega⟩
  have hex : ∃ (s : ByteArray) (c3 : Cur), F_spec_l1Cur_of [curD c2, txs exM] = some (.ret [T s] [curD c3]) ∧ s.size ≤ 1000 := by
    obtain ⟨s, c3, e3, g3, k3⟩ := d_of c2 exM _ k2 (by omega) (by decide) (by decide)
    exact ⟨s, c3, e3, by have := exM_size s g3; omega⟩
  rw [t_spec_DrawParseMargins]
  cases hg : goodM m
  · have hm := e_spec_mgGood m
    rw [hg] at hm
    by_cases h0 : v2 = 0
    · obtain ⟨s, c3, e3, g3⟩ := key ⟨⟨[53, 48, 47, 51, 51, 47, 54, 55, 47, 49, 48, 48]⟩⟩ (by decide) h0
      refine ⟨s, ?_, g3⟩
      simp -implicitDefEqProofs only [tS, bldCur, box_cur, Option.bind_some, liveD_agg, liveD_ref, ref0_eq, e1, callK_ret, sl_zero, st4, fld4, hm, ifD_B, Bool.false_eq_true, if_false, e2, bin_eql, h0, decide_true, if_true, e3]
    by_cases h1 : v2 = 1
    · obtain ⟨s, c3, e3, g3⟩ := hex
      refine ⟨s, ?_, g3⟩
      simp -implicitDefEqProofs only [tS, bldCur, box_cur, Option.bind_some, liveD_agg, liveD_ref, ref0_eq, e1, callK_ret, sl_zero, st4, fld4, hm, ifD_B, Bool.false_eq_true, if_false, e2, bin_eql, h1, show ¬ (1 : Int) = 0 by decide, decide_false, decide_true, if_true, exM_mk, e3]
    · refine ⟨_, ?_, show (⟨⟨[53, 48, 47, 51, 51, 47, 54, 55, 47, 49, 48, 48]⟩⟩ : ByteArray).size ≤ 1000 by decide⟩
      simp -implicitDefEqProofs only [tS, bldCur, box_cur, Option.bind_some, liveD_agg, liveD_ref, ref0_eq, e1, callK_ret, sl_zero, st4, fld4, hm, ifD_B, Bool.false_eq_true, if_false, e2, bin_eql, h0, h1, decide_false]
  · have hm := e_spec_mgGood m
    have ht := e_spec_mgText hg
    have hz := mgT_size hg
    rw [hg] at hm
    by_cases h0 : v2 = 0
    · obtain ⟨s, c3, e3, g3⟩ := key (mgT m) hz h0
      refine ⟨s, ?_, g3⟩
      simp -implicitDefEqProofs only [tS, bldCur, box_cur, Option.bind_some, liveD_agg, liveD_ref, ref0_eq, e1, callK_ret, sl_zero, st4, fld4, hm, ht, ifD_B, e2, bin_eql, h0, decide_true, if_true, e3]
    by_cases h1 : v2 = 1
    · obtain ⟨s, c3, e3, g3⟩ := hex
      refine ⟨s, ?_, g3⟩
      simp -implicitDefEqProofs only [tS, bldCur, box_cur, Option.bind_some, liveD_agg, liveD_ref, ref0_eq, e1, callK_ret, sl_zero, st4, fld4, hm, ht, ifD_B, Bool.false_eq_true, if_false, e2, bin_eql, h1, show ¬ (1 : Int) = 0 by decide, decide_false, decide_true, if_true, exM_mk, e3]
    · refine ⟨mgT m, ?_, by omega⟩
      simp -implicitDefEqProofs only [tS, bldCur, box_cur, Option.bind_some, liveD_agg, liveD_ref, ref0_eq, e1, callK_ret, sl_zero, st4, fld4, hm, ht, ifD_B, Bool.false_eq_true, if_false, if_true, e2, bin_eql, h0, h1, decide_false]
end Go.Proofs.YtdgenchlghojlaaDoor
/-
  The law of layouts.
-/
namespace Go.Proofs.YtdgenchlghojlaaDoor
open Go Go.V
set_option linter.unusedSimpArgs false

theorem tpv (v : Value) (ds : List D) : tupAt (.tup (.v v :: ds)) 0 = some (.v v) := rfl
theorem neqM (m : Mg) : bin .neq false [1, 1, 1, 1] (mg m) (mg m) = some (B false) := by simp [bin, allEq]
theorem eqlM (m : Mg) : bin .eql false [1, 1, 1, 1] (mg m) (mg m) = some (B true) := by simp [bin, allEq]
theorem sh_back {w h dx dy : Int} {m : Mg} (hb : shB w h m dx dy = true) : shR w h m dx dy = shM m dx dy ∧ layB w h m = true ∧ layB w h (shM m dx dy) = true ∧ IntKind.i64.wrap (-dx) = -dx ∧ IntKind.i64.wrap (-dy) = -dy ∧
    shB w h (shM m dx dy) (-dx) (-dy) = true ∧ shR w h (shM m dx dy) (-dx) (-dy) = m ∧ areaW w (shM m dx dy) = areaW w m ∧ areaH h (shM m dx dy) = areaH h m := by
  have h0 := hb
  simp only [shB, shOk, Bool.and_eq_true, decide_eq_true_eq] at hb
  obtain ⟨⟨⟨h1, h2⟩, h3⟩, h4⟩ := hb
  have e : shM (shM m dx dy) (-dx) (-dy) = m := by
    obtain ⟨a, b, c, d⟩ := m
    simp only [shM, Prod.mk.injEq]
    omega
  have h5 : shB w h (shM m dx dy) (-dx) (-dy) = true := by
    simp only [shB, shOk, Bool.and_eq_true, decide_eq_true_eq, e]
    exact ⟨⟨⟨h4, by omega⟩, by omega⟩, h1⟩
  refine ⟨by simp only [shR, ifM, h0, if_true], h1, h4, wrap_id (by omega) (by omega), wrap_id (by omega) (by omega), h5, by simp only [shR, ifM, h5, if_true, e], ?_, ?_⟩
  · simp only [areaW, shM]; omega
  · simp only [areaH, shM]; omega
theorem lay_sum {w h : Int} {m : Mg} (hl : layB w h m = true) : IntKind.i64.wrap (areaW w m + m.2.1) = areaW w m + m.2.1 ∧ IntKind.i64.wrap (areaW w m + m.2.1 + m.2.2.1) = w ∧ IntKind.i64.wrap (areaH h m + m.1) = areaH h m + m.1 ∧ IntKind.i64.wrap (areaH h m + m.1 + m.2.2.2) = h ∧ ¬ areaW w m < 30 ∧ ¬ areaH h m < 30 := by
  obtain ⟨h1, h2, h3, h4, h5⟩ := layB_iff.1 hl
  have := goodM_iff.1 h3
  unfold areaW areaH
  refine ⟨wrap_id (by omega) (by omega), ?_, wrap_id (by omega) (by omega), ?_, by omega, by omega⟩
  · rw [wrap_id (by omega) (by omega)]; omega
  · rw [wrap_id (by omega) (by omega)]; omega
theorem ru_facts {w h t : Int} (hb : ruB w h t = true) : ruR w h t = ruM w h t ∧ layB w h (ruM w h t) = true ∧ areaW w (ruM w h t) = t ∧ IntKind.i64.wrap (2 * (ruM w h t).2.1) = 2 * (ruM w h t).2.1 ∧ ¬ (ruM w h t).2.2.1 < 2 * (ruM w h t).2.1 ∧
    IntKind.i64.wrap (2 * (ruM w h t).1) = 2 * (ruM w h t).1 ∧ ¬ (ruM w h t).2.2.2 < 2 * (ruM w h t).1 := by
  have h0 := hb
  simp only [ruB, ruOk, pageB, Bool.and_eq_true, decide_eq_true_eq] at hb
  obtain ⟨⟨⟨h1, h2⟩, h3⟩, h4⟩ := hb
  have hq := quo_in h3 (show 0 ≤ h by omega)
  refine ⟨by simp only [ruR, ifM, h0, if_true], h4, ?_⟩
  simp only [areaW, ruM]
  generalize (t * h).tdiv w = q at *
  have a := three_in (n := h - q) (by omega)
  have b := three_in (n := w - t) (by omega)
  exact ⟨by omega, wrap_id (by omega) (by omega), by omega, wrap_id (by omega) (by omega), by omega⟩

set_option maxRecDepth 100000 in
set_option maxHeartbeats 2000000 in
theorem law_Layouts (code more : List Int) (hb1 : ∀ n ∈ code, 0 ≤ n ∧ n ≤ 255) (hb2 : ∀ n ∈ more, 0 ≤ n ∧ n ≤ 255) : F_laws_FnLayouts [bytesD code, bytesD more] = some (.ret [B true] []) := by
  rw [t_laws_FnLayouts]
  obtain ⟨p, hp, hp'⟩ := e_laws_big code more
  cases p
  case true => rw [hp]; rfl
  obtain ⟨hl1, hl2⟩ := hp' rfl
  obtain ⟨w, v, m, dx, dy, e1⟩ := d_DrawShiftMargins code ⟨hb1, hl1⟩
  have tp3 : ∀ a b c d : D, ∀ n : Int, tupAt (.tup [a, b, c, I n, d]) 3 = some (I n) := fun _ _ _ _ _ => rfl
  have tp4 : ∀ a b c d : D, ∀ n : Int, tupAt (.tup [a, b, c, d, I n]) 4 = some (I n) := fun _ _ _ _ _ => rfl
  have tp3' : ∀ a b c : D, ∀ n : Int, tupAt (.tup [a, b, c, I n]) 3 = some (I n) := fun _ _ _ _ => rfl
  have tpm : ∀ (a b : D) (x : Mg) (ds : List D), tupAt (.tup (a :: b :: mg x :: ds)) 2 = some (mg x) := fun _ _ _ _ => rfl
  have tail : ∀ (K : (List D → Option Out) → Option Out) (k : List D → Option Out), k [bytesD more, mg m] = some (.ret [B true] []) → (∀ j : List D → Option Out, j [bytesD more, mg m] = some (.ret [B true] []) → K j = some (.ret [B true] [])) → joinC K k = some (.ret [B true] []) := by
    intro K k hk hK
    exact joinC_of (fun s => s = [bytesD more, mg m]) (by rintro s rfl; exact hk) (fun j hj => hK j (hj _ rfl))
  have a1 := e_impl_ShiftMargins w v dx dy m
  have a2 := e_spec_ShiftMargins w v dx dy m
  have a3 := e_impl_TypeArea w v m
  have a4 := e_spec_TypeArea w v m
  have a5 := e_impl_IsLayout w v m
  have hsl : layB w v m = false → shB w v m dx dy = false := fun h => by simp only [shB, shOk, h, Bool.false_and]
  have cs : (layB w v m = false ∧ shB w v m dx dy = false) ∨ (layB w v m = true ∧ shB w v m dx dy = false) ∨ (layB w v m = true ∧ shB w v m dx dy = true) := by
    cases hl : layB w v m
    · exact .inl ⟨rfl, hsl hl⟩
    · cases hs : shB w v m dx dy
      · exact .inr (.inl ⟨rfl, rfl⟩)
      · exact .inr (.inr ⟨rfl, rfl⟩)
  rcases cs with ⟨hl, hs⟩ | ⟨hl, hs⟩ | ⟨hl, hs⟩
  case' inl =>
    rw [hl] at a3 a4 a5
    rw [hs] at a1 a2
    simp -implicitDefEqProofs only [hp, callK_ret, sl_zero, ifD_B, Bool.false_eq_true, if_false, e1, tpI, tp1, tpm, tp3, tp4, tpA, tp2, Option.bind_some, st4, fld4, a1, a2, a3, a4, a5, bin_neqB, beq_self_eq_true, Bool.not_true, gate_f, gate_t, gate_s, gateC_f, nrmK_some, neqM, pickD_B, bin_neq, decide_true, un_not, Bool.not_false]
    refine tail _ _ ?_ (fun _ hj => hj)
  case' inr.inl =>
    rw [hl] at a3 a4 a5
    rw [hs] at a1 a2
    obtain ⟨q1, q2, q3, q4, q5, q6⟩ := lay_sum hl
    simp -implicitDefEqProofs only [hp, callK_ret, sl_zero, ifD_B, Bool.false_eq_true, if_false, if_true, ifN0, e1, tpI, tp1, tpm, tp3, tp4, tpA, tp2, Option.bind_some, st4, fld4, a1, a2, a3, a4, a5, bin_neqB, beq_self_eq_true, Bool.not_true, gate_f, gate_t, gate_s, gateC_f, nrmK_some, neqM, pickD_B, bin_neq, decide_true, un_not, Bool.not_false, liveD_agg, atD_agg, List.drop_zero, List.drop_succ_cons, takeD_f, bin_add, q1, q2, q3, q4, bin_lss, q5, q6, decide_false]
    refine tail _ _ ?_ (fun _ hj => hj)
  case' inr.inr =>
    rw [hl] at a3 a4 a5
    rw [hs] at a1 a2
    obtain ⟨q1, q2, q3, q4, q5, q6⟩ := lay_sum hl
    obtain ⟨b1, b2, b3, b4, b5, b6, b7, b8, b9⟩ := sh_back hs
    rw [b1] at a1 a2
    have a6 := e_impl_ShiftMargins w v (-dx) (-dy) (shM m dx dy)
    have a7 := e_impl_TypeArea w v (shM m dx dy)
    rw [b6, b7] at a6
    rw [b3, b8, b9] at a7
    simp -implicitDefEqProofs only [hp, callK_ret, sl_zero, ifD_B, Bool.false_eq_true, if_false, if_true, ifN0, e1, tpI, tp1, tpm, tp3, tp4, tpA, tp2, Option.bind_some, st4, fld4, a1, a2, a3, a4, a5, bin_neqB, beq_self_eq_true, Bool.not_true, gate_f, gate_t, gate_s, gateC_f, nrmK_some, neqM, pickD_B, bin_neq, decide_true, un_not, Bool.not_false, liveD_agg, atD_agg, List.drop_zero, List.drop_succ_cons, takeD_f, bin_add, q1, q2, q3, q4, bin_lss, q5, q6, decide_false, un_neg, b4, b5, a6, a7]
    refine tail _ _ ?_ (fun _ hj => hj)
  all_goals
    clear a1 a2 a3 a4 a5
    obtain ⟨w2, v2, t, e2⟩ := d_DrawMarginsByRule more ⟨hb2, hl2⟩
    have r1 := e_impl_MarginsByRule w2 v2 t
    have r2 := e_spec_MarginsByRule w2 v2 t
    simp -implicitDefEqProofs only [sl_zero, e2, callK_ret, tpI, tp1, tp2, Option.bind_some, r1, r2, tpA, st4, fld4, bin_neqB, beq_self_eq_true, Bool.not_true, gate_f, Bool.false_eq_true, if_false, neqM, pickD_B, ifD_B]
    refine tail _ _ ?_ ?_
    · obtain ⟨w3, v3, n, pg, e3⟩ := d_DrawPlaceOfType more ⟨hb2, hl2⟩
      have p1 := e_impl_PlaceOfType w3 v3 pg n
      have p2 := e_spec_PlaceOfType w3 v3 pg n
      obtain ⟨s, e4, z4⟩ := d_DrawParseMargins more ⟨hb2, hl2⟩
      have t1 := e_impl_MarginsText m
      have t2 := e_spec_MarginsText m
      have u1 := e_impl_ParseMargins s (by omega)
      have u2 := e_spec_ParseMargins s (by omega)
      simp -implicitDefEqProofs only [sl_zero, sl_succ, e3, callK_ret, tpI, tp1, tpm, tp3', tp2, Option.bind_some, st4, fld4, p1, p2, bin_neqB, beq_self_eq_true, Bool.not_true, gate_f, Bool.false_eq_true, if_false, bin_neq, decide_true, pickD_B]
      have hk : plOk w3 v3 n pg = false ∨ (plOk w3 v3 n pg = true ∧ plX w3 v3 n pg = n.2.1) ∨ (plOk w3 v3 n pg = true ∧ ¬ plX w3 v3 n pg = n.2.1 ∧ plX w3 v3 n pg = n.2.2.1) := by
        cases ho : plOk w3 v3 n pg
        · exact .inl rfl
        · right
          by_cases hx : pg.tmod 2 = 1
          · left
            simp only [plX, ho, ifN0, if_true, hx, and_self]
          · by_cases hy : plX w3 v3 n pg = n.2.1
            · exact .inl ⟨rfl, hy⟩
            · refine .inr ⟨rfl, hy, ?_⟩
              simp only [plX, ho, ifN0, if_true, hx, if_false]
      rcases hk with ho | ⟨ho, hx⟩ | ⟨ho, hx, hy⟩
      case' inl =>
        simp -implicitDefEqProofs only [ho, gate_t, gate_s, gate_f, Bool.false_eq_true, if_false, Option.bind_some, pickD_B, ifD_B]
      case' inr.inl =>
        simp -implicitDefEqProofs only [ho, hx, ifN0, gate_t, gate_s, gate_f, Bool.false_eq_true, if_false, if_true, Option.bind_some, liveD_agg, atD_agg, List.drop_zero, List.drop_succ_cons, takeD_f, bin_neq, decide_true, Bool.not_true, pickD_B, ifD_B]
      case' inr.inr =>
        simp -implicitDefEqProofs only [ho, hx, ifN0, gate_t, gate_s, gate_f, Bool.false_eq_true, if_false, if_true, Option.bind_some, liveD_agg, atD_agg, List.drop_zero, List.drop_succ_cons, takeD_f, bin_neq, decide_true, decide_false, Bool.not_true, Bool.not_false, pickD_B, ifD_B]
        rw [hy]
        simp -implicitDefEqProofs only [gate_t, gate_s, gate_f, Bool.false_eq_true, if_false, if_true, Option.bind_some, bin_neq, decide_true, Bool.not_true, pickD_B, ifD_B]
      all_goals
        simp -implicitDefEqProofs only [t1, t2, u1, u2, e4, callK_ret, sl_zero, tpv, tp1, tpA, Option.bind_some, st4, fld4, bin_neqB, bin_neqS, beq_self_eq_true, decide_true, Bool.not_true, gate_f, Bool.false_eq_true, if_false, neqM, pickD_B, ifD_B]
        cases hg : goodM m
        · simp -implicitDefEqProofs only [Bool.false_eq_true, if_false]
        · have u3 := e_impl_ParseMargins (mgT m) (by have := mgT_size hg; omega)
          rw [pI_T hg] at u3
          have e5 : mgO (some (mgL m)) = m := rfl
          rw [e5] at u3
          simp -implicitDefEqProofs only [if_true, u3, callK_ret, tpA, tp1, Option.bind_some, Option.isSome_some, st4, fld4, gate_t, eqlM, pickD_B]
    · intro j hj
      cases hr : ruB w2 v2 t
      · simp -implicitDefEqProofs only [Bool.false_eq_true, if_false]
        exact hj
      · obtain ⟨c1, c2, c3, c4, c5, c6, c7⟩ := ru_facts hr
        have a8 := e_impl_TypeArea w2 v2 (ruM w2 v2 t)
        rw [c2, c3] at a8
        rw [c1]
        simp -implicitDefEqProofs only [if_true, fld4, Option.bind_some, a8, callK_ret, ifN0, tpI, tp1, tp2, un_not, Bool.not_true, gate_f, Bool.false_eq_true, if_false, bin_neq, decide_true, pickD_B, liveD_agg, atD_agg, List.drop_zero, List.drop_succ_cons, takeD_f, bin_mul, c4, c6, bin_lss, c5, c7, decide_false, ifD_B]
        exact hj
end Go.Proofs.YtdgenchlghojlaaDoor
