/-
  Numbers read out of texts: the plain laws; 'l1Read', 'numbersIn'.
-/
import Derived.Test.YtfjkapnonljdeaaDoorP2
import Derived.Laws.RangeString
namespace Go.Proofs.YtfjkapnonljdeaaDoor
open Go Go.V
set_option linter.unusedSimpArgs false

/-! ### digits -/
def dig (b : UInt8) : Bool := decide (48 ≤ b.toNat) && decide (b.toNat ≤ 57)
theorem dig_iff {b : UInt8} : dig b = true ↔ 48 ≤ b.toNat ∧ b.toNat ≤ 57 := by simp [dig]
theorem toNat_digit {u : Nat} (h : u < 10) : (UInt8.ofNat (48 + u)).toNat = 48 + u := by
  simp
  omega
theorem dig_ofNat {u : Nat} (h : u < 10) : dig (UInt8.ofNat (48 + u)) = true := by
  rw [dig_iff, toNat_digit h]
  omega
theorem decDigits_step {u : Nat} (h : ¬ u < 10) : Lib.decDigits u = Lib.decDigits (u / 10) ++ [UInt8.ofNat (48 + u % 10)] := by rw [Lib.decDigits, dif_neg h]
theorem decDigits_ind {P : Nat → Prop} (h0 : ∀ u, u < 10 → P u) (h1 : ∀ u, ¬ u < 10 → P (u / 10) → P u) : ∀ u, P u := by
  intro u
  induction u using Nat.strongRecOn with
  | _ u ih =>
    by_cases h : u < 10
    · exact h0 u h
    · exact h1 u h (ih (u / 10) (by omega))
theorem decDigits_dig : ∀ u, ∀ b ∈ Lib.decDigits u, dig b = true := by
  refine decDigits_ind (fun u h b hb => ?_) (fun u h ih b hb => ?_)
  · rw [Lib.decDigits_one h] at hb
    rw [List.mem_singleton.1 hb]
    exact dig_ofNat h
  · rw [decDigits_step h] at hb
    rcases List.mem_append.1 hb with hb | hb
    · exact ih b hb
    · rw [List.mem_singleton.1 hb]
      exact dig_ofNat (Nat.mod_lt u (show 10 > 0 by decide))
theorem decDigits_ne : ∀ u, Lib.decDigits u ≠ [] := by
  refine decDigits_ind (fun u h => ?_) (fun u h ih => ?_)
  · rw [Lib.decDigits_one h]; simp
  · rw [decDigits_step h]; simp
/-- The first digit is 0 just at 0. -/
theorem decDigits_head : ∀ u, 0 < u → ∀ b t, Lib.decDigits u = b :: t → b ≠ 48 := by
  refine decDigits_ind (fun u h h0 b t e => ?_) (fun u h ih h0 b t e => ?_)
  · rw [Lib.decDigits_one h] at e
    obtain ⟨rfl, _⟩ := List.cons.inj e
    intro e2
    have := congrArg UInt8.toNat e2
    rw [toNat_digit h] at this
    have h48 : (48 : UInt8).toNat = 48 := rfl
    omega
  · rw [decDigits_step h] at e
    cases hd : Lib.decDigits (u / 10) with
    | nil => exact absurd hd (decDigits_ne _)
    | cons b' t' =>
      rw [hd, List.cons_append] at e
      obtain ⟨rfl, _⟩ := List.cons.inj e
      exact ih (by omega) _ _ hd
/-- What digits spell. -/
def valF (a : Nat) (l : List UInt8) : Nat := l.foldl (fun a b => a * 10 + (b.toNat - 48)) a
theorem valF_dec : ∀ u, valF 0 (Lib.decDigits u) = u := by
  refine decDigits_ind (fun u h => ?_) (fun u h ih => ?_)
  · rw [Lib.decDigits_one h]
    simp only [valF, List.foldl_cons, List.foldl_nil, toNat_digit h]
    omega
  · rw [decDigits_step h]
    simp only [valF] at ih ⊢
    rw [List.foldl_append, ih]
    simp only [List.foldl_cons, List.foldl_nil, toNat_digit (Nat.mod_lt u (show 10 > 0 by decide))]
    omega

/-! ### strconv.Atoi -/
theorem parse_append : ∀ (l r : List UInt8) (a b : Nat), Lib.parseUint10 a l = .ok b → Lib.parseUint10 a (l ++ r) = Lib.parseUint10 b r
  | [], r, a, b, h => by
    simp only [Lib.parseUint10] at h
    injection h with h
    subst h
    rfl
  | c :: l, r, a, b, h => by
    simp only [Lib.parseUint10] at h
    rw [List.cons_append]
    simp only [Lib.parseUint10]
    split at h
    · rename_i h1
      rw [if_pos h1]
      split at h
      · cases h
      · rename_i h2
        rw [if_neg h2]
        split at h
        · cases h
        · rename_i h3
          rw [if_neg h3]
          exact parse_append l r _ b h
    · cases h
theorem parse_dec : ∀ u, u < 1844674407370955162 → Lib.parseUint10 0 (Lib.decDigits u) = .ok u := by
  refine decDigits_ind (fun u h hu => ?_) (fun u h ih hu => ?_)
  · rw [Lib.decDigits_one h]
    simp only [Lib.parseUint10, toNat_digit h]
    rw [if_pos (by omega), if_neg (by omega), if_neg (by omega)]
    congr 1
    omega
  · have h10 := toNat_digit (Nat.mod_lt u (show 10 > 0 by decide))
    rw [decDigits_step h, parse_append _ _ _ _ (ih (by omega))]
    simp only [Lib.parseUint10, h10]
    rw [if_pos (by omega), if_neg (by omega), if_neg (by omega)]
    congr 1
    omega
theorem atoi_dec {u : Nat} (h : u < 1844674407370955162) : Lib.atoiAll (Lib.decDigits u) = .ok (u : Int) := by
  have hp := parse_dec u h
  cases hd : Lib.decDigits u with
  | nil => exact absurd hd (decDigits_ne u)
  | cons c r =>
    have hc := dig_iff.1 (decDigits_dig u c (by rw [hd]; simp))
    rw [hd] at hp
    unfold Lib.atoiAll
    simp only
    rw [if_neg (by omega)]
    unfold Lib.parseMag
    rw [if_neg (by simp), hp]
    simp only
    have h45 : ¬ c.toNat = 45 := by omega
    rw [if_neg (by omega), if_neg (by simp [h45]), if_neg h45]

/-! ### the fields of a text -/
def sepB (b : UInt8) : Bool := isSep b.toNat
theorem sepB_dig (b : UInt8) : sepB b = !dig b := by
  simp only [sepB, isSep, dig]
  by_cases h1 : b.toNat < 48 <;> by_cases h2 : 57 < b.toNat <;> simp [h1, h2] <;> omega
def flds : Option (List UInt8) → List UInt8 → List (List UInt8)
  | none, [] => []
  | some c, [] => [c]
  | none, b :: l => if sepB b = true then flds none l else flds (some [b]) l
  | some c, b :: l => if sepB b = true then c :: flds none l else flds (some (c ++ [b])) l
theorem flds_sep : ∀ {a : List UInt8} (l : List UInt8), (∀ b ∈ a, dig b = false) → flds none (a ++ l) = flds none l
  | [], _, _ => rfl
  | x :: a, l, h => by
    rw [List.cons_append]
    simp only [flds]
    rw [if_pos (by rw [sepB_dig, h x (by simp)]; rfl)]
    exact flds_sep l fun b hb => h b (by simp [hb])
theorem flds_cur : ∀ {w : List UInt8} (c l : List UInt8), (∀ b ∈ w, dig b = true) → flds (some c) (w ++ l) = flds (some (c ++ w)) l
  | [], c, l, _ => by simp
  | x :: w, c, l, h => by
    rw [List.cons_append]
    simp only [flds]
    rw [if_neg (by rw [sepB_dig, h x (by simp)]; simp), flds_cur (c ++ [x]) l fun b hb => h b (by simp [hb])]
    simp
theorem flds_word {w : List UInt8} (hn : w ≠ []) (h : ∀ b ∈ w, dig b = true) {x : UInt8} (hx : dig x = false) (l : List UInt8) : flds none (w ++ x :: l) = w :: flds none l := by
  cases w with
  | nil => exact absurd rfl hn
  | cons y w =>
    rw [List.cons_append]
    simp only [flds]
    rw [if_neg (by rw [sepB_dig, h y (by simp)]; simp), flds_cur [y] _ fun b hb => h b (by simp [hb])]
    simp only [flds]
    rw [if_pos (by rw [sepB_dig, hx]; rfl)]
    rfl
theorem flds_last {w : List UInt8} (hn : w ≠ []) (h : ∀ b ∈ w, dig b = true) : flds none w = [w] := by
  cases w with
  | nil => exact absurd rfl hn
  | cons y w =>
    simp only [flds]
    rw [if_neg (by rw [sepB_dig, h y (by simp)]; simp)]
    have := flds_cur (w := w) [y] [] fun b hb => h b (by simp [hb])
    rw [List.append_nil] at this
    rw [this]
    rfl

theorem fields_spans (s : ByteArray) (hs : ∀ b ∈ chars s, b.toNat < 128) : ∀ (f pos : Nat) (st : Option Nat) (acc : List (Nat × Nat)), s.size ≤ pos + f → pos ≤ s.size → (∀ a, st = some a → a < pos) →
    (Lib.closeSpans s (Lib.spansFromP isSep s f pos st acc)).map (fun x => chars (s.extract x.1 x.2)) = acc.map (fun x => chars (s.extract x.1 x.2)) ++ flds (st.map fun a => ((chars s).take pos).drop a) ((chars s).drop pos) := by
  intro f
  induction f with
  | zero =>
    intro pos st acc h1 h2 h3
    have hp : pos = s.size := by omega
    have hd : (chars s).drop pos = [] := List.drop_eq_nil_of_le (by rw [← size_list]; omega)
    rw [hd]
    cases st with
    | none => simp [Lib.spansFromP, Lib.closeSpans, flds]
    | some a => simp only [Lib.spansFromP, Lib.closeSpans, flds, Option.map_some, List.map_append, List.map_cons, List.map_nil, chars_extract, hp]
  | succ f ih =>
    intro pos st acc h1 h2 h3
    by_cases hp : pos < s.size
    case neg =>
      have hpe : pos = s.size := by omega
      have hd : (chars s).drop pos = [] := List.drop_eq_nil_of_le (by rw [← size_list]; omega)
      rw [hd, Lib.spansFromP_end _ _ _ _ _ _ hp]
      cases st with
      | none => simp [Lib.closeSpans, flds]
      | some a => simp only [Lib.closeSpans, flds, Option.map_some, List.map_append, List.map_cons, List.map_nil, chars_extract, hpe]
    have hl : pos < (chars s).length := by rw [← size_list]; exact hp
    have hb : (chars s)[pos].toNat < 128 := hs _ (List.getElem_mem hl)
    have hdec : Utf8.decode s pos = ((chars s)[pos].toNat, 1) := decode_ascii s pos hp hb
    have hcons : (chars s).drop pos = (chars s)[pos] :: (chars s).drop (pos + 1) := List.drop_eq_getElem_cons hl
    have htk : (chars s).take (pos + 1) = (chars s).take pos ++ [(chars s)[pos]] := List.take_succ_eq_append_getElem hl
    rw [hcons]
    unfold Lib.spansFromP
    rw [if_pos hp, hdec]
    simp only
    by_cases hsep : isSep (chars s)[pos].toNat = true
    · rw [if_pos hsep]
      cases st with
      | none =>
        simp only [Option.map_none, flds]
        rw [if_pos (show sepB _ = true from hsep)]
        exact ih (pos + 1) none acc (by omega) (by omega) (by simp)
      | some a =>
        simp only [Option.map_some, flds]
        rw [if_pos (show sepB _ = true from hsep), ih (pos + 1) none (acc ++ [(a, pos)]) (by omega) (by omega) (by simp)]
        simp only [List.map_append, List.map_cons, List.map_nil, List.append_assoc, chars_extract, Option.map_none, List.cons_append, List.nil_append]
    · rw [if_neg hsep]
      cases st with
      | none =>
        simp only [Option.map_none, flds]
        rw [if_neg (show ¬ sepB _ = true from hsep), ih (pos + 1) (some pos) acc (by omega) (by omega) (by intro a ha; cases ha; omega)]
        simp only [Option.map_some]
        rw [htk, List.drop_append_of_le_length (by rw [List.length_take]; omega), List.drop_eq_nil_of_le (by rw [List.length_take]; omega)]
        rfl
      | some a =>
        have ha := h3 a rfl
        simp only [Option.map_some, flds]
        rw [if_neg (show ¬ sepB _ = true from hsep), ih (pos + 1) (some a) acc (by omega) (by omega) (by intro a' ha'; cases ha'; omega)]
        simp only [Option.map_some]
        rw [htk, List.drop_append_of_le_length (by rw [List.length_take]; omega)]
theorem fields_ascii (s : ByteArray) (hs : ∀ b ∈ chars s, b.toNat < 128) : (Lib.goFieldsP isSep s).map chars = flds none (chars s) := by
  have := fields_spans s hs s.size 0 none [] (by omega) (Nat.zero_le _) (by simp)
  simpa [Lib.goFieldsP, Lib.spansOfP, List.map_map, Function.comp_def] using this

/-! ### numbersIn -/
/-- The numbers that words spell; none, if one is no number. -/
def numsG : List ByteArray → List Int → List Int
  | [], acc => acc
  | w :: l, acc => match Lib.atoiAll (chars w) with
    | .ok v => numsG l (acc ++ [v])
    | _ => []
def numsT (s : ByteArray) : List Int := numsG (Lib.goFieldsP isSep s) []
abbrev ints (l : List Int) : D := .arr 1 (l.map I)
theorem spans_length (p : Nat → Bool) (s : ByteArray) : ∀ (f pos : Nat) (st : Option Nat) (acc : List (Nat × Nat)), (Lib.spansFromP p s f pos st acc).1.length ≤ acc.length + f
  | 0, pos, st, acc => by simp [Lib.spansFromP]
  | f + 1, pos, st, acc => by
    unfold Lib.spansFromP
    by_cases hp : pos < s.size
    case neg =>
      rw [if_neg hp]
      exact Nat.le_add_right _ _
    rw [if_pos hp]
    by_cases hq : p (Utf8.decode s pos).1 = true
    · rw [if_pos hq]
      cases st with
      | none => exact Nat.le_trans (spans_length p s f _ none acc) (by omega)
      | some a =>
        have h := spans_length p s f (pos + (Utf8.decode s pos).2) none (acc ++ [(a, pos)])
        rw [List.length_append, List.length_singleton] at h
        exact Nat.le_trans h (by omega)
    · rw [if_neg hq]
      cases st with
      | none => exact Nat.le_trans (spans_length p s f _ _ acc) (by omega)
      | some a => exact Nat.le_trans (spans_length p s f _ _ acc) (by omega)
theorem fields_length (p : Nat → Bool) (s : ByteArray) : (Lib.goFieldsP p s).length ≤ s.size + 1 := by
  unfold Lib.goFieldsP Lib.spansOfP
  rw [List.length_map]
  have := spans_length p s s.size 0 none []
  unfold Lib.closeSpans
  split
  · simp only [List.length_append, List.length_cons, List.length_nil] at this ⊢; omega
  · simp only [List.length_nil] at this; omega
theorem fields_size (p : Nat → Bool) (s : ByteArray) : ∀ w ∈ Lib.goFieldsP p s, w.size ≤ s.size := by
  intro w hw
  unfold Lib.goFieldsP at hw
  obtain ⟨x, _, rfl⟩ := List.mem_map.1 hw
  rw [size_list, chars_extract, List.length_drop, List.length_take, ← size_list]
  omega
theorem e_FieldsFunc (s : ByteArray) (k : Nat) (p : Nat → Bool) (h : s.size ≤ 4294967296) : fFieldsFunc k p [T s, .clo k []] = some (.ret [.arr 1 ((Lib.goFieldsP p s).map T)] []) := by
  simp only [fFieldsFunc, h, and_self, if_true]
theorem one_int (a : Int) : mkArr 1 [I a] = some (ints [a]) := by simp [mkArr, lenOkD]
theorem chkA_ints (l : List Int) : chkA (ints l) = some (ints l) := chkA_map fun _ => rfl
theorem e_Atoi (w : ByteArray) (h : w.size ≤ 4294967296) : fAtoi [T w] = some (match Lib.atoiAll (chars w) with
    | .ok v => Out.ret [I v, .v .nilIface] []
    | .range => Out.ret [I (Lib.atoiSat (chars w)), .ifc] []
    | _ => Out.ret [I 0, .ifc] []) := by
  have h2 : w.size ≤ 281474976710656 := by omega
  simp only [fAtoi, h2, if_true]
  rw [show w.data.toList = chars w from rfl]
  cases Lib.atoiAll (chars w) <;> rfl
theorem e_impl_numbersIn (s : ByteArray) (h : s.size ≤ 1048576) : F_impl_numbersIn [T s] = some (.ret [ints (numsT s)] []) := by
  rw [t_impl_numbersIn]
  have hl := fields_length isSep s
  have hz := fields_size isSep s
  rw [e_FieldsFunc s _ isSep (by omega)]
  simp only [mkArr_nil, Option.bind_some, callK_ret, sl_zero, lenD_arr, List.length_map]
  generalize hw : Lib.goFieldsP isSep s = ws at hl hz
  have hnum : numsT s = numsG ws [] := by rw [numsT, hw]
  rw [hnum]
  refine loop_wf_bind (fun r => r = _) (fun (a : List Int × Nat) => [ints a.1, .arr 1 (ws.map T), I ws.length, I (a.2 : Int)]) (fun a => a.2 ≤ ws.length ∧ a.1.length ≤ a.2 ∧ numsG (ws.drop a.2) a.1 = numsG ws [])
    (fun a => ws.length - a.2) (fun o => o = .ext 0 [ints (numsG ws [])] ∨ o = .ret [ints (numsG ws [])] []) ?_ ([], 0) ⟨Nat.zero_le _, Nat.le_refl _, rfl⟩ rfl ?_
  · rintro ⟨acc, i⟩ ⟨h1, h2, h3⟩
    simp only at h1 h2 h3
    by_cases hi : i < ws.length
    · have hi' : (i : Int) < (ws.length : Int) := by omega
      have hw : IntKind.i64.wrap ((i : Int) + 1) = ((i + 1 : Nat) : Int) := by rw [wrap_id (by omega) (by omega)]; omega
      have hat := e_Atoi ws[i] (by have := hz ws[i] (List.getElem_mem hi); omega)
      have hel : elemD 1 (.arr 1 (ws.map T)) (I (i : Int)) = some [T ws[i]] := by simp [hi]
      rw [List.drop_eq_getElem_cons hi] at h3
      simp only [numsG] at h3
      cases ha : Lib.atoiAll (chars ws[i]) with
      | ok v =>
        rw [ha] at h3 hat
        left
        refine ⟨(acc ++ [v], i + 1), ?_, ⟨by simp only; omega, by simp; omega, h3⟩, by simp only; omega⟩
        have e1 : (acc.map I).length + ([v].map I).length = acc.length + 1 := by simp
        have hap : (acc.length + 1) * 8 ≤ 140737488355328 ∧ acc.length + 1 ≤ 1152921504606846976 := by omega
        simp only [sl_zero, sl_succ, Option.bind_some, bin_lss, hi', decide_true, ifD_B, if_true, hel, Option.map_some, ldD_ptr, takeD_f, chkV_v, hat, callK_ret, show tupAt (.tup [I v, .v .nilIface]) 0 = some (I v) from rfl,
          show tupAt (.tup [I v, .v .nilIface]) 1 = some (.v .nilIface) from rfl, show binI true BinOp.neq (.v .nilIface) (.v .nilIface) = some (B false) from rfl, Bool.false_eq_true, if_false, one_int, chkA_ints, appD_eq, e1, hap, and_self, bin_add, hw]
        rw [← List.map_append]
      | range =>
        rw [ha] at h3 hat
        right
        refine ⟨.ret [ints []] [], ?_, rfl, .inr (by rw [← h3])⟩
        simp only [sl_zero, sl_succ, Option.bind_some, bin_lss, hi', decide_true, ifD_B, if_true, hel, Option.map_some, ldD_ptr, takeD_f, chkV_v, hat, callK_ret, show ∀ n : Int, tupAt (.tup [I n, .ifc]) 0 = some (I n) from fun _ => rfl,
          show ∀ n : Int, tupAt (.tup [I n, .ifc]) 1 = some .ifc from fun _ => rfl, show binI true BinOp.neq .ifc (.v .nilIface) = some (B true) from rfl, mkArr_nil]
        rfl
      | _ =>
        rw [ha] at h3 hat
        right
        refine ⟨.ret [ints []] [], ?_, rfl, .inr (by rw [← h3])⟩
        simp only [sl_zero, sl_succ, Option.bind_some, bin_lss, hi', decide_true, ifD_B, if_true, hel, Option.map_some, ldD_ptr, takeD_f, chkV_v, hat, callK_ret, show tupAt (.tup [I 0, .ifc]) 0 = some (I 0) from rfl,
          show tupAt (.tup [I 0, .ifc]) 1 = some .ifc from rfl, show binI true BinOp.neq .ifc (.v .nilIface) = some (B true) from rfl, mkArr_nil]
        rfl
    · right
      have hi' : ¬ (i : Int) < (ws.length : Int) := by omega
      refine ⟨.ext 0 [ints acc], ?_, rfl, .inl ?_⟩
      · simp only [sl_zero, sl_succ, Option.bind_some, bin_lss, hi', decide_false, ifD_B, Bool.false_eq_true, if_false]
      · rw [List.drop_eq_nil_of_le (by omega)] at h3
        rw [← h3]
        rfl
  · rintro o (rfl | rfl)
    · simp only [outK_ext, Nat.beq_refl, ifN_B, if_true, sl_zero]
    · rfl
end Go.Proofs.YtfjkapnonljdeaaDoor
