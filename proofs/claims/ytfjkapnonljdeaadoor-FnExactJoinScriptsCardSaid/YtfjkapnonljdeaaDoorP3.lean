/-
  Scripts followed by scripts.
-/
import Derived.Test.YtfjkapnonljdeaaDoorP2
namespace Go.Proofs.YtfjkapnonljdeaaDoor
open Go Go.V
set_option linter.unusedSimpArgs false

theorem splitL_append (c : UInt8) : ∀ (l : List UInt8), splitL c (l ++ [c]) = splitL c l ++ [[]] := fun l => by
  obtain ⟨o, p, h⟩ : ∃ o p, splitL c l = o ++ [p] := ⟨_, _, (List.dropLast_concat_getLast (splitL_ne c l)).symm⟩
  have := splitL_snoc c c l o p h
  rw [if_pos rfl] at this
  rw [this, h]
theorem splitT_length (c : UInt8) (s : ByteArray) : (splitT c s).length = (splitL c (chars s)).length := by simp [splitT]

/-- Is a text a script? -/
def isScript (s : ByteArray) : Bool := decide (s.size ≤ 2000) && (decide (s = ⟨#[]⟩) || decide ((chars s).getLast? = some 10)) && decide ((splitL 10 (chars s)).length ≤ 41)
theorem empty_iff (s : ByteArray) : s = ⟨#[]⟩ ↔ chars s = [] := ⟨fun h => by rw [h]; rfl, fun h => chars_inj (by rw [h]; rfl)⟩
theorem sz0 : (⟨#[]⟩ : ByteArray).size = 0 := rfl
theorem e_empty : (D.v (Value.string { data := { toList := [] } })) = T ⟨#[]⟩ := rfl

theorem e_spec_cnLines (s : ByteArray) (h : s.size ≤ 4294967296) : ∃ l, F_spec_cnLines [T s] = some (.ret [l, B (isScript s)] []) ∧ l ≠ .bad ∧ ∀ m, l ≠ .tup m := by
  rw [t_spec_cnLines, e_empty]
  by_cases h1 : 2000 < (s.size : Int)
  · refine ⟨.arr 1 [], ?_, by simp, by simp⟩
    have h2 : ¬ s.size ≤ 2000 := by omega
    simp -implicitDefEqProofs [h1, isScript, h2]
  by_cases h2 : s = ⟨#[]⟩
  · subst h2
    have hs : F_spec_l1Split [T ⟨#[]⟩, D.v (Value.int IntKind.u8 10)] = some (.ret [.arr 1 ((splitT 10 ⟨#[]⟩).map T)] []) := e_spec_l1Split ⟨#[]⟩ 10 h
    have e : splitT 10 ⟨#[]⟩ = [⟨#[]⟩] := rfl
    refine ⟨.arr 1 [], ?_, by simp, by simp⟩
    have hi : isScript ⟨#[]⟩ = true := by decide
    rw [hi]
    rw [e] at hs
    have hsl : sliceD false 1 (.arr 1 [T ⟨#[]⟩]) (I 0) (I 0) = some (.arr 1 []) := by simp [sliceD]
    have hw0 : IntKind.i64.wrap 0 = 0 := by decide
    simp -implicitDefEqProofs [hs, hsl, lenD_str, sz0, hw0]
  · have hne : chars s ≠ [] := fun e => h2 ((empty_iff s).2 e)
    have hpos : 0 < (chars s).length := List.length_pos_iff.2 hne
    have hsz : s.size = (chars s).length := rfl
    have hw : IntKind.i64.wrap ((s.size : Int) - 1) = (((chars s).length - 1 : Nat) : Int) := by rw [wrap_id (by omega) (by omega)]; omega
    have hlast : (chars s).getLast? = some (chars s)[(chars s).length - 1] := by
      rw [List.getLast?_eq_getElem?, List.getElem?_eq_getElem (by omega)]
    have hch : charD (T s) (I (((chars s).length - 1 : Nat) : Int)) = some (U ((chars s)[(chars s).length - 1].toNat : Int)) := by
      rw [charD_nat, List.getElem?_eq_getElem (by omega)]
      rfl
    have h3 : s.size ≤ 2000 := by omega
    by_cases hc : (chars s)[(chars s).length - 1] = 10
    · have hs := e_spec_l1Split s 10 h
      have hs : F_spec_l1Split [T s, D.v (Value.int IntKind.u8 10)] = some (.ret [.arr 1 ((splitT 10 s).map T)] []) := hs
      have hcn : (((chars s)[(chars s).length - 1]).toNat : Int) = 10 := by rw [hc]; rfl
      have hlen := splitT_length 10 s
      have hl2 := splitL_length 10 (chars s)
      have hl1 : 1 ≤ (splitL 10 (chars s)).length := List.length_pos_iff.2 (splitL_ne 10 _)
      have hw2 : IntKind.i64.wrap (((splitT 10 s).length : Int) - 1) = (((splitL 10 (chars s)).length - 1 : Nat) : Int) := by rw [wrap_id (by omega) (by omega)]; omega
      have hsl := sliceD_nat (z := 1) (k := .i64) (k' := .i64) (i := 0) (j := (splitL 10 (chars s)).length - 1) (l := (splitT 10 s).map T) (Nat.zero_le _) (by rw [List.length_map, hlen]; omega)
      have hsl : sliceD false 1 (.arr 1 ((splitT 10 s).map T)) (I 0) (I (((splitL 10 (chars s)).length - 1 : Nat) : Int)) = some (.arr 1 ((((splitT 10 s).map T).take ((splitL 10 (chars s)).length - 1)).drop 0)) := hsl
      refine ⟨.arr 1 ((((splitT 10 s).map T).take ((splitL 10 (chars s)).length - 1)).drop 0), ?_, by simp, by simp⟩
      have hll : (((splitT 10 s).map T).take ((splitL 10 (chars s)).length - 1)).length = (splitL 10 (chars s)).length - 1 := by
        rw [List.length_take, List.length_map, hlen]
        omega
      have hi : isScript s = decide ((((splitL 10 (chars s)).length - 1 : Nat) : Int) ≤ 40) := by
        have : ((((splitL 10 (chars s)).length - 1 : Nat) : Int) ≤ 40) ↔ (splitL 10 (chars s)).length ≤ 41 := by omega
        simp [isScript, h3, hlast, hc, this]
      rw [hi]
      simp only [lenD_str, Option.bind_some, bin_gtr, h1, decide_false, gate_f, Bool.false_eq_true, if_false, bin_neqS, h2, Bool.not_false, gate_t, if_true, bin_sub, hw, hch, bin_neq, hcn, decide_true, Bool.not_true, pickD_B, ifD_B, hs, callK_ret, sl_zero,
        lenD_arr, List.length_map, hw2, hsl, List.drop_zero, hll, bin_leq]
    · refine ⟨.arr 1 [], ?_, by simp, by simp⟩
      have hcn : ¬ (((chars s)[(chars s).length - 1]).toNat : Int) = 10 := fun e => hc (UInt8.toNat_inj.1 (by have h10 : (10 : UInt8).toNat = 10 := rfl; omega))
      have hi : isScript s = false := by simp [isScript, h2, hlast, hc]
      rw [hi]
      simp only [lenD_str, Option.bind_some, bin_gtr, h1, decide_false, gate_f, Bool.false_eq_true, if_false, bin_neqS, h2, Bool.not_false, gate_t, if_true, bin_sub, hw, hch, bin_neq, hcn, decide_true, Bool.not_true, pickD_B, ifD_B]

theorem hasSuffix_one (l : List UInt8) (c : UInt8) : Lib.hasSuffix l [c] = decide (l.getLast? = some c) := by
  unfold Lib.hasSuffix
  rw [Bool.eq_iff_iff, List.isSuffixOf_iff_suffix, decide_eq_true_eq]
  constructor
  · rintro ⟨a, rfl⟩
    simp
  · intro h
    obtain ⟨a, rfl⟩ := List.getLast?_eq_some_iff.1 h
    exact ⟨a, rfl⟩
theorem e_impl_linesOf (s : ByteArray) (h : s.size < 4294967281) : ∃ l, F_impl_linesOf [T s] = some (.ret [l, B (isScript s)] []) ∧ l ≠ .bad ∧ ∀ m, l ≠ .tup m := by
  rw [t_impl_linesOf, e_empty]
  by_cases h2 : s = ⟨#[]⟩
  · subst h2
    refine ⟨.arr 1 [], ?_, by simp, by simp⟩
    have hi : isScript ⟨#[]⟩ = true := by decide
    rw [hi]
    simp -implicitDefEqProofs [mkArr_nil, lenD_str, sz0]
  · have hne : chars s ≠ [] := fun e => h2 ((empty_iff s).2 e)
    have ht : fTrimSuffix [T s, D.v (Value.string { data := { toList := [10] } })] = some (.ret [T ⟨(Lib.trimSuffix (chars s) [10]).toArray⟩] []) := by
      have hz : s.size ≤ 9223372036854775807 := by omega
      show fTrimSuffix [T s, T ⟨#[10]⟩] = _
      simp only [fTrimSuffix, hz, if_true]
      rfl
    have hsuf : fHasSuffix [T s, D.v (Value.string { data := { toList := [10] } })] = some (.ret [B (decide ((chars s).getLast? = some 10))] []) := by
      have hz : s.size ≤ 9223372036854775807 := by omega
      show fHasSuffix [T s, T ⟨#[10]⟩] = _
      simp only [fHasSuffix, hz, if_true]
      rw [← hasSuffix_one]
      rfl
    have htl : (Lib.trimSuffix (chars s) [10]).length ≤ (chars s).length := by
      unfold Lib.trimSuffix
      split
      · rw [List.length_take]; omega
      · exact Nat.le_refl _
    have hsz : s.size = (chars s).length := rfl
    have hsp : fSplit [T ⟨(Lib.trimSuffix (chars s) [10]).toArray⟩, D.v (Value.string { data := { toList := [10] } })] = some (.ret [.arr 1 ((splitT 10 ⟨(Lib.trimSuffix (chars s) [10]).toArray⟩).map T)] []) :=
      e_Split (c := 10) (by simp only [ByteArray.size, List.size_toArray]; omega)
    refine ⟨.arr 1 ((splitT 10 ⟨(Lib.trimSuffix (chars s) [10]).toArray⟩).map T), ?_, by simp, by simp⟩
    have hlen : (splitT 10 ⟨(Lib.trimSuffix (chars s) [10]).toArray⟩).length = (splitL 10 (Lib.trimSuffix (chars s) [10])).length := by rw [splitT_length, chars_mk]
    have hkey : (chars s).getLast? = some 10 → ((splitL 10 (Lib.trimSuffix (chars s) [10])).length ≤ 40 ↔ (splitL 10 (chars s)).length ≤ 41) := by
      intro hl
      obtain ⟨a, ha⟩ := List.getLast?_eq_some_iff.1 hl
      have : Lib.trimSuffix (chars s) [10] = a := by
        unfold Lib.trimSuffix
        rw [if_pos (by rw [hasSuffix_one, hl]; simp), ha]
        simp
      rw [this, ha, splitL_append, List.length_append]
      simp
    have hi : isScript s = (decide ((s.size : Int) ≤ 2000) && decide (((splitT 10 ⟨(Lib.trimSuffix (chars s) [10]).toArray⟩).length : Int) ≤ 40) && decide ((chars s).getLast? = some 10)) := by
      rw [hlen]
      have e1 : ((s.size : Int) ≤ 2000) ↔ s.size ≤ 2000 := by omega
      have e2 : (((splitL 10 (Lib.trimSuffix (chars s) [10])).length : Int) ≤ 40) ↔ (splitL 10 (Lib.trimSuffix (chars s) [10])).length ≤ 40 := by omega
      by_cases hl : (chars s).getLast? = some 10
      · simp only [isScript, h2, decide_false, Bool.false_or, hl, decide_true, Bool.and_true, e1, e2, hkey hl]
      · simp [isScript, h2, hl]
    rw [hi]
    simp only [mkArr_nil, Option.bind_some, bin_neqS, h2, decide_false, Bool.not_false, ifD_B, if_true, ht, callK_ret, sl_zero, hsp, lenD_str, bin_leq, gate_t, lenD_arr, List.length_map]
    by_cases g1 : (s.size : Int) ≤ 2000
    case neg => simp -implicitDefEqProofs [g1]
    by_cases g2 : (((splitT 10 ⟨(Lib.trimSuffix (chars s) [10]).toArray⟩).length : Int) ≤ 40)
    case neg => simp -implicitDefEqProofs [g1, g2]
    simp -implicitDefEqProofs [g1, g2, hsuf, h2]

theorem tup2 {a b : D} (ha : a ≠ .bad ∧ ∀ m, a ≠ .tup m) : tupAt (.tup [a, b]) 0 = some a := by
  unfold tupAt
  simp only [List.getElem?_cons_zero]
  split
  · rename_i h; exact absurd (Option.some.inj h) ha.1
  · rename_i h; exact absurd (Option.some.inj h) (ha.2 _)
  · rfl
theorem tup2' {a : D} {b : Bool} : tupAt (.tup [a, B b]) 1 = some (B b) := rfl
def joinS (a b : ByteArray) : Bool := isScript a && isScript b && isScript (a ++ b)
theorem e_spec_JoinScripts (a b : ByteArray) (h : a.size ≤ 1048576) (k : b.size ≤ 1048576) : F_spec_JoinScripts [T a, T b] = some (.ret [T (if joinS a b then a ++ b else ⟨#[]⟩), B (joinS a b)] []) := by
  rw [t_spec_JoinScripts, e_empty]
  have hab : (a ++ b).size ≤ 2097152 := by rw [ByteArray.size_append]; omega
  obtain ⟨l1, e1, g1⟩ := e_spec_cnLines a (by omega)
  obtain ⟨l2, e2, g2⟩ := e_spec_cnLines b (by omega)
  obtain ⟨l3, e3, g3⟩ := e_spec_cnLines (a ++ b) (by omega)
  have hs : a.size + b.size ≤ 1152921504606846976 := by omega
  simp only [e1, callK_ret, tup2 g1, tup2', Option.bind_some, e2, tup2 g2, bin_addS, hs, if_true, e3, tup2 g3, un_not]
  cases h1 : isScript a <;> cases h2 : isScript b <;> cases h3 : isScript (a ++ b) <;> simp -implicitDefEqProofs [joinS, h1, h2, h3]
theorem e_impl_JoinScripts (a b : ByteArray) (h : a.size ≤ 1048576) (k : b.size ≤ 1048576) : F_impl_JoinScripts [T a, T b] = some (.ret [T (if joinS a b then a ++ b else ⟨#[]⟩), B (joinS a b)] []) := by
  rw [t_impl_JoinScripts, e_empty]
  have hab : (a ++ b).size ≤ 2097152 := by rw [ByteArray.size_append]; omega
  obtain ⟨l1, e1, g1⟩ := e_impl_linesOf a (by omega)
  obtain ⟨l2, e2, g2⟩ := e_impl_linesOf b (by omega)
  obtain ⟨l3, e3, g3⟩ := e_impl_linesOf (a ++ b) (by omega)
  have hs : a.size + b.size ≤ 1152921504606846976 := by omega
  simp only [e1, callK_ret, tup2 g1, tup2', Option.bind_some, e2, tup2 g2, bin_addS, hs, if_true, e3, tup2 g3, un_not]
  cases h1 : isScript a <;> cases h2 : isScript b <;> cases h3 : isScript (a ++ b) <;> simp -implicitDefEqProofs [joinS, h1, h2, h3]
theorem law_JoinScripts (a b : ByteArray) : F_laws_FnExactJoinScripts [T a, T b] = some (.ret [B true] []) := by
  rw [t_laws_FnExactJoinScripts]
  by_cases h : 1048576 < (a.size : Int)
  · simp -implicitDefEqProofs [h]
  by_cases k : 1048576 < (b.size : Int)
  · simp -implicitDefEqProofs [h, k]
  simp -implicitDefEqProofs [h, k, e_spec_JoinScripts a b (by omega) (by omega), e_impl_JoinScripts a b (by omega) (by omega)]
end Go.Proofs.YtfjkapnonljdeaaDoor
