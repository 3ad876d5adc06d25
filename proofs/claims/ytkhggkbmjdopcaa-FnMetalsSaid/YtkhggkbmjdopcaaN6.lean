/-
  Draws: what the cursor gives.
-/
import Derived.Test.YtkhggkbmjdopcaaT2
import Derived.Test.YtkhggkbmjdopcaaN5
import Derived.Laws.Bits64b
namespace Go.Proofs.Ytkhggkbmjdopcaa
open Go Go.V
set_option linter.unusedSimpArgs false

structure Cur where
  code : List Int
  at_ : Nat
  seed : Int
abbrev bytesD (l : List Int) : D := .arr 1 (l.map U)
abbrev curD (c : Cur) : D := .agg [bytesD c.code, I c.at_, .v (.int .u64 c.seed)]
structure Cur.ok (c : Cur) (B : Nat) : Prop where
  by_ : ∀ n ∈ c.code, 0 ≤ n ∧ n ≤ 255
  len : c.code.length ≤ 1048576
  at_ : c.at_ ≤ B
  lo : 0 ≤ c.seed
  hi : c.seed < 18446744073709551616

theorem convD_i64 {k : IntKind} {n : Int} : convD (some .i64) false (.v (.int k n)) = some (I (IntKind.i64.wrap n)) := rfl
theorem convD_u64 {k : IntKind} {n : Int} : convD (some .u64) false (.v (.int k n)) = some (.v (.int .u64 (IntKind.u64.wrap n))) := rfl
theorem bin_shr40 {n : Int} {bl : Bool} {eq : List Nat} : bin .shr bl eq (.v (.int .u64 n)) (.v (.int .u64 40)) = some (.v (.int .u64 (n.fdiv 1099511627776))) := by
  simp [bin, IntKind.bits]
theorem bin_and {a b : Int} {bl : Bool} {eq : List Nat} : bin .and bl eq (.v (.int .u64 a)) (.v (.int .u64 b)) = some (.v (.int .u64 (bits .and .u64 a b))) := by simp [bin, intBin]
theorem and255 {n : Int} (h0 : 0 ≤ n) (h1 : n < 18446744073709551616) : 0 ≤ bits .and .u64 n 255 ∧ bits .and .u64 n 255 ≤ 255 := by
  obtain ⟨m, rfl⟩ := Int.eq_ofNat_of_zero_le h0
  have := bits_and_u64_nat m 255 (by omega) (by omega)
  rw [show ((255 : Int)) = ((255 : Nat) : Int) from rfl, this]
  have h2 : m &&& 255 ≤ 255 := Nat.and_le_right
  omega
theorem wrap64 (n : Int) : 0 ≤ IntKind.u64.wrap n ∧ IntKind.u64.wrap n < 18446744073709551616 := by
  rw [IntKind.wrap_u64]
  omega

def seedOf (s n : Int) : Int := IntKind.u64.wrap (IntKind.u64.wrap (IntKind.u64.wrap (s * 6364136223846793005) + IntKind.u64.wrap n) + 1442695040888963407)
def topOf (s : Int) : Int := bits .and .u64 (s.fdiv 1099511627776) 255
theorem seedOf_in (s n : Int) : 0 ≤ seedOf s n ∧ seedOf s n < 18446744073709551616 := wrap64 _
theorem topOf_in {s : Int} (h0 : 0 ≤ s) (h1 : s < 18446744073709551616) : 0 ≤ topOf s ∧ topOf s ≤ 255 := by
  unfold topOf
  rw [Int.fdiv_eq_ediv_of_nonneg _ (by omega)]
  exact and255 (by omega) (by omega)
theorem seed_run {s n : Int} : ((bin BinOp.mul false [] (.v (.int .u64 s)) (.v (.int .u64 6364136223846793005))).bind fun x => (bin BinOp.add false [] x (.v (.int .u64 (IntKind.u64.wrap n)))).bind fun y => bin BinOp.add false [] y (.v (.int .u64 1442695040888963407))) = some (.v (.int .u64 (seedOf s n))) := by
  simp only [bin_mul, bin_add, Option.bind_some, seedOf]
theorem next1 (c : Cur) (B : Nat) (h : c.ok B) (hB : B ≤ 1000000000000) (hc : c.at_ < c.code.length) : F_spec_l1Cur_next [curD c] = some (.ret [I c.code[c.at_]] [curD ⟨c.code, c.at_ + 1, seedOf c.seed c.code[c.at_]⟩]) := by
  have hl := h.len
  have ha := h.at_
  have hw : IntKind.i64.wrap ((c.at_ : Int) + 1) = (c.at_ : Int) + 1 := wrap_id (by omega) (by omega)
  have hn := h.by_ c.code[c.at_] (List.getElem_mem hc)
  have hv : IntKind.i64.wrap c.code[c.at_] = c.code[c.at_] := wrap_id (by omega) (by omega)
  have hle : (c.at_ : Int) + 1 ≤ (c.code.length : Int) := by omega
  rw [t_spec_l1Cur_next]
  simp -implicitDefEqProofs [hc, hw, hv, hle, convD_i64, convD_u64, seedOf]
theorem next2 (c : Cur) (B : Nat) (h : c.ok B) (hB : B ≤ 1000000000000) (hc : ¬ c.at_ < c.code.length) : F_spec_l1Cur_next [curD c] = some (.ret [I (topOf (seedOf c.seed 0))] [curD ⟨c.code, c.at_ + 1, seedOf c.seed 0⟩]) := by
  have hl := h.len
  have ha := h.at_
  have hw : IntKind.i64.wrap ((c.at_ : Int) + 1) = (c.at_ : Int) + 1 := wrap_id (by omega) (by omega)
  have hle : ¬ (c.at_ : Int) + 1 ≤ (c.code.length : Int) := by omega
  have hq := topOf_in (seedOf_in c.seed 0).1 (seedOf_in c.seed 0).2
  have hv : IntKind.i64.wrap (topOf (seedOf c.seed 0)) = topOf (seedOf c.seed 0) := wrap_id (by omega) (by omega)
  unfold topOf seedOf at hv
  rw [t_spec_l1Cur_next]
  simp -implicitDefEqProofs [hc, hw, hle, convD_i64, convD_u64, bin_shr40, bin_and, hv, seedOf, topOf]
theorem d_next (c : Cur) (B : Nat) (h : c.ok B) (hB : B ≤ 1000000000000) : ∃ v c', F_spec_l1Cur_next [curD c] = some (.ret [I v] [curD c']) ∧ 0 ≤ v ∧ v ≤ 255 ∧ c'.ok (B + 1) := by
  have ha := h.at_
  by_cases hc : c.at_ < c.code.length
  · have hn := h.by_ c.code[c.at_] (List.getElem_mem hc)
    exact ⟨_, _, next1 c B h hB hc, hn.1, hn.2, ⟨h.by_, h.len, Nat.succ_le_succ ha, (seedOf_in _ _).1, (seedOf_in _ _).2⟩⟩
  · have hq := topOf_in (seedOf_in c.seed 0).1 (seedOf_in c.seed 0).2
    exact ⟨_, _, next2 c B h hB hc, hq.1, hq.2, ⟨h.by_, h.len, Nat.succ_le_succ ha, (seedOf_in _ _).1, (seedOf_in _ _).2⟩⟩

theorem d_pick (c : Cur) (n : Int) (B : Nat) (h : c.ok B) (hB : B ≤ 100000000000) (hn : n ≤ 1000000000) : ∃ v c', F_spec_l1Cur_pick [curD c, I n] = some (.ret [I v] [curD c']) ∧ 0 ≤ v ∧ (v < n ∨ v = 0) ∧ c'.ok (B + 2) := by
  rw [t_spec_l1Cur_pick]
  by_cases h1 : n ≤ 1
  · exact ⟨0, c, by simp [h1], by omega, .inr rfl, ⟨h.by_, h.len, by have := h.at_; omega, h.lo, h.hi⟩⟩
  obtain ⟨v, c1, e1, l1, u1, k1⟩ := d_next c B h (by omega)
  have hn0 : ¬ n = 0 := by omega
  by_cases h2 : 200 < n
  · obtain ⟨v2, c2, e2, l2, u2, k2⟩ := d_next c1 (B + 1) k1 (by omega)
    have w1 : IntKind.i64.wrap (v * 256) = v * 256 := wrap_id (by omega) (by omega)
    have w2 : IntKind.i64.wrap (v * 256 + v2) = v * 256 + v2 := wrap_id (by omega) (by omega)
    refine ⟨(v * 256 + v2).tmod n, c2, by simp [h1, h2, e1, e2, w1, w2, hn0], Int.tmod_nonneg _ (by omega), .inl (Int.tmod_lt_of_pos _ (by omega)), k2⟩
  · refine ⟨v.tmod n, c1, by simp [h1, h2, e1, hn0], Int.tmod_nonneg _ l1, .inl (Int.tmod_lt_of_pos _ (by omega)), ⟨k1.by_, k1.len, by have := k1.at_; omega, k1.lo, k1.hi⟩⟩
theorem d_one (c : Cur) (n : Int) (B : Nat) (h : c.ok B) (hB : B ≤ 100000000000) (hn : n ≤ 1000000000) : ∃ (b : Bool) (c' : Cur), F_spec_l1Cur_one [curD c, I n] = some (.ret [.v (.bool b)] [curD c']) ∧ c'.ok (B + 2) := by
  rw [t_spec_l1Cur_one]
  obtain ⟨v, c1, e1, l1, u1, k1⟩ := d_pick c n B h hB hn
  exact ⟨_, c1, by simp [e1]; rfl, k1⟩
abbrev intsD (l : List Int) : D := .arr 1 (l.map I)
theorem d_among (c : Cur) (l : List Int) (B : Nat) (h : c.ok B) (hB : B ≤ 100000000000) (hl : l ≠ []) (hn : l.length ≤ 1000000000) : ∃ v c', F_spec_l1Cur_among [curD c, intsD l] = some (.ret [I v] [curD c']) ∧ v ∈ l ∧ c'.ok (B + 2) := by
  rw [t_spec_l1Cur_among]
  have hp : 0 < l.length := List.length_pos_iff.2 hl
  obtain ⟨v, c1, e1, l1, u1, k1⟩ := d_pick c l.length B h hB (by omega)
  obtain ⟨i, rfl⟩ := Int.eq_ofNat_of_zero_le l1
  have hi : i < l.length := by omega
  exact ⟨l[i], c1, by simp [e1, hi], List.getElem_mem hi, k1⟩

end Go.Proofs.Ytkhggkbmjdopcaa
