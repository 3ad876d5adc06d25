/-
  Draws of cases and of codes.
-/
import Derived.Test.YtbbfddflmnclaaaDoorRows
import Derived.Test.YtbbfddflmnclaaaDoorTie
import Derived.Test.YtbbfddflmnclaaaDoorCards
import Derived.Test.YtbbfddflmnclaaaDoorM6
import Derived.Laws.Bits64b
namespace Go.Proofs.YtbbfddflmnclaaaDoor
open Go Go.V
set_option linter.unusedSimpArgs false

structure Cur where
  code : List Int
  at_ : Nat
  seed : Int
abbrev bytesD (l : List Int) : D := .arr 1 (l.map U)
abbrev curD (c : Cur) : D := .agg [bytesD c.code, I c.at_, .v (.int .u64 c.seed)]
structure Cur.ok (c : Cur) (B : Nat) : Prop where
  by_ : ∀ n ∈ c.code, 0 ≤ n ∧ n ≤ 255
  len : c.code.length ≤ 9223372036854775807
  at_ : c.at_ ≤ B
  lo : 0 ≤ c.seed
  hi : c.seed < 18446744073709551616

theorem convD_i64 {k : IntKind} {n : Int} : convD (some .i64) false (.v (.int k n)) = some (I (IntKind.i64.wrap n)) := rfl
theorem convD_u64 {k : IntKind} {n : Int} : convD (some .u64) false (.v (.int k n)) = some (.v (.int .u64 (IntKind.u64.wrap n))) := rfl
theorem bin_shr40 {n : Int} {bl : Bool} {eq : List Nat} : bin .shr bl eq (.v (.int .u64 n)) (.v (.int .u64 40)) = some (.v (.int .u64 (n.fdiv 1099511627776))) := by
  simp [bin, IntKind.bits]
theorem bin_and {a b : Int} {bl : Bool} {eq : List Nat} : bin .and bl eq (.v (.int .u64 a)) (.v (.int .u64 b)) = some (.v (.int .u64 (bits .and .u64 a b))) := by simp [bin, intBin]
theorem and255 {n : Int} (h0 : 0 ≤ n) (h1 : n < 18446744073709551616) : 0 ≤ bits .and .u64 n 255 ∧ bits .and .u64 n 255 ≤ 255 := by
  obtain ⟨m, rfl⟩ := Int.eq_ofNat_of_zero_le h0
  have := bits_and_u64_nat m 255 (by omega) (by omega)
  rw [show ((255 : Int)) = ((255 : Nat) : Int) from rfl, this]
  have h2 : m &&& 255 ≤ 255 := Nat.and_le_right
  omega
theorem wrap64 (n : Int) : 0 ≤ IntKind.u64.wrap n ∧ IntKind.u64.wrap n < 18446744073709551616 := by
  rw [IntKind.wrap_u64]
  omega

def seedOf (s n : Int) : Int := IntKind.u64.wrap (IntKind.u64.wrap (IntKind.u64.wrap (s * 6364136223846793005) + IntKind.u64.wrap n) + 1442695040888963407)
def topOf (s : Int) : Int := bits .and .u64 (s.fdiv 1099511627776) 255
theorem seedOf_in (s n : Int) : 0 ≤ seedOf s n ∧ seedOf s n < 18446744073709551616 := wrap64 _
theorem topOf_in {s : Int} (h0 : 0 ≤ s) (h1 : s < 18446744073709551616) : 0 ≤ topOf s ∧ topOf s ≤ 255 := by
  unfold topOf
  rw [Int.fdiv_eq_ediv_of_nonneg _ (by omega)]
  exact and255 (by omega) (by omega)
theorem seed_run {s n : Int} : ((bin BinOp.mul false [] (.v (.int .u64 s)) (.v (.int .u64 6364136223846793005))).bind fun x => (bin BinOp.add false [] x (.v (.int .u64 (IntKind.u64.wrap n)))).bind fun y => bin BinOp.add false [] y (.v (.int .u64 1442695040888963407))) = some (.v (.int .u64 (seedOf s n))) := by
  simp only [bin_mul, bin_add, Option.bind_some, seedOf]
theorem next1 (c : Cur) (B : Nat) (h : c.ok B) (hB : B ≤ 1000000000000) (hc : c.at_ < c.code.length) : F_spec_l1Cur_next [curD c] = some (.ret [I c.code[c.at_]] [curD ⟨c.code, c.at_ + 1, seedOf c.seed c.code[c.at_]⟩]) := by
  have hl := h.len
  have ha := h.at_
  have hw : IntKind.i64.wrap ((c.at_ : Int) + 1) = (c.at_ : Int) + 1 := wrap_id (by omega) (by omega)
  have hn := h.by_ c.code[c.at_] (List.getElem_mem hc)
  have hv : IntKind.i64.wrap c.code[c.at_] = c.code[c.at_] := wrap_id (by omega) (by omega)
  have hle : (c.at_ : Int) + 1 ≤ (c.code.length : Int) := by omega
  rw [t_spec_l1Cur_next]
  simp -implicitDefEqProofs [hc, hw, hv, hle, convD_i64, convD_u64, seedOf]
theorem next2 (c : Cur) (B : Nat) (h : c.ok B) (hB : B ≤ 1000000000000) (hc : ¬ c.at_ < c.code.length) : F_spec_l1Cur_next [curD c] = some (.ret [I (topOf (seedOf c.seed 0))] [curD ⟨c.code, c.at_ + 1, seedOf c.seed 0⟩]) := by
  have hl := h.len
  have ha := h.at_
  have hw : IntKind.i64.wrap ((c.at_ : Int) + 1) = (c.at_ : Int) + 1 := wrap_id (by omega) (by omega)
  have hle : ¬ (c.at_ : Int) + 1 ≤ (c.code.length : Int) := by omega
  have hq := topOf_in (seedOf_in c.seed 0).1 (seedOf_in c.seed 0).2
  have hv : IntKind.i64.wrap (topOf (seedOf c.seed 0)) = topOf (seedOf c.seed 0) := wrap_id (by omega) (by omega)
  unfold topOf seedOf at hv
  rw [t_spec_l1Cur_next]
  simp -implicitDefEqProofs [hc, hw, hle, convD_i64, convD_u64, bin_shr40, bin_and, hv, seedOf, topOf]
theorem d_next (c : Cur) (B : Nat) (h : c.ok B) (hB : B ≤ 1000000000000) : ∃ v c', F_spec_l1Cur_next [curD c] = some (.ret [I v] [curD c']) ∧ 0 ≤ v ∧ v ≤ 255 ∧ c'.ok (B + 1) := by
  have ha := h.at_
  by_cases hc : c.at_ < c.code.length
  · have hn := h.by_ c.code[c.at_] (List.getElem_mem hc)
    exact ⟨_, _, next1 c B h hB hc, hn.1, hn.2, ⟨h.by_, h.len, Nat.succ_le_succ ha, (seedOf_in _ _).1, (seedOf_in _ _).2⟩⟩
  · have hq := topOf_in (seedOf_in c.seed 0).1 (seedOf_in c.seed 0).2
    exact ⟨_, _, next2 c B h hB hc, hq.1, hq.2, ⟨h.by_, h.len, Nat.succ_le_succ ha, (seedOf_in _ _).1, (seedOf_in _ _).2⟩⟩

theorem d_pick (c : Cur) (n : Int) (B : Nat) (h : c.ok B) (hB : B ≤ 100000000000) (hn : n ≤ 1000000000) : ∃ v c', F_spec_l1Cur_pick [curD c, I n] = some (.ret [I v] [curD c']) ∧ 0 ≤ v ∧ (v < n ∨ v = 0) ∧ c'.ok (B + 2) := by
  rw [t_spec_l1Cur_pick]
  by_cases h1 : n ≤ 1
  · exact ⟨0, c, by simp [h1], by omega, .inr rfl, ⟨h.by_, h.len, by have := h.at_; omega, h.lo, h.hi⟩⟩
  obtain ⟨v, c1, e1, l1, u1, k1⟩ := d_next c B h (by omega)
  have hn0 : ¬ n = 0 := by omega
  by_cases h2 : 200 < n
  · obtain ⟨v2, c2, e2, l2, u2, k2⟩ := d_next c1 (B + 1) k1 (by omega)
    have w1 : IntKind.i64.wrap (v * 256) = v * 256 := wrap_id (by omega) (by omega)
    have w2 : IntKind.i64.wrap (v * 256 + v2) = v * 256 + v2 := wrap_id (by omega) (by omega)
    refine ⟨(v * 256 + v2).tmod n, c2, by simp [h1, h2, e1, e2, w1, w2, hn0], Int.tmod_nonneg _ (by omega), .inl (Int.tmod_lt_of_pos _ (by omega)), k2⟩
  · refine ⟨v.tmod n, c1, by simp [h1, h2, e1, hn0], Int.tmod_nonneg _ l1, .inl (Int.tmod_lt_of_pos _ (by omega)), ⟨k1.by_, k1.len, by have := k1.at_; omega, k1.lo, k1.hi⟩⟩
theorem d_one (c : Cur) (n : Int) (B : Nat) (h : c.ok B) (hB : B ≤ 100000000000) (hn : n ≤ 1000000000) : ∃ (b : Bool) (c' : Cur), F_spec_l1Cur_one [curD c, I n] = some (.ret [.v (.bool b)] [curD c']) ∧ c'.ok (B + 2) := by
  rw [t_spec_l1Cur_one]
  obtain ⟨v, c1, e1, l1, u1, k1⟩ := d_pick c n B h hB hn
  exact ⟨_, c1, by simp [e1]; rfl, k1⟩
abbrev intsD (l : List Int) : D := .arr 1 (l.map I)
theorem d_among (c : Cur) (l : List Int) (B : Nat) (h : c.ok B) (hB : B ≤ 100000000000) (hl : l ≠ []) (hn : l.length ≤ 1000000000) : ∃ v c', F_spec_l1Cur_among [curD c, intsD l] = some (.ret [I v] [curD c']) ∧ v ∈ l ∧ c'.ok (B + 2) := by
  rw [t_spec_l1Cur_among]
  have hp : 0 < l.length := List.length_pos_iff.2 hl
  obtain ⟨v, c1, e1, l1, u1, k1⟩ := d_pick c l.length B h hB (by omega)
  obtain ⟨i, rfl⟩ := Int.eq_ofNat_of_zero_le l1
  have hi : i < l.length := by omega
  exact ⟨l[i], c1, by simp [e1, hi], List.getElem_mem hi, k1⟩

theorem Cur.ok.mono {c : Cur} {B C : Nat} (h : c.ok B) (hBC : B ≤ C) : c.ok C := ⟨h.by_, h.len, Nat.le_trans h.at_ hBC, h.lo, h.hi⟩
theorem mkInts {l : List Int} : mkArr 1 (l.map I) = some (intsD l) := by
  have : lenOkD 1 (l.map I).length (l.map I) = true := by
    unfold lenOkD
    simp
  simp only [mkArr, this, if_true]
theorem mkTxs {l : List ByteArray} : mkArr 1 (l.map T) = some (txs l) := by
  have : lenOkD 1 (l.map T).length (l.map T) = true := by
    unfold lenOkD
    simp
  simp only [mkArr, this, if_true]
theorem bldCur (l : List Int) : bldD [(0, 1)] [D.arr 1 [], I 0, D.v (.int .u64 0)] [bytesD l] = some (.agg [bytesD l, I 0, D.v (.int .u64 0)]) := by
  simp [bldD, fillD]
structure Bytes (l : List Int) : Prop where
  by_ : ∀ n ∈ l, 0 ≤ n ∧ n ≤ 255
  len : l.length ≤ 9223372036854775807
theorem cur0 {l : List Int} (h : Bytes l) : Cur.ok ⟨l, 0, 0⟩ 0 := ⟨h.by_, h.len, Nat.le_refl _, Int.le_refl 0, show (0 : Int) < 18446744073709551616 by decide⟩
abbrev curZ (l : List Int) : D := .agg [bytesD l, I 0, .v (.int .u64 0)]
theorem d_of (c : Cur) (l : List ByteArray) (B : Nat) (h : c.ok B) (hB : B ≤ 100000000000) (hl : l ≠ []) (hn : l.length ≤ 1000000000) : ∃ v c', F_spec_l1Cur_of [curD c, txs l] = some (.ret [T v] [curD c']) ∧ v ∈ l ∧ c'.ok (B + 2) := by
  rw [t_spec_l1Cur_of]
  have hp : 0 < l.length := List.length_pos_iff.2 hl
  obtain ⟨v, c1, e1, l1, u1, k1⟩ := d_pick c l.length B h hB (by omega)
  obtain ⟨i, rfl⟩ := Int.eq_ofNat_of_zero_le l1
  have hi : i < l.length := by omega
  exact ⟨l[i], c1, by simp [e1, hi], List.getElem_mem hi, k1⟩

/-! ### fonts -/
abbrev so2 (x : ByteArray × Int) : D := .agg [T x.1, I x.2]
abbrev sos (f : List (ByteArray × Int)) : D := .arr 2 (f.map so2)
theorem isV_so2 (x : ByteArray × Int) : (so2 x).isV = true := rfl
theorem sos_app (f : List (ByteArray × Int)) (x : ByteArray × Int) (h : f.length ≤ 1048576) : appD 2 24 (sos f) (sos [x]) = some (sos (f ++ [x])) := by
  rw [appD_eq, if_pos (by simp only [List.length_map, List.length_singleton]; omega), ← List.map_append]
def L12 : List ByteArray := [⟨⟨[97]⟩⟩, ⟨⟨[97, 98]⟩⟩, ⟨⟨[97, 98, 99]⟩⟩, ⟨⟨[98]⟩⟩, ⟨⟨[98, 98]⟩⟩, ⟨⟨[99]⟩⟩, ⟨⟨[100]⟩⟩, ⟨⟨[101]⟩⟩, ⟨⟨[102]⟩⟩, ⟨⟨[102, 102]⟩⟩, ⟨⟨[102, 105]⟩⟩, ⟨⟨[105]⟩⟩]
theorem L12_len : L12.length = 12 := rfl
theorem L12_size : ∀ s ∈ L12, s.size = 1 ∨ s.size = 2 ∨ s.size = 3 := by
  intro s hs
  simp only [L12, List.mem_cons, List.not_mem_nil, or_false] at hs
  rcases hs with rfl | rfl | rfl | rfl | rfl | rfl | rfl | rfl | rfl | rfl | rfl | rfl
  · exact .inl rfl
  · exact .inr (.inl rfl)
  · exact .inr (.inr rfl)
  · exact .inl rfl
  · exact .inr (.inl rfl)
  · exact .inl rfl
  · exact .inl rfl
  · exact .inl rfl
  · exact .inl rfl
  · exact .inr (.inl rfl)
  · exact .inr (.inl rfl)
  · exact .inl rfl
theorem bldS (a : ByteArray) (n : Int) : bldD [(0, 1), (1, 1)] [T ⟨#[]⟩, I 0] [T a, I n] = some (so2 (a, n)) := by simp [bldD, fillD]
theorem d_font (c : Cur) (B : Nat) (h : c.ok B) (hB : B ≤ 1000000000) : ∃ (f : List (ByteArray × Int)) (c' : Cur), F_spec_l1Cur_font [curD c] = some (.ret [sos f] [curD c']) ∧ (1 ≤ f.length ∧ f.length ≤ 12) ∧ (∀ x ∈ f, x.1.size ≤ 3) ∧ c'.ok (B + 100) := by
  rw [t_spec_l1Cur_font]
  have m12 : mkArr 1 [T ⟨⟨[97]⟩⟩, T ⟨⟨[97, 98]⟩⟩, T ⟨⟨[97, 98, 99]⟩⟩, T ⟨⟨[98]⟩⟩, T ⟨⟨[98, 98]⟩⟩, T ⟨⟨[99]⟩⟩, T ⟨⟨[100]⟩⟩, T ⟨⟨[101]⟩⟩, T ⟨⟨[102]⟩⟩, T ⟨⟨[102, 102]⟩⟩, T ⟨⟨[102, 105]⟩⟩, T ⟨⟨[105]⟩⟩] = some (txs L12) := mkTxs (l := L12)
  simp -implicitDefEqProofs only [m12, Option.bind_some, lenD_arr, List.length_map]
  refine loop_wf_bind (fun X => ∃ f c', X = some (.ret [sos f] [curD c']) ∧ (1 ≤ f.length ∧ f.length ≤ 12) ∧ (∀ x ∈ f, x.1.size ≤ 3) ∧ c'.ok (B + 100)) (fun a : Cur × List (ByteArray × Int) × Nat => [curD a.1, sos a.2.1, txs L12, I L12.length, I a.2.2])
    (fun a => a.1.ok (B + 8 * a.2.2) ∧ a.2.1.length ≤ a.2.2 ∧ a.2.2 ≤ 12 ∧ ∀ x ∈ a.2.1, x.1.size ≤ 3) (fun a => 12 - a.2.2) (fun o => ∃ (c' : Cur) (f : List (ByteArray × Int)), o = .ext 0 [curD c', sos f] ∧ c'.ok (B + 96) ∧ f.length ≤ 12 ∧ ∀ x ∈ f, x.1.size ≤ 3) (fun a hI => ?_) (c, [], 0) ⟨h.mono (by omega), by simp, by simp, by simp⟩ rfl (fun o ho => ?_)
  · obtain ⟨ca, fa, i⟩ := a
    obtain ⟨h1, h2, h3, h4⟩ := hI
    simp only at h1 h2 h3 h4
    have hL := L12_len
    by_cases hlt : i < L12.length
    · have hs := L12_size L12[i] (List.getElem_mem hlt)
      have hw : IntKind.i64.wrap ((i : Int) + 1) = (i : Int) + 1 := wrap_id (by omega) (by omega)
      have add : ∀ (ca2 : Cur), ca2.ok (B + 8 * i + 2) → ∃ (x : ByteArray × Int) (ca3 : Cur), (x.1 = L12[i] ∧ ca3.ok (B + 8 * (i + 1))) ∧ ∃ v : Int, F_spec_l1Cur_pick [curD ca2, I 4] = some (.ret [I v] [curD ca3]) ∧ (x.2 = IntKind.i64.wrap (4 + IntKind.i64.wrap ((L12[i].size : Int) * IntKind.i64.wrap (2 + v)))) := fun ca2 hk => by
        obtain ⟨v, c3, e3, _, _, k3⟩ := d_pick ca2 4 _ hk (by omega) (by omega)
        exact ⟨(L12[i], _), c3, ⟨rfl, k3.mono (by omega)⟩, v, e3, rfl⟩
      have app1 : ∀ x : ByteArray × Int, appD 2 24 (sos fa) (sos [x]) = some (sos (fa ++ [x])) := fun x => sos_app fa x (by omega)
      have mk1 : ∀ x : ByteArray × Int, mkArr 2 [so2 x] = some (sos [x]) := fun x => by simp [mkArr, lenOkD]
      have ck1 : ∀ x : ByteArray × Int, chkA (sos [x]) = some (sos [x]) := fun x => chkA_map isV_so2
      have grow : ∀ (x : ByteArray × Int) (c3 : Cur), x.1 = L12[i] → c3.ok (B + 8 * (i + 1)) → (c3.ok (B + 8 * (i + 1)) ∧ (fa ++ [x]).length ≤ i + 1 ∧ i + 1 ≤ 12 ∧ ∀ y ∈ fa ++ [x], y.1.size ≤ 3) := fun x c3 hx hk => ⟨hk, by simp; omega, by omega, fun y hy => by
        rcases List.mem_append.1 hy with hy | hy
        · exact h4 y hy
        · simp at hy
          subst hy
          rw [hx]
          omega⟩
      rcases hs with hs | hs
      · obtain ⟨b, c2, e2, k2⟩ := d_one ca 12 _ h1 (by omega) (by omega)
        cases b
        · obtain ⟨x, c3, ⟨hx, hk⟩, v, e3, hv⟩ := add c2 k2
          refine .inl ⟨(c3, fa ++ [x], i + 1), ?_, grow x c3 hx hk, by simp; omega⟩
          obtain ⟨xa, xb⟩ := x
          simp only at hx hv
          subst hx hv
          simp -implicitDefEqProofs [hlt, hs, hw, e2, e3, bldS, mk1, ck1, app1, -appD_eq]
        · refine .inl ⟨(c2, fa, i + 1), ?_, ⟨k2.mono (by simp; omega), by simp; omega, by simp; omega, h4⟩, by simp; omega⟩
          simp -implicitDefEqProofs [hlt, hs, hw, e2]
      · have hs1 : ¬ (L12[i].size : Int) = 1 := by omega
        have hs2 : (1 : Int) < (L12[i].size : Int) := by omega
        obtain ⟨b, c2, e2, k2⟩ := d_one ca 3 _ h1 (by omega) (by omega)
        cases b
        · refine .inl ⟨(c2, fa, i + 1), ?_, ⟨k2.mono (by simp; omega), by simp; omega, by simp; omega, h4⟩, by simp; omega⟩
          simp -implicitDefEqProofs [hlt, hs1, hs2, hw, e2]
        · obtain ⟨x, c3, ⟨hx, hk⟩, v, e3, hv⟩ := add c2 k2
          refine .inl ⟨(c3, fa ++ [x], i + 1), ?_, grow x c3 hx hk, by simp; omega⟩
          obtain ⟨xa, xb⟩ := x
          simp only at hx hv
          subst hx hv
          simp -implicitDefEqProofs [hlt, hs1, hs2, hw, e2, e3, bldS, mk1, ck1, app1, -appD_eq]
    · refine .inr ⟨.ext 0 [curD ca, sos fa], ?_, rfl, ca, fa, rfl, h1.mono (by omega), by omega, h4⟩
      simp -implicitDefEqProofs [hlt]
  · obtain ⟨c1, f, rfl, k1, k2, k3⟩ := ho
    by_cases h0 : f = []
    · refine ⟨[(⟨⟨[97]⟩⟩, 9)], c1, ?_, by simp, fun x hx => by
        simp at hx
        subst hx
        show 1 ≤ 3
        omega, k1.mono (by omega)⟩
      have mk1 : mkArr 2 [so2 (⟨⟨[97]⟩⟩, 9)] = some (sos [(⟨⟨[97]⟩⟩, 9)]) := by simp [mkArr, lenOkD]
      simp -implicitDefEqProofs [h0, bldS, mk1]
    · have hp : 0 < f.length := List.length_pos_iff.2 h0
      refine ⟨f, c1, ?_, ⟨hp, k2⟩, k3, k1.mono (by omega)⟩
      simp -implicitDefEqProofs [h0]

/-! ### cases -/
theorem bldB (a : ByteArray) (r c n : Int) : bldD [(0, 1), (1, 1), (2, 1), (3, 1)] [T ⟨#[]⟩, I 0, I 0, I 0] [T a, I r, I c, I n] = some (bx (a, r, c, n)) := by simp [bldD, fillD]
theorem bxs_app (l : List Bx) (x : Bx) (h : l.length ≤ 1048576) : appD 4 40 (bxs l) (bxs [x]) = some (bxs (l ++ [x])) := by
  rw [appD_eq, if_pos (by simp only [List.length_map, List.length_singleton]; omega), ← List.map_append]
theorem bx_one (x : Bx) : mkArr 4 [bx x] = some (bxs [x]) := by simp [mkArr, lenOkD]
theorem bx_chk (x : Bx) : chkA (bxs [x]) = some (bxs [x]) := chkA_map isV_bx
structure SmallC (l : List Bx) (n : Nat) : Prop where
  len : l.length ≤ n
  size : ∀ x ∈ l, x.1.size ≤ 3
theorem SmallC.snoc {l : List Bx} {n : Nat} (h : SmallC l n) {x : Bx} (hx : x.1.size ≤ 3) : SmallC (l ++ [x]) (n + 1) := ⟨by have := h.len; simp; omega, fun y hy => by
  rcases List.mem_append.1 hy with hy | hy
  · exact h.size y hy
  · simp at hy
    subst hy
    exact hx⟩
theorem d_boxes (c : Cur) (f : List (ByteArray × Int)) (B : Nat) (h : c.ok B) (hB : B ≤ 1000000000) (hf : f.length ≤ 12) (hs : ∀ x ∈ f, x.1.size ≤ 3) : ∃ (l : List Bx) (c' : Cur), F_spec_l1Cur_boxes [curD c, sos f] = some (.ret [bxs l] [curD c']) ∧ l.length = f.length ∧ SmallC l 12 ∧ c'.ok (B + 100) := by
  rw [t_spec_l1Cur_boxes]
  obtain ⟨v1, c1, e1, l1, u1, k1⟩ := d_pick c 20 B h (by omega) (by omega)
  simp -implicitDefEqProofs only [liveD_agg, Option.bind_some, ref0_eq, e1, callK_ret, sl_zero, lenD_arr, List.length_map]
  have m1 := mkInts (l := [0, 1, 2, 5, 20])
  simp only [List.map_cons, List.map_nil] at m1
  refine loop_wf_bind (fun X => ∃ l c', X = some (.ret [bxs l] [curD c']) ∧ l.length = f.length ∧ SmallC l 12 ∧ c'.ok (B + 100)) (fun a : Cur × List Bx × Int => [curD a.1, bxs a.2.1, I a.2.2, sos f, I f.length, I a.2.1.length])
    (fun a => a.1.ok (B + 2 + 4 * a.2.1.length) ∧ a.2.1.length ≤ f.length ∧ SmallC a.2.1 a.2.1.length) (fun a => 12 - a.2.1.length) (fun o => ∃ (c' : Cur) (l : List Bx), o = .ext 0 [curD c', bxs l] ∧ c'.ok (B + 96) ∧ l.length = f.length ∧ SmallC l l.length) (fun a hI => ?_) (c1, [], v1) ⟨k1.mono (by simp), by simp, ⟨by simp, by simp⟩⟩ rfl (fun o ho => ?_)
  · obtain ⟨ca, la, da⟩ := a
    obtain ⟨h1, h2, h3⟩ := hI
    simp only at h1 h2 h3
    by_cases hlt : la.length < f.length
    · obtain ⟨v2, c2, e2, _, k2⟩ := d_among ca [0, 1, 2, 5, 20] _ h1 (by omega) (by simp) (by simp)
      obtain ⟨v3, c3, e3, _, _, k3⟩ := d_pick c2 2 _ k2 (by omega) (by omega)
      have hw : IntKind.i64.wrap ((la.length : Int) + 1) = (la.length : Int) + 1 := wrap_id (by omega) (by omega)
      have ap := bxs_app la (f[la.length].1, (IntKind.i64.wrap (da.tdiv 10)).tmod 10, da.tmod 10, v2) (by omega)
      refine .inl ⟨(c3, la ++ [(f[la.length].1, (IntKind.i64.wrap (da.tdiv 10)).tmod 10, da.tmod 10, v2)], IntKind.i64.wrap (da + IntKind.i64.wrap (1 + v3))), ?_, ⟨k3.mono (by simp; omega), by simp; omega, ?_⟩, by simp; omega⟩
      · simp -implicitDefEqProofs [hlt, e2, e3, hw, m1, bldB, bx_one, bx_chk, ap, -appD_eq, -List.map_cons]
      · have := h3.snoc (x := (f[la.length].1, (IntKind.i64.wrap (da.tdiv 10)).tmod 10, da.tmod 10, v2)) (hs _ (List.getElem_mem hlt))
        simpa using this
    · refine .inr ⟨.ext 0 [curD ca, bxs la], ?_, rfl, ca, la, rfl, h1.mono (by omega), by omega, h3⟩
      simp -implicitDefEqProofs [hlt]
  · obtain ⟨c2, l, rfl, g1, g2, g3⟩ := ho
    refine ⟨l, c2, ?_, g2, ⟨by omega, g3.size⟩, g1.mono (by omega)⟩
    simp -implicitDefEqProofs
theorem set_code (l : List Bx) (i : Nat) (s : ByteArray) (hi : i < l.length) : stD 1 (bxs l) (.ref i 0) (T s) = some (bxs (l.set i (s, l[i].2.1, l[i].2.2.1, l[i].2.2.2))) := by
  rw [stD_part (c := [T l[i].1, I l[i].2.1, I l[i].2.2.1, I l[i].2.2.2]) (by simp [hi]) (by simp)]
  simp [List.map_set]
theorem set_count (l : List Bx) (i : Nat) (v : Int) (hi : i < l.length) : stD 1 (bxs l) (.ref i 3) (I v) = some (bxs (l.set i (l[i].1, l[i].2.1, l[i].2.2.1, v))) := by
  rw [stD_part (c := [T l[i].1, I l[i].2.1, I l[i].2.2.1, I l[i].2.2.2]) (by simp [hi]) (by simp)]
  simp [List.map_set]
theorem SmallC.set {l : List Bx} {n : Nat} (h : SmallC l n) {i : Nat} {x : Bx} (hx : x.1.size ≤ 3) : SmallC (l.set i x) n := ⟨by have := h.len; simp; omega, fun y hy => by
  rcases List.mem_or_eq_of_mem_set hy with hy | rfl
  · exact h.size y hy
  · exact hx⟩
theorem SmallC.mono {l : List Bx} {n m : Nat} (h : SmallC l n) (hn : n ≤ m) : SmallC l m := ⟨Nat.le_trans h.len hn, h.size⟩
def twoB (a b : Int) : ByteArray := ⟨#[UInt8.ofNat a.toNat, UInt8.ofNat b.toNat]⟩
theorem twoB_size (a b : Int) : (twoB a b).size ≤ 3 := by show 2 ≤ 3; omega
theorem strD_two (a b : Int) : strD (.arr 1 [U a, U b]) = some (T (twoB a b)) := rfl
theorem convD_u8 {k : IntKind} {n : Int} : convD (some .u8) false (.v (.int k n)) = some (U (IntKind.u8.wrap n)) := rfl
theorem d_anyCase (c : Cur) (B : Nat) (h : c.ok B) (hB : B ≤ 100000000) : ∃ (l : List Bx) (c' : Cur), F_spec_l1Cur_anyCase [curD c] = some (.ret [bxs l] [curD c']) ∧ SmallC l 40 ∧ c'.ok (B + 400) := by
  obtain ⟨f, c1, e1, ⟨f1, f2⟩, f3, k1⟩ := d_font c B h (by omega)
  obtain ⟨l, c2, e2, q1, q2, k2⟩ := d_boxes c1 f _ k1 (by omega) f2 f3
  obtain ⟨v3, c3, e3, l3, u3, k3⟩ := d_pick c2 l.length _ k2 (by omega) (by omega)
  obtain ⟨k, rfl⟩ := Int.eq_ofNat_of_zero_le l3
  have hk : k < l.length := by omega
  obtain ⟨v4, c4, e4, l4, u4, k4⟩ := d_pick c3 30 _ k3 (by omega) (by omega)
  have m1 := mkInts (l := [10, -1, 9])
  have m2 := mkInts (l := [9999, 10000, -1])
  have m3 := mkTxs (l := [⟨#[]⟩, ⟨⟨[97]⟩⟩, ⟨⟨[122, 122]⟩⟩])
  simp only [List.map_cons, List.map_nil] at m1 m2 m3
  rw [t_spec_l1Cur_anyCase]
  by_cases h0 : v4 = 0
  · obtain ⟨v5, c5, e5, _, k5⟩ := d_among c4 [10, -1, 9] _ k4 (by omega) (by simp) (by simp)
    have hs := set_row l k v5 hk
    exact ⟨l.set k (l[k].1, v5, l[k].2.2.1, l[k].2.2.2), c5, by simp -implicitDefEqProofs [e1, e2, e3, e4, h0, m1, e5, hk, hs, -List.map_cons], (q2.mono (by omega)).set (show l[k].1.size ≤ 3 from q2.size _ (List.getElem_mem hk)), k5.mono (by omega)⟩
  by_cases h1 : v4 = 1
  · obtain ⟨v5, c5, e5, _, k5⟩ := d_among c4 [9999, 10000, -1] _ k4 (by omega) (by simp) (by simp)
    have hs := set_count l k v5 hk
    exact ⟨l.set k (l[k].1, l[k].2.1, l[k].2.2.1, v5), c5, by simp -implicitDefEqProofs [e1, e2, e3, e4, h0, h1, m2, e5, hk, hs, -List.map_cons], (q2.mono (by omega)).set (show l[k].1.size ≤ 3 from q2.size _ (List.getElem_mem hk)), k5.mono (by omega)⟩
  by_cases h2 : v4 = 2
  · obtain ⟨v5, c5, e5, h5, k5⟩ := d_of c4 [⟨#[]⟩, ⟨⟨[97]⟩⟩, ⟨⟨[122, 122]⟩⟩] _ k4 (by omega) (by simp) (by simp)
    have hs := set_code l k v5 hk
    have hz : v5.size ≤ 3 := by
      simp only [List.mem_cons, List.not_mem_nil, or_false] at h5
      rcases h5 with rfl | rfl | rfl
      · show 0 ≤ 3; omega
      · show 1 ≤ 3; omega
      · show 2 ≤ 3; omega
    exact ⟨l.set k (v5, l[k].2.1, l[k].2.2.1, l[k].2.2.2), c5, by simp -implicitDefEqProofs [e1, e2, e3, e4, h0, h1, h2, m3, e5, hk, hs, -List.map_cons], (q2.mono (by omega)).set hz, k5.mono (by omega)⟩
  by_cases h3 : v4 = 3
  · have hs := take_bxs (l := l) (i := 0) (Nat.zero_le _)
    refine ⟨[], c4, ?_, ⟨by simp, by simp⟩, k4.mono (by omega)⟩
    simp -implicitDefEqProofs [e1, e2, e3, e4, h0, h1, h2, h3]
    simp [sliceD]
  by_cases h4 : v4 = 4
  · obtain ⟨v5, c5, e5, l5, u5, k5⟩ := d_pick c4 2 _ k4 (by omega) (by omega)
    have hw5 : IntKind.i64.wrap (32 + v5) = 32 + v5 := wrap_id (by omega) (by omega)
    subst h4
    simp -implicitDefEqProofs [e1, e2, e3, e4, e5, hw5]
    refine loop_wf_bind (fun X => ∃ l c', X = some (.ret [bxs l] [curD c']) ∧ SmallC l 40 ∧ c'.ok (B + 400)) (fun a : List Bx => [curD c5, bxs a, I (32 + v5)])
      (fun a => (a.length : Int) ≤ 32 + v5 ∧ SmallC a a.length) (fun a => 40 - a.length) (fun o => ∃ l : List Bx, o = .ext 1 [curD c5, bxs l] ∧ SmallC l 40) (fun a hI => ?_) [] ⟨by simp; omega, ⟨by simp, by simp⟩⟩ rfl (fun o ho => ?_)
    · obtain ⟨g1, g2⟩ := hI
      by_cases hlt : (a.length : Int) < 32 + v5
      · have ma : ∀ x y : Int, mkArr 1 [U x, U y] = some (.arr 1 [U x, U y]) := fun x y => by simp [mkArr, lenOkD]
        have ap : ∀ x : Bx, appD 4 40 (bxs a) (bxs [x]) = some (bxs (a ++ [x])) := fun x => bxs_app a x (by omega)
        refine .inl ⟨a ++ [(twoB (IntKind.u8.wrap (IntKind.i64.wrap (97 + IntKind.i64.wrap ((a.length : Int).tdiv 6)))) (IntKind.u8.wrap (IntKind.i64.wrap (97 + (a.length : Int).tmod 6))), IntKind.i64.wrap ((a.length : Int).tdiv 10), (a.length : Int).tmod 10, 1)], ?_, ⟨by simp; omega, ?_⟩, by simp; omega⟩
        · simp -implicitDefEqProofs [hlt, convD_u8, ma, strD_two, bldB, bx_one, bx_chk, ap, -appD_eq, -List.map_cons]
        · have := g2.snoc (x := (twoB (IntKind.u8.wrap (IntKind.i64.wrap (97 + IntKind.i64.wrap ((a.length : Int).tdiv 6)))) (IntKind.u8.wrap (IntKind.i64.wrap (97 + (a.length : Int).tmod 6))), IntKind.i64.wrap ((a.length : Int).tdiv 10), (a.length : Int).tmod 10, 1)) (twoB_size _ _)
          rw [List.length_append]
          exact this
      · refine .inr ⟨.ext 1 [curD c5, bxs a], ?_, rfl, a, rfl, g2.mono (by omega)⟩
        simp -implicitDefEqProofs [hlt]
    · obtain ⟨l', rfl, g⟩ := ho
      exact ⟨l', c5, by simp -implicitDefEqProofs, g, k5.mono (by omega)⟩
  exact ⟨l, c4, by simp -implicitDefEqProofs [e1, e2, e3, e4, h0, h1, h2, h3, h4], q2.mono (by omega), k4.mono (by omega)⟩

/-! ### codes -/
theorem mem3 {v : ByteArray} : v ∈ ([⟨⟨[122, 122, 122]⟩⟩, ⟨#[]⟩, ⟨⟨[97]⟩⟩] : List ByteArray) → True := fun _ => trivial
theorem codes_loop (l : List Bx) (n : Int) (hn : 0 ≤ n ∧ n ≤ 100) (c : Cur) (B : Nat) (h : c.ok B) (hB : B ≤ 1000000000) (body : List D → Option Out) (K : Out → Option Out) (R : Option Out → Prop)
    (h1 : ∀ (ca : Cur) (out : List ByteArray) (C : Nat), ca.ok C → C ≤ 2000000000 → (out.length : Int) < n → ∃ (c3 : Cur) (s : ByteArray), body [curD ca, bxs l, txs out, I n] = some (.nrm [curD c3, bxs l, txs (out ++ [s]), I n]) ∧ c3.ok (C + 8))
    (h2 : ∀ (ca : Cur) (out : List ByteArray), ¬ (out.length : Int) < n → body [curD ca, bxs l, txs out, I n] = some (.ext 0 [curD ca, txs out]))
    (h3 : ∀ (ca : Cur) (out : List ByteArray), ca.ok (B + 1000) → out.length ≤ 100 → R (K (.ext 0 [curD ca, txs out]))) : R ((loopC body [curD c, bxs l, txs [], I n]).bind K) := by
  refine loop_wf_bind R (fun a : Cur × List ByteArray => [curD a.1, bxs l, txs a.2, I n]) (fun a => a.1.ok (B + 8 * a.2.length) ∧ (a.2.length : Int) ≤ n) (fun a => 100 - a.2.length) (fun o => ∃ (c' : Cur) (out : List ByteArray), o = .ext 0 [curD c', txs out] ∧ c'.ok (B + 1000) ∧ out.length ≤ 100) (fun a hI => ?_) (c, []) ⟨h.mono (by omega), by simp; omega⟩ rfl (fun o ho => ?_)
  · obtain ⟨ca, out⟩ := a
    obtain ⟨g1, g2⟩ := hI
    simp only at g1 g2
    by_cases hlt : (out.length : Int) < n
    · obtain ⟨c3, s, e, k⟩ := h1 ca out _ g1 (by omega) hlt
      exact .inl ⟨(c3, out ++ [s]), e, ⟨k.mono (by simp; omega), by simp; omega⟩, by simp; omega⟩
    · exact .inr ⟨_, h2 ca out hlt, rfl, ca, out, rfl, g1.mono (by omega), by omega⟩
  · obtain ⟨c', out, rfl, g1, g2⟩ := ho
    exact h3 c' out g1 g2
theorem d_codesOf (c : Cur) (l : List Bx) (B : Nat) (h : c.ok B) (hB : B ≤ 100000000) (hl : SmallC l 40) : ∃ (cs : List ByteArray) (c' : Cur), F_spec_l1Cur_codesOf [curD c, bxs l] = some (.ret [txs cs] [curD c']) ∧ cs.length ≤ 100 ∧ c'.ok (B + 2000) := by
  obtain ⟨v1, c1, e1, l1, u1, k1⟩ := d_pick c 7 B h (by omega) (by omega)
  obtain ⟨b, c2, e2, k2⟩ := d_one c1 12 _ k1 (by omega) (by omega)
  have m3 := mkTxs (l := [⟨⟨[122, 122, 122]⟩⟩, ⟨#[]⟩, ⟨⟨[97]⟩⟩])
  simp only [List.map_cons, List.map_nil] at m3
  have hlen := hl.len
  rw [t_spec_l1Cur_codesOf]
  cases b
  · simp -implicitDefEqProofs only [liveD_agg, Option.bind_some, ref0_eq, e1, e2, callK_ret, sl_zero, ifD_B, Bool.false_eq_true, if_false]
    refine codes_loop l v1 (by omega) c2 _ k2 (by omega) _ _ (fun X => ∃ (cs : List ByteArray) (c' : Cur), X = some (.ret [txs cs] [curD c']) ∧ cs.length ≤ 100 ∧ c'.ok (B + 2000)) (fun ca out C hC hC2 hlt => ?_) (fun ca out hlt => ?_) (fun ca out hk ho => ?_)
    · by_cases h0 : l = []
      · obtain ⟨v3, c3, e3, _, k3⟩ := d_of ca [⟨⟨[122, 122, 122]⟩⟩, ⟨#[]⟩, ⟨⟨[97]⟩⟩] _ hC (by omega) (by simp) (by simp)
        have ap := tx_app out v3 (by omega)
        exact ⟨c3, v3, by simp -implicitDefEqProofs [hlt, h0, m3, e3, tx_one, tx_chk, ap, -appD_eq, -List.map_cons], k3.mono (by omega)⟩
      · obtain ⟨b4, c4, e4, k4⟩ := d_one ca 60 _ hC (by omega) (by omega)
        cases b4
        · obtain ⟨v5, c5, e5, l5, u5, k5⟩ := d_pick c4 l.length _ k4 (by omega) (by omega)
          have hp : 0 < l.length := List.length_pos_iff.2 h0
          obtain ⟨k, rfl⟩ := Int.eq_ofNat_of_zero_le l5
          have hk : k < l.length := by omega
          have ap := tx_app out l[k].1 (by omega)
          exact ⟨c5, l[k].1, by simp -implicitDefEqProofs [hlt, h0, e4, e5, hk, tx_one, tx_chk, ap, -appD_eq, -List.map_cons], k5.mono (by omega)⟩
        · obtain ⟨v3, c3, e3, _, k3⟩ := d_of c4 [⟨⟨[122, 122, 122]⟩⟩, ⟨#[]⟩, ⟨⟨[97]⟩⟩] _ k4 (by omega) (by simp) (by simp)
          have ap := tx_app out v3 (by omega)
          exact ⟨c3, v3, by simp -implicitDefEqProofs [hlt, h0, e4, m3, e3, tx_one, tx_chk, ap, -appD_eq, -List.map_cons], k3.mono (by omega)⟩
    · simp -implicitDefEqProofs [hlt]
    · exact ⟨out, ca, by simp -implicitDefEqProofs, ho, hk.mono (by omega)⟩
  · obtain ⟨v6, c6, e6, l6, u6, k6⟩ := d_pick c2 2 _ k2 (by omega) (by omega)
    have hw : IntKind.i64.wrap (60 + v6) = 60 + v6 := wrap_id (by omega) (by omega)
    simp -implicitDefEqProofs only [liveD_agg, Option.bind_some, ref0_eq, e1, e2, e6, callK_ret, sl_zero, ifD_B, if_true, bin_add, hw]
    refine codes_loop l (60 + v6) (by omega) c6 _ k6 (by omega) _ _ (fun X => ∃ (cs : List ByteArray) (c' : Cur), X = some (.ret [txs cs] [curD c']) ∧ cs.length ≤ 100 ∧ c'.ok (B + 2000)) (fun ca out C hC hC2 hlt => ?_) (fun ca out hlt => ?_) (fun ca out hk ho => ?_)
    · by_cases h0 : l = []
      · obtain ⟨v3, c3, e3, _, k3⟩ := d_of ca [⟨⟨[122, 122, 122]⟩⟩, ⟨#[]⟩, ⟨⟨[97]⟩⟩] _ hC (by omega) (by simp) (by simp)
        have ap := tx_app out v3 (by omega)
        exact ⟨c3, v3, by simp -implicitDefEqProofs [hlt, h0, m3, e3, tx_one, tx_chk, ap, -appD_eq, -List.map_cons], k3.mono (by omega)⟩
      · obtain ⟨b4, c4, e4, k4⟩ := d_one ca 60 _ hC (by omega) (by omega)
        cases b4
        · obtain ⟨v5, c5, e5, l5, u5, k5⟩ := d_pick c4 l.length _ k4 (by omega) (by omega)
          have hp : 0 < l.length := List.length_pos_iff.2 h0
          obtain ⟨k, rfl⟩ := Int.eq_ofNat_of_zero_le l5
          have hk : k < l.length := by omega
          have ap := tx_app out l[k].1 (by omega)
          exact ⟨c5, l[k].1, by simp -implicitDefEqProofs [hlt, h0, e4, e5, hk, tx_one, tx_chk, ap, -appD_eq, -List.map_cons], k5.mono (by omega)⟩
        · obtain ⟨v3, c3, e3, _, k3⟩ := d_of c4 [⟨⟨[122, 122, 122]⟩⟩, ⟨#[]⟩, ⟨⟨[97]⟩⟩] _ k4 (by omega) (by simp) (by simp)
          have ap := tx_app out v3 (by omega)
          exact ⟨c3, v3, by simp -implicitDefEqProofs [hlt, h0, e4, m3, e3, tx_one, tx_chk, ap, -appD_eq, -List.map_cons], k3.mono (by omega)⟩
    · simp -implicitDefEqProofs [hlt]
    · exact ⟨out, ca, by simp -implicitDefEqProofs, ho, hk.mono (by omega)⟩
end Go.Proofs.YtbbfddflmnclaaaDoor
/-
  Numbers as texts; the text of an order.
-/
namespace Go.Proofs.YtbbfddflmnclaaaDoor
open Go Go.V
set_option linter.unusedSimpArgs false

/-! ### numbers -/
/-- The decimal numeral. -/
def numT (u : Nat) : ByteArray := ⟨(Lib.decDigits u).toArray⟩
def intT (n : Int) : ByteArray := ⟨(Lib.itoa n).toArray⟩
theorem intT_nat (u : Nat) : intT (u : Int) = numT u := by
  unfold intT numT
  rw [Lib.itoa_nonneg]
theorem numT_small {u : Nat} (h : u < 10) : numT u = ⟨#[UInt8.ofNat (48 + u)]⟩ := by
  unfold numT
  rw [Lib.decDigits_one h]
theorem numT_big {u : Nat} (h : ¬ u < 10) : numT u = numT (u / 10) ++ ⟨#[UInt8.ofNat (48 + u % 10)]⟩ := by
  unfold numT
  rw [Lib.decDigits, dif_neg h]
  apply ByteArray.ext
  simp
theorem numT_size : ∀ (k u : Nat), u < 10 ^ (k + 1) → (numT u).size ≤ k + 1
  | 0, u, h => by
    rw [numT_small (by simpa using h)]
    exact Nat.le_refl _
  | k + 1, u, h => by
    by_cases hu : u < 10
    · rw [numT_small hu]
      show 1 ≤ k + 1 + 1
      omega
    · rw [numT_big hu, ByteArray.size_append]
      have h1 := numT_size k (u / 10) (by rw [Nat.pow_succ] at h; exact Nat.div_lt_of_lt_mul (by rw [Nat.mul_comm]; exact h))
      have h2 : (⟨#[UInt8.ofNat (48 + u % 10)]⟩ : ByteArray).size = 1 := rfl
      omega
theorem intT_size (k : Nat) {n : Int} (h0 : 0 ≤ n) (h1 : n < 10 ^ (k + 1)) : (intT n).size ≤ k + 1 := by
  obtain ⟨u, rfl⟩ := Int.eq_ofNat_of_zero_le h0
  rw [intT_nat]
  exact numT_size k u (by exact_mod_cast h1)
theorem byte_of (u : Nat) (h : u < 10) : bytesOf [.v (.int .u8 (48 + (u : Int)))] = some [UInt8.ofNat (48 + u)] := by
  have e : (48 + (u : Int)).toNat = 48 + u := by omega
  simp only [bytesOf, e, Option.map_some]
theorem wrap8 (a : Int) (h0 : 0 ≤ a) (h1 : a < 256) : IntKind.u8.wrap a = a := by
  have := Int.emod_eq_of_lt h0 h1
  simpa [IntKind.wrap, IntKind.bits, IntKind.signed] using this
theorem mkArr_u8 (a : Int) : mkArr 1 [.v (.int .u8 a)] = some (.arr 1 [.v (.int .u8 a)]) := by simp [mkArr, lenOkD]

theorem num_step (k u : Nat) (hu : u < 10 ^ 18) (ih : R_spec_l1Num k [I ((u / 10 : Nat) : Int)] = none ∨ R_spec_l1Num k [I ((u / 10 : Nat) : Int)] = some (.ret [T (numT (u / 10))] [])) :
    (R_spec_l1Num (k + 1) [I (u : Int)] = none ∧ R_spec_l1Num k [I ((u / 10 : Nat) : Int)] = none ∧ ¬ u < 10) ∨ R_spec_l1Num (k + 1) [I (u : Int)] = some (.ret [T (numT u)] []) := by
  rw [t_spec_l1Num]
  by_cases h : u < 10
  · right
    have h1 : (u : Int) < 10 := by omega
    have hw : IntKind.i64.wrap (48 + (u : Int)) = 48 + (u : Int) := wrap_id (by omega) (by omega)
    have hw8 := wrap8 (48 + (u : Int)) (by omega) (by omega)
    simp only [bin_lss, h1, decide_true, Option.bind_some, ifD_B, if_true, bin_add, hw, convD, hw8, mkArr_u8, strD, byte_of u h, Option.map_some, numT_small h]
  · have h1 : ¬ (u : Int) < 10 := by omega
    have hq : IntKind.i64.wrap ((u : Int).tdiv 10) = ((u / 10 : Nat) : Int) := by
      rw [Int.tdiv_eq_ediv_of_nonneg (by omega), wrap_id (by omega) (by omega)]
      omega
    have hr : (u : Int).tmod 10 = ((u % 10 : Nat) : Int) := by
      rw [Int.tmod_eq_emod_of_nonneg (by omega)]
      omega
    have hm : u % 10 < 10 := Nat.mod_lt _ (by decide)
    have hw : IntKind.i64.wrap (48 + ((u % 10 : Nat) : Int)) = 48 + ((u % 10 : Nat) : Int) := wrap_id (by omega) (by omega)
    have hw8 := wrap8 (48 + ((u % 10 : Nat) : Int)) (by omega) (by omega)
    have hs : (numT (u / 10)).size + (⟨#[UInt8.ofNat (48 + u % 10)]⟩ : ByteArray).size ≤ 1152921504606846976 := by
      have := numT_size 17 (u / 10) (by omega)
      have h2 : (⟨#[UInt8.ofNat (48 + u % 10)]⟩ : ByteArray).size = 1 := rfl
      omega
    rcases ih with e | e
    · left
      refine ⟨?_, e, h⟩
      simp only [bin_lss, h1, decide_false, Option.bind_some, ifD_B, Bool.false_eq_true, if_false, bin_quo, show ¬ (10 : Int) = 0 by decide, hq, e, callK]
    · right
      simp only [bin_lss, h1, decide_false, Option.bind_some, ifD_B, Bool.false_eq_true, if_false, bin_quo, show ¬ (10 : Int) = 0 by decide, hq, e, callK_ret, bin_rem, hr, bin_add, hw, convD, hw8, mkArr_u8, strD,
        byte_of _ hm, Option.map_some, sl_zero, bin_addS, hs, if_true, numT_big h]
theorem num_or : ∀ (k u : Nat), u < 10 ^ 18 → R_spec_l1Num k [I (u : Int)] = none ∨ R_spec_l1Num k [I (u : Int)] = some (.ret [T (numT u)] [])
  | 0, _, _ => .inl rfl
  | k + 1, u, hu => (num_step k u hu (num_or k (u / 10) (by omega))).imp (fun h => h.1) id
theorem num_big : ∀ (k u : Nat), u < 10 ^ 18 → u < 10 ^ (k + 1) → R_spec_l1Num (k + 1) [I (u : Int)] = some (.ret [T (numT u)] [])
  | 0, u, hu, h => by
    rcases num_step 0 u hu (num_or 0 _ (by omega)) with ⟨_, _, h1⟩ | h1
    · exact absurd (by simpa using h) h1
    · exact h1
  | k + 1, u, hu, h => by
    rcases num_step (k + 1) u hu (num_or (k + 1) _ (by omega)) with ⟨_, h1, _⟩ | h1
    · rw [num_big k (u / 10) (by omega) (by rw [Nat.pow_succ] at h; exact Nat.div_lt_of_lt_mul (by rw [Nat.mul_comm]; exact h))] at h1
      cases h1
    · exact h1
theorem e_spec_l1Num {n : Int} (h0 : 0 ≤ n) (h1 : n < 1000000000000000000) : F_spec_l1Num [I n] = some (.ret [T (intT n)] []) := by
  obtain ⟨u, rfl⟩ := Int.eq_ofNat_of_zero_le h0
  have hu : u < 10 ^ 18 := by omega
  rw [intT_nat]
  refine recF_eq (fun k o ho => ?_) 18 (num_big 17 u hu hu)
  rcases num_or k u hu with e | e
  · rw [e] at ho; cases ho
  · rw [e] at ho; cases ho; rfl
theorem e_Itoa {n : Int} (h0 : -9223372036854775808 ≤ n) (h1 : n ≤ 9223372036854775807) : fItoa [I n] = some (.ret [T (intT n)] []) := by
  simp only [fItoa, h0, h1, and_self, if_true]
  rfl

/-! ### orders -/
/-- A text of few bytes. -/
theorem addS {a b : ByteArray} {bl : Bool} {eq : List Nat} (h : a.size + b.size ≤ 1152921504606846976) : bin .add bl eq (T a) (T b) = some (T (a ++ b)) := by rw [bin_addS, if_pos h]
theorem sz1 (a : UInt8) : (⟨#[a]⟩ : ByteArray).size = 1 := rfl
theorem sz4 (a b c d : UInt8) : (⟨#[a, b, c, d]⟩ : ByteArray).size = 4 := rfl
end Go.Proofs.YtbbfddflmnclaaaDoor
/-
  Cases: their texts, boxes of codes, exchanges.
-/
namespace Go.Proofs.YtbbfddflmnclaaaDoor
open Go Go.V
set_option linter.unusedSimpArgs false

theorem goodC_at {l : List Bx} (h : goodC l = true) (i : Nat) (hi : i < l.length) : pBx l i l[i] = true := by
  simp only [goodC, Bool.and_eq_true] at h
  have := allI_at h.1 i hi
  rwa [Nat.zero_add] at this
theorem goodC_box {l : List Bx} (h : goodC l = true) : ∀ x ∈ l, isBx x = true := by
  intro x hx
  obtain ⟨i, hi, rfl⟩ := List.mem_iff_getElem.1 hx
  have := goodC_at h i hi
  simp only [pBx, Bool.and_eq_true] at this
  exact this.1.1
theorem isBx_iff {x : Bx} : isBx x = true → x.1.size ≤ 3 ∧ (0 ≤ x.2.1 ∧ x.2.1 ≤ 9) ∧ (0 ≤ x.2.2.1 ∧ x.2.2.1 ≤ 9) ∧ (0 ≤ x.2.2.2 ∧ x.2.2.2 ≤ 9999) := by
  intro h
  simp only [isBx, letters, Bool.and_eq_true, decide_eq_true_eq] at h
  obtain ⟨⟨⟨⟨_, h1⟩, h2⟩, h3⟩, h4⟩ := h
  exact ⟨by omega, h2, h3, h4⟩
/-! ### the text of a case -/
def boxT (x : Bx) : ByteArray := x.1 ++ ⟨#[64]⟩ ++ intT x.2.1 ++ ⟨#[46]⟩ ++ intT x.2.2.1 ++ ⟨#[120]⟩ ++ intT x.2.2.2 ++ ⟨#[59]⟩
def caseT (l : List Bx) : ByteArray := l.foldl (fun s x => s ++ boxT x) ⟨#[]⟩
theorem caseT_snoc (l : List Bx) {i : Nat} (hi : i < l.length) : caseT (l.take (i + 1)) = caseT (l.take i) ++ boxT l[i] := by
  unfold caseT
  rw [List.take_succ_eq_append_getElem hi, List.foldl_append]
  rfl
theorem boxT_size {x : Bx} (h : isBx x = true) : (boxT x).size ≤ 40 := by
  obtain ⟨h1, h2, h3, h4⟩ := isBx_iff h
  have s1 := intT_size 9 (n := x.2.1) (by omega) (by omega)
  have s2 := intT_size 9 (n := x.2.2.1) (by omega) (by omega)
  have s3 := intT_size 9 (n := x.2.2.2) (by omega) (by omega)
  have e : ∀ a : UInt8, (⟨#[a]⟩ : ByteArray).size = 1 := fun _ => rfl
  simp only [boxT, ByteArray.size_append, e]
  omega
theorem caseT_size {l : List Bx} (h : ∀ x ∈ l, isBx x = true) : ∀ i, i ≤ l.length → (caseT (l.take i)).size ≤ 40 * i
  | 0, _ => by
    rw [List.take_zero]
    exact Nat.le_refl 0
  | i + 1, hi => by
    have ih := caseT_size h i (by omega)
    rw [caseT_snoc l (by omega), ByteArray.size_append]
    have := boxT_size (h _ (List.getElem_mem (show i < l.length by omega)))
    omega
theorem box_adds {x : Bx} (h : isBx x = true) {R : Option Out} {k : D → Option Out} (hk : k (T (boxT x)) = R) :
    ((bin .add false [] (T x.1) (T ⟨#[64]⟩)).bind fun z => (bin .add false [] z (T (intT x.2.1))).bind fun z => (bin .add false [] z (T ⟨#[46]⟩)).bind fun z => (bin .add false [] z (T (intT x.2.2.1))).bind fun z =>
      (bin .add false [] z (T ⟨#[120]⟩)).bind fun z => (bin .add false [] z (T (intT x.2.2.2))).bind fun z => (bin .add false [] z (T ⟨#[59]⟩)).bind k) = R := by
  obtain ⟨h1, h2, h3, h4⟩ := isBx_iff h
  have s1 := intT_size 9 (n := x.2.1) (by omega) (by omega)
  have s2 := intT_size 9 (n := x.2.2.1) (by omega) (by omega)
  have s3 := intT_size 9 (n := x.2.2.2) (by omega) (by omega)
  have e : ∀ a : UInt8, (⟨#[a]⟩ : ByteArray).size = 1 := fun _ => rfl
  rw [addS (by rw [e]; omega), Option.bind_some, addS (by simp only [ByteArray.size_append, e]; omega), Option.bind_some, addS (by simp only [ByteArray.size_append, e]; omega), Option.bind_some, addS (by simp only [ByteArray.size_append, e]; omega), Option.bind_some,
    addS (by simp only [ByteArray.size_append, e]; omega), Option.bind_some, addS (by simp only [ByteArray.size_append, e]; omega), Option.bind_some, addS (by simp only [ByteArray.size_append, e]; omega), Option.bind_some]
  exact hk
theorem tS (l : List UInt8) : (D.v (Value.string { data := { toList := l } })) = T ⟨⟨l⟩⟩ := rfl
theorem ld_box {l : List Bx} {i : Nat} (hi : i < l.length) : (((Option.map D.ptr (elemD 4 (bxs l) (I (i : Int)))).bind fun z => (ldD true 4 z).bind chkV)) = some (bx l[i]) := by
  simp [hi]
theorem e_spec_caText (l : List Bx) (h : goodC l = true) : F_spec_caText [bxs l] = some (.ret [T (caseT l)] []) := by
  rw [t_spec_caText]
  obtain ⟨h32, _⟩ := goodC_counts h
  have hb := goodC_box h
  simp only [lenD_arr, List.length_map, Option.bind_some]
  refine loop_bind (.ext 0 [T (caseT l)]) (loop_for l.length (fun i => [T (caseT (l.take i)), bxs l, I l.length, I i]) _ (fun i hi => ?_) ?_ rfl rfl) ?_
  · have hi' : (i : Int) < (l.length : Int) := by omega
    have hw : IntKind.i64.wrap ((i : Int) + 1) = ((i + 1 : Nat) : Int) := by rw [wrap_id (by omega) (by omega)]; omega
    have hx := hb l[i] (List.getElem_mem hi)
    obtain ⟨_, h2, h3, h4⟩ := isBx_iff hx
    have n1 := e_spec_l1Num (n := l[i].2.1) (by omega) (by omega)
    have n2 := e_spec_l1Num (n := l[i].2.2.1) (by omega) (by omega)
    have n3 := e_spec_l1Num (n := l[i].2.2.2) (by omega) (by omega)
    have hz := caseT_size hb i (by omega)
    have hz2 := boxT_size hx
    have key := @box_adds l[i] hx
    rw [caseT_snoc l hi]
    have hel : elemD 4 (bxs l) (I (i : Int)) = some [T l[i].1, I l[i].2.1, I l[i].2.2.1, I l[i].2.2.2] := by simp [hi]
    have hst : stD 4 (.agg [T ⟨⟨[]⟩⟩, I 0, I 0, I 0]) (.ref 0 0) (bx l[i]) = some (bx l[i]) := by simp
    have hld : ldD true 4 (.ptr [T l[i].1, I l[i].2.1, I l[i].2.2.1, I l[i].2.2.2]) = some (bx l[i]) := by simp
    have hck : chkV (bx l[i]) = some (bx l[i]) := by simp [chkV, isV_bx]
    simp -implicitDefEqProofs only [sl_zero, sl_succ, bin_lss, hi', decide_true, Option.bind_some, ifD_B, if_true, hel, Option.map_some, hld, hck, tS, hst, liveD_agg, atD_agg, List.drop_zero, List.drop_succ_cons, takeD_f, n1, n2, n3, callK_ret]
    refine key ?_
    rw [addS (by omega), Option.bind_some]
    simp -implicitDefEqProofs only [bin_add, hw, Option.bind_some]
  · simp [caseT]
  · simp
theorem e_impl_CaseText (l : List Bx) (ho : okBx l) : F_impl_CaseText [bxs l] = some (.ret [T (if goodC l = true then caseT l else ⟨#[]⟩), B (goodC l)] []) := by
  rw [t_impl_CaseText]
  cases h : goodC l
  · simp -implicitDefEqProofs [e_impl_IsCase l ho, h]
  obtain ⟨h32, _⟩ := goodC_counts h
  have hb := goodC_box h
  simp -implicitDefEqProofs only [e_impl_IsCase l ho, h, callK_ret, sl_zero, un_not, Bool.not_true, Option.bind_some, ifD_B, Bool.false_eq_true, if_false, lenD_arr, List.length_map, if_true]
  refine loop_bind (.ext 0 [T (caseT l)]) (loop_for l.length (fun i => [T (caseT (l.take i)), bxs l, I l.length, I i]) _ (fun i hi => ?_) ?_ rfl rfl) ?_
  · have hi' : (i : Int) < (l.length : Int) := by omega
    have hw : IntKind.i64.wrap ((i : Int) + 1) = ((i + 1 : Nat) : Int) := by rw [wrap_id (by omega) (by omega)]; omega
    have hx := hb l[i] (List.getElem_mem hi)
    obtain ⟨_, h2, h3, h4⟩ := isBx_iff hx
    have n1 := e_Itoa (n := l[i].2.1) (by omega) (by omega)
    have n2 := e_Itoa (n := l[i].2.2.1) (by omega) (by omega)
    have n3 := e_Itoa (n := l[i].2.2.2) (by omega) (by omega)
    have hz := caseT_size hb i (by omega)
    have hz2 := boxT_size hx
    have key := @box_adds l[i] hx
    rw [caseT_snoc l hi]
    have hel : elemD 4 (bxs l) (I (i : Int)) = some [T l[i].1, I l[i].2.1, I l[i].2.2.1, I l[i].2.2.2] := by simp [hi]
    have hst : stD 4 (.agg [T ⟨⟨[]⟩⟩, I 0, I 0, I 0]) (.ref 0 0) (bx l[i]) = some (bx l[i]) := by simp
    have hld : ldD true 4 (.ptr [T l[i].1, I l[i].2.1, I l[i].2.2.1, I l[i].2.2.2]) = some (bx l[i]) := by simp
    have hck : chkV (bx l[i]) = some (bx l[i]) := by simp [chkV, isV_bx]
    simp -implicitDefEqProofs only [sl_zero, sl_succ, bin_lss, hi', decide_true, Option.bind_some, ifD_B, if_true, hel, Option.map_some, hld, hck, tS, hst, liveD_agg, atD_agg, List.drop_zero, List.drop_succ_cons, takeD_f, n1, n2, n3, callK_ret]
    refine key ?_
    rw [addS (by omega), Option.bind_some]
    simp -implicitDefEqProofs only [bin_add, hw, Option.bind_some]
  · simp [caseT]
  · simp
theorem e_spec_CaseText (l : List Bx) (ho : okBx l) : F_spec_CaseText [bxs l] = some (.ret [T (if goodC l = true then caseT l else ⟨#[]⟩), B (goodC l)] []) := by
  rw [t_spec_CaseText]
  cases h : goodC l
  · simp -implicitDefEqProofs [e_spec_caGood l ho, h]
  · simp -implicitDefEqProofs [e_spec_caGood l ho, h, e_spec_caText l h]
theorem e_spec_TypesIn (l : List Bx) (ho : okBx l) : F_spec_TypesIn [bxs l] = some (.ret [I (if goodC l = true then counts l else 0), B (goodC l)] []) := by
  rw [t_spec_TypesIn]
  cases h : goodC l
  · simp -implicitDefEqProofs [e_spec_caGood l ho, h]
  · simp -implicitDefEqProofs [e_spec_caGood l ho, h, e_spec_caSum l h]
theorem e_impl_TypesIn' (l : List Bx) (ho : okBx l) : F_impl_TypesIn [bxs l] = some (.ret [I (if goodC l = true then counts l else 0), B (goodC l)] []) := by
  cases h : goodC l
  · rw [t_impl_TypesIn]
    simp -implicitDefEqProofs [e_impl_IsCase l ho, h]
  · simpa using e_impl_TypesIn l ho h
/-! ### boxes of codes -/
def boB (l : List Bx) (c : ByteArray) : Bool := goodC l && !decide (fB l c < 0)
def boI (l : List Bx) (c : ByteArray) : Int := if boB l c = true then fB l c else 0
theorem e_impl_BoxOf (l : List Bx) (c : ByteArray) (ho : okBx l) : F_impl_BoxOf [bxs l, T c] = some (.ret [I (boI l c), B (boB l c)] []) := by
  rw [t_impl_BoxOf]
  cases h : goodC l
  · simp -implicitDefEqProofs [e_impl_boxAt l c ho.1, e_impl_IsCase l ho, h, boI, boB]
  · by_cases h1 : fB l c < 0 <;> simp -implicitDefEqProofs [e_impl_boxAt l c ho.1, e_impl_IsCase l ho, h, boI, boB, h1]
theorem e_spec_BoxOf (l : List Bx) (c : ByteArray) (ho : okBx l) : F_spec_BoxOf [bxs l, T c] = some (.ret [I (boI l c), B (boB l c)] []) := by
  rw [t_spec_BoxOf]
  cases h : goodC l
  · simp -implicitDefEqProofs [e_spec_caFind l c ho.1, e_spec_caGood l ho, h, boI, boB]
  · by_cases h1 : fB l c < 0 <;> simp -implicitDefEqProofs [e_spec_caFind l c ho.1, e_spec_caGood l ho, h, boI, boB, h1]
theorem cods_get {l : List Bx} {i : Nat} (h1 : i < (cods l).length) (h2 : i < l.length) : (cods l)[i]'h1 = l[i].1 := by simp
theorem boI_own {l : List Bx} (h : goodC l = true) (i : Nat) (hi : i < l.length) : boB l l[i].1 = true ∧ boI l l[i].1 = i := by
  have hc := goodC_codes h
  have e : fB l l[i].1 = i := by
    rw [fB_eq]
    rcases fC_is (cs := cods l) (c := l[i].1) with ⟨_, h2⟩ | ⟨j, hj, h2, h3⟩
    · exact absurd (cods_get (by simpa using hi) hi) (h2 i (by simpa using hi))
    · rw [h2]
      have := hc.2 j i hj (by simpa using hi) (h3.trans (cods_get (by simpa using hi) hi).symm)
      omega
  have h1 : boB l l[i].1 = true := by
    simp only [boB, h, e, Bool.true_and, Bool.not_eq_true', decide_eq_false_iff_not]
    omega
  exact ⟨h1, by simp only [boI, h1, if_true, e]⟩
theorem e_laws_qBoxes (l : List Bx) (ho : l.length ≤ 1048576) : F_laws_qBoxes [bxs l, bxs l] = some (.ret [B true] []) := by
  rw [t_laws_qBoxes]
  simp only [lenD_arr, List.length_map, Option.bind_some, bin_neq, decide_true, Bool.not_true, ifD_B, Bool.false_eq_true, if_false]
  refine loop_bind (.ext 0 []) (loop_for l.length (fun i => [bxs l, bxs l, I l.length, I i]) _ (fun i hi => ?_) ?_ rfl rfl) ?_
  · have hw : IntKind.i64.wrap ((i : Int) + 1) = (i : Int) + 1 := wrap_id (by omega) (by omega)
    have hq : bin .neq false [3, 1, 1, 1] (bx l[i]) (bx l[i]) = some (B false) := by simp [bin, allEq]
    simp -implicitDefEqProofs [hi, hw, hq, isV_bx, chkV]
  · simp
  · simp
end Go.Proofs.YtbbfddflmnclaaaDoor
/-
  Cases: exchanges; types taken and put back.
-/
namespace Go.Proofs.YtbbfddflmnclaaaDoor
open Go Go.V
set_option linter.unusedSimpArgs false

/-! ### exchanges -/
abbrev b0 : Bx := (ByteArray.empty, 0, 0, 0)
def swapG (l : List Bx) (a b : Nat) : List Bx :=
  (l.set a ((l.getD a b0).1, (l.getD b b0).2.1, (l.getD b b0).2.2.1, (l.getD a b0).2.2.2)).set b ((l.getD b b0).1, (l.getD a b0).2.1, (l.getD a b0).2.2.1, (l.getD b b0).2.2.2)
theorem swapG_len (l : List Bx) (a b : Nat) : (swapG l a b).length = l.length := by simp [swapG]
def sig (a b i : Nat) : Nat := if i = a then b else if i = b then a else i
theorem sig_lt {l : List Bx} {a b i : Nat} (ha : a < l.length) (hb : b < l.length) (hi : i < l.length) : sig a b i < l.length := by
  unfold sig
  split
  · exact hb
  · split
    · exact ha
    · exact hi
theorem sig_sig (a b i : Nat) : sig a b (sig a b i) = i := by
  unfold sig
  by_cases h1 : i = a
  · subst h1
    by_cases h2 : b = i <;> simp [h2]
  · by_cases h2 : i = b
    · subst h2; simp [h1]
    · simp [h1, h2]
theorem swapG_get {l : List Bx} {a b : Nat} (ha : a < l.length) (hb : b < l.length) (i : Nat) (hi : i < l.length) :
    (swapG l a b)[i]'(by rw [swapG_len]; exact hi) = (l[i].1, (l[sig a b i]'(sig_lt ha hb hi)).2.1, (l[sig a b i]'(sig_lt ha hb hi)).2.2.1, l[i].2.2.2) := by
  unfold swapG
  simp only [List.getElem_set, getB ha, getB hb]
  by_cases h2 : b = i
  · subst h2
    by_cases h1 : b = a
    · subst h1; simp [sig]
    · simp [sig, h1]
  · by_cases h1 : a = i
    · subst h1; simp [sig, h2]
    · have h1' : ¬ i = a := fun e => h1 e.symm
      have h2' : ¬ i = b := fun e => h2 e.symm
      simp [sig, h1, h2, h1', h2']
theorem swapG_back {l : List Bx} {a b : Nat} (ha : a < l.length) (hb : b < l.length) : swapG (swapG l a b) a b = l := by
  refine List.ext_getElem (by rw [swapG_len, swapG_len]) fun i h1 h2 => ?_
  have ha' : a < (swapG l a b).length := by rw [swapG_len]; exact ha
  have hb' : b < (swapG l a b).length := by rw [swapG_len]; exact hb
  rw [swapG_get ha' hb' i (by rw [swapG_len]; exact h2), swapG_get ha hb i h2, swapG_get ha hb (sig a b i) (sig_lt ha hb h2)]
  simp only [sig_sig]
theorem swapG_cods {l : List Bx} {a b : Nat} (ha : a < l.length) (hb : b < l.length) : cods (swapG l a b) = cods l := by
  refine List.ext_getElem (by simp [swapG_len]) fun i h1 h2 => ?_
  have hi : i < l.length := by simpa using h2
  simp only [List.getElem_map]
  rw [swapG_get ha hb i hi]
theorem goodC_iff {l : List Bx} : goodC l = true ↔ (∀ i (h : i < l.length), isBx l[i] = true) ∧ (∀ i (h : i < l.length), 0 < i → Op.bytesLess (l[i - 1]'(by omega)).1.toList l[i].1.toList = true) ∧ (∀ i j (h : i < l.length) (hj : j < i), sameP l[i] (l[j]'(by omega)) = false) ∧ 1 ≤ l.length ∧ l.length ≤ 32 := by
  have all : ∀ (p : Nat → Bx → Bool) (m : List Bx) (k : Nat), allI p k m = true ↔ ∀ i (h : i < m.length), p (k + i) m[i] = true := by
    intro p m
    induction m with
    | nil => intro k; simp [allI]
    | cons x m ih =>
      intro k
      simp only [allI, Bool.and_eq_true, ih]
      constructor
      · rintro ⟨h1, h2⟩ i hi
        cases i with
        | zero => exact h1
        | succ i =>
          have := h2 i (by simpa using hi)
          rw [show k + (i + 1) = k + 1 + i by omega]
          exact this
      · intro h
        refine ⟨h 0 (by simp), fun i hi => ?_⟩
        have := h (i + 1) (by simpa using hi)
        rw [show k + 1 + i = k + (i + 1) by omega]
        exact this
  have hp : ∀ i (h : i < l.length), pBx l i l[i] = true ↔ isBx l[i] = true ∧ (0 < i → Op.bytesLess (l[i - 1]'(by omega)).1.toList l[i].1.toList = true) ∧ ∀ j (hj : j < i), sameP l[i] (l[j]'(by omega)) = false := by
    intro i h
    simp only [pBx, Bool.and_eq_true, all, Nat.zero_add, Bool.not_eq_true', Bool.and_eq_false_iff, decide_eq_false_iff_not, Bool.not_eq_false', List.getElem_take, List.length_take, and_assoc]
    refine and_congr Iff.rfl (and_congr ⟨fun h0 hi => ?_, fun h0 => ?_⟩ ⟨fun h0 j hj => h0 j (by omega), fun h0 j hj => h0 j (by omega)⟩)
    · have := h0.resolve_left (by omega)
      rw [List.getD_eq_getElem?_getD, List.getElem?_eq_getElem (by omega)] at this
      exact this
    · by_cases hi : 0 < i
      · right
        rw [List.getD_eq_getElem?_getD, List.getElem?_eq_getElem (by omega)]
        exact h0 hi
      · exact .inl hi
  simp only [goodC, Bool.and_eq_true, decide_eq_true_eq, all, Nat.zero_add]
  constructor
  · rintro ⟨h1, h2⟩
    exact ⟨fun i hi => ((hp i hi).1 (h1 i hi)).1, fun i hi => ((hp i hi).1 (h1 i hi)).2.1, fun i j hi hj => ((hp i hi).1 (h1 i hi)).2.2 j hj, by omega, by omega⟩
  · rintro ⟨h1, h2, h3, h4⟩
    exact ⟨fun i hi => (hp i hi).2 ⟨h1 i hi, h2 i hi, fun j hj => h3 i j hi hj⟩, by omega⟩
theorem sameP_comm (x y : Bx) : sameP x y = sameP y x := by
  unfold sameP
  rw [decide_eq_decide.2 (eq_comm), decide_eq_decide.2 (show y.2.2.1 = x.2.2.1 ↔ x.2.2.1 = y.2.2.1 from eq_comm)]
theorem swapG_good {l : List Bx} {a b : Nat} (ha : a < l.length) (hb : b < l.length) (h : goodC l = true) : goodC (swapG l a b) = true := by
  obtain ⟨h1, h2, h3, h4, h5⟩ := goodC_iff.1 h
  have diff : ∀ i j (hi : i < l.length) (hj : j < l.length), i ≠ j → sameP l[i] l[j] = false := by
    intro i j hi hj hne
    rcases Nat.lt_or_gt_of_ne hne with hlt | hlt
    · rw [sameP_comm]; exact h3 j i hj hlt
    · exact h3 i j hi hlt
  refine goodC_iff.2 ⟨fun i hi => ?_, fun i hi h0 => ?_, fun i j hi hj => ?_, by rw [swapG_len]; exact h4, by rw [swapG_len]; exact h5⟩
  · have hi' : i < l.length := by rw [swapG_len] at hi; exact hi
    rw [swapG_get ha hb i hi']
    have e1 := h1 i hi'
    have e2 := h1 (sig a b i) (sig_lt ha hb hi')
    simp only [isBx, Bool.and_eq_true] at e1 e2 ⊢
    exact ⟨⟨⟨e1.1.1.1, e2.1.1.2⟩, e2.1.2⟩, e1.2⟩
  · have hi' : i < l.length := by rw [swapG_len] at hi; exact hi
    rw [swapG_get ha hb i hi', swapG_get ha hb (i - 1) (by omega)]
    exact h2 i hi' h0
  · have hi' : i < l.length := by rw [swapG_len] at hi; exact hi
    rw [swapG_get ha hb i hi', swapG_get ha hb j (by omega)]
    have hne : sig a b i ≠ sig a b j := fun e => by
      have := congrArg (sig a b) e
      rw [sig_sig, sig_sig] at this
      omega
    exact diff _ _ (sig_lt ha hb hi') (sig_lt ha hb (show j < l.length by omega)) hne
theorem swapG_steps (l : List Bx) (a b : Nat) (ha : a < l.length) (hb : b < l.length) : ∃ l1 l2 l3 : List Bx, (stD 1 (bxs l) (.ref a 1) (I l[b].2.1) = some (bxs l1) ∧ stD 1 (bxs l1) (.ref a 2) (I l[b].2.2.1) = some (bxs l2) ∧ stD 1 (bxs l2) (.ref b 1) (I l[a].2.1) = some (bxs l3) ∧ stD 1 (bxs l3) (.ref b 2) (I l[a].2.2.1) = some (bxs (swapG l a b))) ∧
    l1.length = l.length ∧ l2.length = l.length ∧ l3.length = l.length := by
  have e1 := set_row l a l[b].2.1 ha
  have e2 := set_col (l.set a (l[a].1, l[b].2.1, l[a].2.2.1, l[a].2.2.2)) a l[b].2.2.1 (by simpa using ha)
  simp only [List.getElem_set_self, List.set_set] at e2
  by_cases hab : a = b
  · subst hab
    have e3 := set_row (l.set a (l[a].1, l[a].2.1, l[a].2.2.1, l[a].2.2.2)) a l[a].2.1 (by simpa using ha)
    simp only [List.getElem_set_self, List.set_set] at e3
    have e4 := set_col (l.set a (l[a].1, l[a].2.1, l[a].2.2.1, l[a].2.2.2)) a l[a].2.2.1 (by simpa using ha)
    simp only [List.getElem_set_self, List.set_set] at e4
    refine ⟨_, _, _, ⟨e1, e2, e3, ?_⟩, by simp, by simp, by simp⟩
    unfold swapG
    rw [getB ha, List.set_set]
    exact e4
  · have hne : a ≠ b := hab
    have e3 := set_row (l.set a (l[a].1, l[b].2.1, l[b].2.2.1, l[a].2.2.2)) b l[a].2.1 (by simpa using hb)
    simp only [List.getElem_set_ne hne] at e3
    have e4 := set_col ((l.set a (l[a].1, l[b].2.1, l[b].2.2.1, l[a].2.2.2)).set b (l[b].1, l[a].2.1, l[b].2.2.1, l[b].2.2.2)) b l[a].2.2.1 (by simpa using hb)
    simp only [List.getElem_set_self, List.set_set] at e4
    refine ⟨_, _, _, ⟨e1, e2, e3, ?_⟩, by simp, by simp, by simp⟩
    unfold swapG
    rw [getB ha, getB hb]
    exact e4
theorem e_spec_caSwapG (l : List Bx) (a b : Nat) (ha : a < l.length) (hb : b < l.length) (hl : l.length ≤ 1048576) : F_spec_caSwap [bxs l, I a, I b] = some (.ret [bxs (swapG l a b)] []) := by
  rw [t_spec_caSwap]
  have hc : appD 4 40 (.arr 4 []) (bxs l) = some (bxs l) := by
    rw [appD_eq, if_pos (by simp only [List.length_nil, List.length_map]; omega)]
    rfl
  obtain ⟨l1, l2, l3, ⟨e1, e2, e3, e4⟩, h1, h2, h3⟩ := swapG_steps l a b ha hb
  have a1 : a < l1.length := by omega
  have b2 : b < l2.length := by omega
  have b3 : b < l3.length := by omega
  simp -implicitDefEqProofs [mkArr_nil, chkA_map isV_bx, hc, ha, hb, e1, e2, e3, e4, a1, b2, b3, -appD_eq]
theorem e_impl_swapG (l : List Bx) (a b : Nat) (ha : a < l.length) (hb : b < l.length) (hl : l.length ≤ 1048576) : F_impl_swap [bxs l, I a, I b] = some (.ret [bxs (swapG l a b)] []) := by
  rw [t_impl_swap]
  have hc : appD 4 40 (.arr 4 []) (bxs l) = some (bxs l) := by
    rw [appD_eq, if_pos (by simp only [List.length_nil, List.length_map]; omega)]
    rfl
  obtain ⟨l1, l2, l3, ⟨e1, e2, e3, e4⟩, h1, h2, h3⟩ := swapG_steps l a b ha hb
  have a1 : a < l1.length := by omega
  have b2 : b < l2.length := by omega
  have b3 : b < l3.length := by omega
  simp -implicitDefEqProofs [mkArr_nil, chkA_map isV_bx, hc, ha, hb, e1, e2, e3, e4, a1, b2, b3, -appD_eq]
def swB (l : List Bx) (a b : Int) : Bool := goodC l && decide (0 ≤ a ∧ a ≤ (l.length : Int) - 1) && decide (0 ≤ b ∧ b ≤ (l.length : Int) - 1)
def swR (l : List Bx) (a b : Int) : List Bx := if swB l a b = true then swapG l a.toNat b.toNat else []
theorem swB_iff {l : List Bx} {a b : Int} : swB l a b = true ↔ goodC l = true ∧ (0 ≤ a ∧ a ≤ (l.length : Int) - 1) ∧ (0 ≤ b ∧ b ≤ (l.length : Int) - 1) := by
  simp only [swB, Bool.and_eq_true, decide_eq_true_eq, and_assoc]
theorem e_impl_SwapBoxes (l : List Bx) (a b : Int) (ho : okBx l) : F_impl_SwapBoxes [bxs l, I a, I b] = some (.ret [bxs (swR l a b), B (swB l a b)] []) := by
  have h0 := ho.1
  have hw : IntKind.i64.wrap ((l.length : Int) - 1) = (l.length : Int) - 1 := wrap_id (by omega) (by omega)
  rw [t_impl_SwapBoxes]
  cases h : goodC l
  · simp -implicitDefEqProofs [e_impl_IsCase l ho, h, swR, swB, hw, mkArr_nil]
  by_cases h1 : 0 ≤ a ∧ a ≤ (l.length : Int) - 1
  case neg => simp -implicitDefEqProofs [e_impl_IsCase l ho, h, swR, swB, hw, mkArr_nil, e_impl_within, h1]
  by_cases h2 : 0 ≤ b ∧ b ≤ (l.length : Int) - 1
  case neg => simp -implicitDefEqProofs [e_impl_IsCase l ho, h, swR, swB, hw, mkArr_nil, e_impl_within, h1, h2]
  obtain ⟨x, rfl⟩ := Int.eq_ofNat_of_zero_le h1.1
  obtain ⟨y, rfl⟩ := Int.eq_ofNat_of_zero_le h2.1
  have e := e_impl_swapG l x y (by omega) (by omega) h0
  simp -implicitDefEqProofs [e_impl_IsCase l ho, h, swR, swB, hw, e_impl_within, h1.2, h2.2, e]
theorem e_spec_SwapBoxesG (l : List Bx) (a b : Int) (ho : okBx l) : F_spec_SwapBoxes [bxs l, I a, I b] = some (.ret [bxs (swR l a b), B (swB l a b)] []) := by
  have h0 := ho.1
  have hw : IntKind.i64.wrap ((l.length : Int) - 1) = (l.length : Int) - 1 := wrap_id (by omega) (by omega)
  rw [t_spec_SwapBoxes]
  cases h : goodC l
  · simp -implicitDefEqProofs [e_spec_caGood l ho, h, swR, swB, hw]
  by_cases h1 : 0 ≤ a ∧ a ≤ (l.length : Int) - 1
  case neg => simp -implicitDefEqProofs [e_spec_caGood l ho, h, swR, swB, hw, e_spec_l1In, h1]
  by_cases h2 : 0 ≤ b ∧ b ≤ (l.length : Int) - 1
  case neg => simp -implicitDefEqProofs [e_spec_caGood l ho, h, swR, swB, hw, e_spec_l1In, h1, h2]
  obtain ⟨x, rfl⟩ := Int.eq_ofNat_of_zero_le h1.1
  obtain ⟨y, rfl⟩ := Int.eq_ofNat_of_zero_le h2.1
  have e := e_spec_caSwapG l x y (by omega) (by omega) h0
  simp -implicitDefEqProofs [e_spec_caGood l ho, h, swR, swB, hw, e_spec_l1In, h1.2, h2.2, e]

/-! ### types taken and put -/
def mvB (by_ : Int) (l : List Bx) (cs : List ByteArray) : Bool := okWay l cs && goodC (moveC (cods l) by_ l cs)
def mvR (by_ : Int) (l : List Bx) (cs : List ByteArray) : List Bx := if mvB by_ l cs = true then moveC (cods l) by_ l cs else []
theorem okWay_iff {l : List Bx} {cs : List ByteArray} : okWay l cs = true ↔ allIn l cs ∧ goodC l = true ∧ cs.length ≤ 60 := by
  simp only [okWay, Bool.and_eq_true, decide_eq_true_eq, hasAll_in, and_assoc]
  exact and_congr Iff.rfl (and_congr Iff.rfl ⟨fun h => by omega, fun h => by omega⟩)
theorem e_impl_changedG (l : List Bx) (cs : List ByteArray) (by_ : Int) (h : okBx l) (hl : cs.length ≤ 1048576) : F_impl_changed [bxs l, txs cs, I by_] = some (.ret [bxs (mvR by_ l cs), B (mvB by_ l cs)] []) := by
  cases ho : okWay l cs
  · rw [t_impl_changed]
    have ea := e_impl_areCodes l cs h hl
    have e2 : (hasAll l cs && goodC l && decide ((cs.length : Int) ≤ 60)) = false := ho
    rw [e2] at ea
    simp -implicitDefEqProofs [ea, mkArr_nil, mvR, mvB, ho]
  · obtain ⟨h1, h2, h3⟩ := okWay_iff.1 ho
    rw [e_impl_changed l cs by_ h h3 h2 h1]
    cases hg : goodC (moveC (cods l) by_ l cs) <;> simp [mvR, mvB, ho, hg]
theorem e_spec_moveG (l : List Bx) (cs : List ByteArray) (by_ : Int) (h : okBx l) (hl : cs.length ≤ 1048576) (ho : okWay l cs = true) : F_spec_caMove [bxs l, txs cs, I by_] = some (.ret [bxs (mvR by_ l cs), B (mvB by_ l cs)] []) := by
  obtain ⟨h1, h2, h3⟩ := okWay_iff.1 ho
  rw [e_spec_caMove l cs by_ h hl h1]
  cases hg : goodC (moveC (cods l) by_ l cs) <;> simp [mvR, mvB, ho, hg]
theorem tupA (z : Nat) (l : List D) (ds : List D) : tupAt (.tup (.arr z l :: ds)) 0 = some (.arr z l) := rfl
theorem tupC1 (a : D) (b : Bool) (ds : List D) : tupAt (tupCut (.tup (a :: B b :: ds)) 0) 1 = some (B b) := rfl
theorem e_impl_TakeG (l : List Bx) (cs : List ByteArray) (h : okBx l) (hl : cs.length ≤ 1048576) : F_impl_TakeTypes [bxs l, txs cs] = some (.ret [bxs (mvR (-1) l cs), B (mvB (-1) l cs)] []) := by
  rw [t_impl_TakeTypes]
  simp -implicitDefEqProofs only [e_impl_changedG l cs (-1) h hl, callK_ret, tupA, tupC1, Option.bind_some]
theorem e_impl_PutG (l : List Bx) (cs : List ByteArray) (h : okBx l) (hl : cs.length ≤ 1048576) : F_impl_PutTypes [bxs l, txs cs] = some (.ret [bxs (mvR 1 l cs), B (mvB 1 l cs)] []) := by
  rw [t_impl_PutTypes]
  simp -implicitDefEqProofs only [e_impl_changedG l cs 1 h hl, callK_ret, tupA, tupC1, Option.bind_some]
theorem e_spec_TakeG (l : List Bx) (cs : List ByteArray) (h : okBx l) (hl : cs.length ≤ 1048576) : F_spec_TakeTypes [bxs l, txs cs] = some (.ret [bxs (mvR (-1) l cs), B (mvB (-1) l cs)] []) := by
  rw [t_spec_TakeTypes]
  have ea := e_spec_caAsked l cs h hl
  cases ho : okWay l cs
  · have e2 : (hasAll l cs && goodC l && decide ((cs.length : Int) ≤ 60)) = false := ho
    rw [e2] at ea
    simp -implicitDefEqProofs [ea, mvR, mvB, ho]
  · have e2 : (hasAll l cs && goodC l && decide ((cs.length : Int) ≤ 60)) = true := ho
    rw [e2] at ea
    simp -implicitDefEqProofs only [ea, e_spec_moveG l cs (-1) h hl ho, callK_ret, sl_zero, un_not, Bool.not_true, Option.bind_some, ifD_B, Bool.false_eq_true, if_false, tupA, tupC1]
theorem e_spec_PutG (l : List Bx) (cs : List ByteArray) (h : okBx l) (hl : cs.length ≤ 1048576) : F_spec_PutTypes [bxs l, txs cs] = some (.ret [bxs (mvR 1 l cs), B (mvB 1 l cs)] []) := by
  rw [t_spec_PutTypes]
  have ea := e_spec_caAsked l cs h hl
  cases ho : okWay l cs
  · have e2 : (hasAll l cs && goodC l && decide ((cs.length : Int) ≤ 60)) = false := ho
    rw [e2] at ea
    simp -implicitDefEqProofs [ea, mvR, mvB, ho]
  · have e2 : (hasAll l cs && goodC l && decide ((cs.length : Int) ≤ 60)) = true := ho
    rw [e2] at ea
    simp -implicitDefEqProofs only [ea, e_spec_moveG l cs 1 h hl ho, callK_ret, sl_zero, un_not, Bool.not_true, Option.bind_some, ifD_B, Bool.false_eq_true, if_false, tupA, tupC1]

/-! ### counts, up to a power of two -/
theorem wrap_add' (a b : Int) : IntKind.i64.wrap (IntKind.i64.wrap a + b) = IntKind.i64.wrap (a + b) := by
  rw [IntKind.wrap_i64, IntKind.wrap_i64, IntKind.wrap_i64]
  omega
theorem wrap_twice (a : Int) : IntKind.i64.wrap (IntKind.i64.wrap a) = IntKind.i64.wrap a := by
  have := wrap_add' a 0
  rwa [Int.add_zero, Int.add_zero] at this
def cntC (cs : List ByteArray) : List ByteArray → Nat → Int
  | [], _ => 0
  | c :: codes, k => (if (fC cs c).toNat = k then 1 else 0) + cntC cs codes k
theorem moveC_get (cs : List ByteArray) (by_ : Int) : ∀ (codes : List ByteArray) (l : List Bx) (k : Nat) (x : Bx), l[k]? = some x →
    ∃ n : Int, (moveC cs by_ l codes)[k]? = some (x.1, x.2.1, x.2.2.1, n) ∧ IntKind.i64.wrap n = IntKind.i64.wrap (x.2.2.2 + by_ * cntC cs codes k) ∧ (IntKind.i64.wrap x.2.2.2 = x.2.2.2 → IntKind.i64.wrap n = n)
  | [], l, k, x, h => ⟨x.2.2.2, h, by simp [cntC], id⟩
  | c :: codes, l, k, x, h => by
    have hk := (List.getElem?_eq_some_iff.1 h).1
    have hx := (List.getElem?_eq_some_iff.1 h).2
    show ∃ n : Int, (moveC cs by_ (updF cs by_ l c) codes)[k]? = _ ∧ _
    by_cases he : (fC cs c).toNat = k
    · have hu : (updF cs by_ l c)[k]? = some (x.1, x.2.1, x.2.2.1, IntKind.i64.wrap (x.2.2.2 + by_)) := by
        unfold updF
        rw [he, getB hk, List.getElem?_set_self hk, hx]
      obtain ⟨n, h1, h2, h3⟩ := moveC_get cs by_ codes _ k _ hu
      refine ⟨n, h1, ?_, fun _ => h3 (wrap_twice _)⟩
      rw [h2]
      simp only [cntC, if_pos he]
      rw [wrap_add', Int.mul_add, Int.mul_one, Int.add_assoc]
    · have hu : (updF cs by_ l c)[k]? = some x := by
        unfold updF
        rw [List.getElem?_set_ne he]
        exact h
      obtain ⟨n, h1, h2, h3⟩ := moveC_get cs by_ codes _ k _ hu
      refine ⟨n, h1, ?_, h3⟩
      rw [h2]
      simp only [cntC, if_neg he, Int.zero_add]
theorem moveC_len (cs : List ByteArray) (by_ : Int) (l : List Bx) (codes : List ByteArray) : (moveC cs by_ l codes).length = l.length := by
  have := congrArg List.length (moveC_cods cs by_ codes l)
  simpa using this
theorem put_back {l : List Bx} {cs : List ByteArray} (h : mvB (-1) l cs = true) : mvR (-1) l cs = moveC (cods l) (-1) l cs ∧ goodC (mvR (-1) l cs) = true ∧ mvB 1 (mvR (-1) l cs) cs = true ∧ mvR 1 (mvR (-1) l cs) cs = l := by
  have h0 := h
  simp only [mvB, Bool.and_eq_true] at h0
  obtain ⟨ho, hg⟩ := h0
  obtain ⟨h1, h2, h3⟩ := okWay_iff.1 ho
  have e : mvR (-1) l cs = moveC (cods l) (-1) l cs := by simp only [mvR, h, if_true]
  rw [e]
  have ec := moveC_cods (cods l) (-1) cs l
  have el := moveC_len (cods l) (-1) l cs
  have hall : allIn (moveC (cods l) (-1) l cs) cs := fun c hc => by
    obtain ⟨k, hk1, hk2⟩ := h1 c hc
    exact ⟨k, by rw [ec]; exact hk1, by rw [el]; exact hk2⟩
  have hway : okWay (moveC (cods l) (-1) l cs) cs = true := okWay_iff.2 ⟨hall, hg, h3⟩
  have back : moveC (cods (moveC (cods l) (-1) l cs)) 1 (moveC (cods l) (-1) l cs) cs = l := by
    rw [ec]
    refine List.ext_getElem? fun k => ?_
    by_cases hk : k < l.length
    · obtain ⟨n1, a1, a2, a3⟩ := moveC_get (cods l) (-1) cs l k l[k] (List.getElem?_eq_getElem hk)
      obtain ⟨n2, b1, b2, b3⟩ := moveC_get (cods l) 1 cs (moveC (cods l) (-1) l cs) k _ a1
      have hx := isBx_iff (goodC_box h2 l[k] (List.getElem_mem hk))
      have hw : IntKind.i64.wrap l[k].2.2.2 = l[k].2.2.2 := wrap_id (by omega) (by omega)
      have hn1 := a3 hw
      have hn2 := b3 hn1
      have : n2 = l[k].2.2.2 := by
        rw [← hn2, b2]
        simp only
        rw [← hn1, a2, wrap_add', show l[k].2.2.2 + -1 * cntC (cods l) cs k + 1 * cntC (cods l) cs k = l[k].2.2.2 by omega, hw]
      rw [b1, this, List.getElem?_eq_getElem hk]
    · rw [List.getElem?_eq_none (by rw [moveC_len, el]; omega), List.getElem?_eq_none (by omega)]
  have hb : mvB 1 (moveC (cods l) (-1) l cs) cs = true := by
    simp only [mvB, hway, back, h2, Bool.and_self]
  exact ⟨rfl, hg, hb, by simp only [mvR, hb, if_true, back]⟩
theorem sum_set {f : Bx → Int} (y : Bx) : ∀ (l : List Bx) (k : Nat) (hk : k < l.length), ((l.set k y).map f).sum = (l.map f).sum - f l[k] + f y
  | x :: l, 0, _ => by simp; omega
  | x :: l, k + 1, hk => by
    have ih := sum_set (f := f) y l k (by simpa using hk)
    simp only [List.set_cons_succ, List.map_cons, List.sum_cons, List.getElem_cons_succ, ih]
    omega
theorem counts_move (cs : List ByteArray) (by_ : Int) : ∀ (codes : List ByteArray) (l : List Bx), (∀ c ∈ codes, ∃ k : Nat, fC cs c = k ∧ k < l.length) → IntKind.i64.wrap (counts (moveC cs by_ l codes)) = IntKind.i64.wrap (counts l + by_ * codes.length)
  | [], l, _ => by simp [moveC]
  | c :: codes, l, h => by
    obtain ⟨k, hk1, hk2⟩ := h c (by simp)
    show IntKind.i64.wrap (counts (moveC cs by_ (updF cs by_ l c) codes)) = _
    have el : (updF cs by_ l c).length = l.length := by simp [updF]
    rw [counts_move cs by_ codes _ (fun d hd => by rw [el]; exact h d (by simp [hd]))]
    have : counts (updF cs by_ l c) = counts l - l[k].2.2.2 + IntKind.i64.wrap (l[k].2.2.2 + by_) := by
      unfold counts updF
      rw [hk1, Int.toNat_natCast, getB hk2]
      exact sum_set (f := fun x => x.2.2.2) _ l k hk2
    rw [this, List.length_cons]
    have e : by_ * ((codes.length + 1 : Nat) : Int) = by_ * (codes.length : Int) + by_ := by
      rw [show ((codes.length + 1 : Nat) : Int) = (codes.length : Int) + 1 by omega, Int.mul_add, Int.mul_one]
    rw [e]
    generalize by_ * (codes.length : Int) = q
    have := wrap_add' (l[k].2.2.2 + by_) (counts l - l[k].2.2.2 + q)
    rw [show counts l - l[k].2.2.2 + IntKind.i64.wrap (l[k].2.2.2 + by_) + q = IntKind.i64.wrap (l[k].2.2.2 + by_) + (counts l - l[k].2.2.2 + q) by omega, this]
    congr 1
    omega
theorem counts_small {l : List Bx} (h : goodC l = true) : 0 ≤ counts l ∧ counts l ≤ 319968 := by
  obtain ⟨h1, h2⟩ := goodC_counts h
  have := sum_le (f := fun x : Bx => x.2.2.2) (M := 9999) h2
  unfold counts
  omega
theorem counts_take {l : List Bx} {cs : List ByteArray} (h : mvB (-1) l cs = true) : counts (mvR (-1) l cs) = counts l - cs.length ∧ cs.length ≤ 60 ∧ goodC l = true := by
  obtain ⟨e, hg, _, _⟩ := put_back h
  simp only [mvB, Bool.and_eq_true] at h
  obtain ⟨h1, h2, h3⟩ := okWay_iff.1 h.1
  have hc := counts_move (cods l) (-1) cs l h1
  rw [← e] at hc
  have s1 := counts_small hg
  have s2 := counts_small h2
  rw [wrap_id (by omega) (by omega), wrap_id (by omega) (by omega)] at hc
  exact ⟨by omega, h3, h2⟩
end Go.Proofs.YtbbfddflmnclaaaDoor
/-
  Cases: draws.
-/
namespace Go.Proofs.YtbbfddflmnclaaaDoor
open Go Go.V
set_option linter.unusedSimpArgs false

theorem SmallC.okB {l : List Bx} (h : SmallC l 40) : okBx l := ⟨by have := h.len; omega, fun x hx => by have := h.size x hx; omega⟩
theorem d_DrawTakeTypes (l : List Int) (h : Bytes l) : ∃ (m : List Bx) (cs : List ByteArray), F_spec_DrawTakeTypes [bytesD l] = some (.ret [bxs m, txs cs] []) ∧ SmallC m 40 ∧ cs.length ≤ 100 := by
  obtain ⟨m, c1, e1, l1, k1⟩ := d_anyCase ⟨l, 0, 0⟩ 0 (cur0 h) (by omega)
  obtain ⟨cs, c2, e2, l2, k2⟩ := d_codesOf c1 m _ k1 (by omega) l1
  have e1' : F_spec_l1Cur_anyCase [curZ l] = some (.ret [bxs m] [curD c1]) := e1
  rw [t_spec_DrawTakeTypes, t_spec_DrawHandWay]
  exact ⟨m, cs, by simp -implicitDefEqProofs [bldCur, e1', e2, tupA], l1, l2⟩
theorem d_DrawPutTypes (l : List Int) (h : Bytes l) : ∃ (m : List Bx) (cs : List ByteArray), F_spec_DrawPutTypes [bytesD l] = some (.ret [bxs m, txs cs] []) ∧ SmallC m 40 ∧ cs.length ≤ 100 := by
  obtain ⟨m, c1, e1, l1, k1⟩ := d_anyCase ⟨l, 0, 0⟩ 0 (cur0 h) (by omega)
  have e1' : F_spec_l1Cur_anyCase [curZ l] = some (.ret [bxs m] [curD c1]) := e1
  obtain ⟨cs, c2, e2, l2, k2⟩ := d_codesOf c1 m _ k1 (by omega) l1
  obtain ⟨b, c3, e3, k3⟩ := d_one c1 8 _ k1 (by omega) (by omega)
  rw [t_spec_DrawPutTypes]
  by_cases h0 : 0 < m.length
  · cases b
    · obtain ⟨cs, c4, e4, l4, k4⟩ := d_codesOf c3 m _ k3 (by omega) l1
      exact ⟨m, cs, by simp -implicitDefEqProofs [bldCur, e1', h0, e3, e4, viaD], l1, l4⟩
    · obtain ⟨v, c4, e4, l4, u4, k4⟩ := d_pick c3 2 _ k3 (by omega) (by omega)
      have hs := set_count m 0 (IntKind.i64.wrap (9998 + v)) h0
      refine ⟨m.set 0 (m[0].1, m[0].2.1, m[0].2.2.1, IntKind.i64.wrap (9998 + v)), [m[0].1], ?_, l1.set (show m[0].1.size ≤ 3 from l1.size _ (List.getElem_mem h0)), by simp⟩
      have ht : mkArr 1 [T m[0].1] = some (txs [m[0].1]) := tx_one _
      have hs' : stD 1 (bxs m) (.ref 0 3) (I (IntKind.i64.wrap (9998 + v))) = some (bxs (m.set 0 (m[0].1, m[0].2.1, m[0].2.2.1, IntKind.i64.wrap (9998 + v)))) := hs
      have hr : refI 4 (bxs m) (I 0) = some (.ref 0 0) := by simp [refI, h0]
      have hel : elemD 4 (bxs (m.set 0 (m[0].1, m[0].2.1, m[0].2.2.1, IntKind.i64.wrap (9998 + v)))) (I 0) = some [T m[0].1, I m[0].2.1, I m[0].2.2.1, I (IntKind.i64.wrap (9998 + v))] := by simp [elemD, h0]
      simp -implicitDefEqProofs only [bldCur, show boxD 3 (D.agg [bytesD l, I 0, D.v (Value.int IntKind.u64 0)]) = some (curZ l) by simp, Option.bind_some, liveD_agg, liveD_ref, ref0_eq, e1', callK_ret, sl_zero, liveD_arr, lenD_arr, List.length_map, bin_gtr, show (0 : Int) < (m.length : Int) by omega, decide_true, gate_t, gateC_t, e3, nrmK_some, sl_succ, pickD_B, ifD_B, if_true, e4, bin_add, hr, refAdd_ref, Nat.zero_add, hs', viaD, hel, Option.map_some, offD_ptr, List.drop_zero, ldD_ptr, takeD_f, chkV_v, ht]
  · exact ⟨m, cs, by simp -implicitDefEqProofs [bldCur, e1', h0, e2, viaD], l1, l2⟩
theorem d_DrawSwapBoxes (l : List Int) (h : Bytes l) : ∃ (m : List Bx) (a b : Int), F_spec_DrawSwapBoxes [bytesD l] = some (.ret [bxs m, I a, I b] []) ∧ SmallC m 40 := by
  obtain ⟨m, c1, e1, l1, k1⟩ := d_anyCase ⟨l, 0, 0⟩ 0 (cur0 h) (by omega)
  have e1' : F_spec_l1Cur_anyCase [curZ l] = some (.ret [bxs m] [curD c1]) := e1
  have hm := l1.len
  have hl : (if (m.length : Int) < 1 then (1 : Int) else (m.length : Int)) ≤ 1000000000 := by split <;> omega
  have hx := e_spec_l1Most 1 m.length
  obtain ⟨v2, c2, e2, l2, u2, k2⟩ := d_pick c1 (if (m.length : Int) < 1 then 1 else (m.length : Int)) _ k1 (by omega) hl
  obtain ⟨v3, c3, e3, l3, u3, k3⟩ := d_pick c2 (if (m.length : Int) < 1 then 1 else (m.length : Int)) _ k2 (by omega) hl
  obtain ⟨v4, c4, e4, l4, k4⟩ := d_among c3 [0, (m.length : Int), -1] _ k3 (by omega) (by simp) (by simp)
  have hw : IntKind.i64.wrap ((m.length : Int) - 1) = (m.length : Int) - 1 := wrap_id (by omega) (by omega)
  obtain ⟨v5, c5, e5, l5, k5⟩ := d_among c4 [0, v3, (m.length : Int) - 1, v4] _ k4 (by omega) (by simp) (by simp)
  have m1 := mkInts (l := [0, (m.length : Int), -1])
  have m2 := mkInts (l := [0, v3, (m.length : Int) - 1, v4])
  simp only [List.map_cons, List.map_nil] at m1 m2
  rw [t_spec_DrawSwapBoxes]
  refine ⟨m, v2, v5, ?_, l1⟩
  simp -implicitDefEqProofs only [bldCur, show boxD 3 (D.agg [bytesD l, I 0, D.v (Value.int IntKind.u64 0)]) = some (curZ l) by simp, Option.bind_some, liveD_agg, liveD_ref, ref0_eq, e1', callK_ret, sl_zero, lenD_arr, List.length_map, hx, e2, e3, bin_sub, hw, m1, e4, m2, e5]
theorem d_DrawIsBox (l : List Int) (h : Bytes l) : ∃ x : Bx, F_spec_DrawIsBox [bytesD l] = some (.ret [bx x] []) ∧ x.1.size ≤ 3 := by
  obtain ⟨m, c1, e1, l1, k1⟩ := d_anyCase ⟨l, 0, 0⟩ 0 (cur0 h) (by omega)
  have e1' : F_spec_l1Cur_anyCase [curZ l] = some (.ret [bxs m] [curD c1]) := e1
  have hm := l1.len
  rw [t_spec_DrawIsBox]
  by_cases h0 : m.length = 0
  · refine ⟨(⟨#[]⟩, 0, 0, 0), ?_, by show 0 ≤ 3; omega⟩
    simp -implicitDefEqProofs [bldCur, e1', h0, bldD, fillD]
  · obtain ⟨v2, c2, e2, l2, u2, k2⟩ := d_pick c1 (m.length : Int) _ k1 (by omega) (by omega)
    obtain ⟨i, rfl⟩ := Int.eq_ofNat_of_zero_le l2
    have hi : i < m.length := by omega
    refine ⟨m[i], ?_, l1.size _ (List.getElem_mem hi)⟩
    have h0' : ¬ (m.length : Int) = 0 := by omega
    simp -implicitDefEqProofs [bldCur, e1', h0, h0', e2, hi, isV_bx, chkV]
def exB : List ByteArray := [⟨⟨[97]⟩⟩, ⟨⟨[97, 98]⟩⟩, ⟨⟨[102]⟩⟩, ⟨⟨[101]⟩⟩, ⟨⟨[122, 122]⟩⟩, ⟨⟨[]⟩⟩]
theorem exB_mk : mkArr 1 [T ⟨⟨[97]⟩⟩, T ⟨⟨[97, 98]⟩⟩, T ⟨⟨[102]⟩⟩, T ⟨⟨[101]⟩⟩, T ⟨⟨[122, 122]⟩⟩, T ⟨⟨[]⟩⟩] = some (txs exB) := mkTxs (l := exB)
theorem d_DrawBoxOf (l : List Int) (h : Bytes l) : ∃ (m : List Bx) (c : ByteArray), F_spec_DrawBoxOf [bytesD l] = some (.ret [bxs m, T c] []) ∧ SmallC m 40 := by
  obtain ⟨m, c1, e1, l1, k1⟩ := d_anyCase ⟨l, 0, 0⟩ 0 (cur0 h) (by omega)
  have e1' : F_spec_l1Cur_anyCase [curZ l] = some (.ret [bxs m] [curD c1]) := e1
  obtain ⟨v2, c2, e2, l2, k2⟩ := d_of c1 exB _ k1 (by omega) (by decide) (by decide)
  rw [t_spec_DrawBoxOf]
  refine ⟨m, v2, ?_, l1⟩
  simp -implicitDefEqProofs only [tS, bldCur, show boxD 3 (D.agg [bytesD l, I 0, D.v (Value.int IntKind.u64 0)]) = some (curZ l) by simp, Option.bind_some, liveD_agg, liveD_ref, ref0_eq, e1', callK_ret, sl_zero, exB_mk, e2]
theorem e_spec_IsBox (x : Bx) (h : x.1.size ≤ 1048576) : F_spec_IsBox [bx x] = some (.ret [B (isBx x)] []) := by
  rw [t_spec_IsBox]
  simp -implicitDefEqProofs [e_spec_caBox x h]
end Go.Proofs.YtbbfddflmnclaaaDoor
/-
  The law of cases.
-/
namespace Go.Proofs.YtbbfddflmnclaaaDoor
open Go Go.V
set_option linter.unusedSimpArgs false

theorem tpI (n : Int) (ds : List D) : tupAt (.tup (I n :: ds)) 0 = some (I n) := rfl
theorem tpT (s : ByteArray) (ds : List D) : tupAt (.tup (T s :: ds)) 0 = some (T s) := rfl
theorem tp1 (a : D) (v : Value) (ds : List D) : tupAt (.tup (a :: .v v :: ds)) 1 = some (.v v) := rfl
theorem tp2 (a b : D) (v : Value) (ds : List D) : tupAt (.tup (a :: b :: .v v :: ds)) 2 = some (.v v) := rfl
theorem tp1A (a : D) (z : Nat) (l ds : List D) : tupAt (.tup (a :: .arr z l :: ds)) 1 = some (.arr z l) := rfl
theorem tpC1 (a : D) (v : Value) (ds : List D) : tupAt (tupCut (.tup (a :: .v v :: ds)) 0) 1 = some (.v v) := rfl
theorem mvR_len {l : List Bx} {by_ : Int} {cs : List ByteArray} (h : l.length ≤ 40) : (mvR by_ l cs).length ≤ 40 := by
  unfold mvR
  split
  · rw [moveC_len]; exact h
  · simp
theorem mvR_ok {l : List Bx} {by_ : Int} {cs : List ByteArray} (h : okBx l) : okBx (mvR by_ l cs) := by
  unfold mvR
  split
  · exact okBx_cods h (moveC_cods _ _ _ _)
  · exact ⟨by simp, fun x hx => by simp at hx⟩
theorem swR_len {l : List Bx} {a b : Int} (h : l.length ≤ 40) : (swR l a b).length ≤ 40 := by
  unfold swR
  split
  · rw [swapG_len]; exact h
  · simp
theorem swR_back {l : List Bx} {a b : Int} (ho : okBx l) (h : swB l a b = true) : okBx (swR l a b) ∧ swB (swR l a b) a b = true ∧ swR (swR l a b) a b = l := by
  obtain ⟨h1, h2, h3⟩ := swB_iff.1 h
  have e : swR l a b = swapG l a.toNat b.toNat := by simp only [swR, h, if_true]
  have ha : a.toNat < l.length := by omega
  have hb : b.toNat < l.length := by omega
  have hs : swB (swapG l a.toNat b.toNat) a b = true := swB_iff.2 ⟨swapG_good ha hb h1, by rw [swapG_len]; exact h2, by rw [swapG_len]; exact h3⟩
  rw [e]
  exact ⟨okBx_cods ho (swapG_cods ha hb), hs, by simp only [swR, hs, if_true, swapG_back ha hb]⟩
theorem st_bx (x : Bx) : stD 4 (.agg [T ⟨⟨[]⟩⟩, I 0, I 0, I 0]) (.ref 0 0) (bx x) = some (bx x) := by simp
theorem fld_bx (x : Bx) : fldD true 4 0 (bx x) = some (bx x) := by simp
theorem ck_bx (x : Bx) : chkV (bx x) = some (bx x) := by simp [chkV, isV_bx]
theorem ldt_bx (x : Bx) : ldD true 4 (.ptr [T x.1, I x.2.1, I x.2.2.1, I x.2.2.2]) = some (bx x) := by simp

set_option maxRecDepth 100000 in
set_option maxHeartbeats 2000000 in
theorem law_Cases (code more : List Int) (hb1 : ∀ n ∈ code, 0 ≤ n ∧ n ≤ 255) (hb2 : ∀ n ∈ more, 0 ≤ n ∧ n ≤ 255) (hl1 : code.length ≤ maxLen) (hl2 : more.length ≤ maxLen) : F_laws_FnCases [bytesD code, bytesD more] = some (.ret [B true] []) := by
  rw [t_laws_FnCases]
  unfold maxLen at hl1 hl2
  by_cases hbig : 1048576 < IntKind.i64.wrap ((code.length : Int) + (more.length : Int))
  · simp -implicitDefEqProofs [hbig]
  obtain ⟨m, cs, e1, k1, c1⟩ := d_DrawTakeTypes code ⟨hb1, by omega⟩
  have ho := k1.okB
  have hm := k1.len
  have i1 := e_impl_TakeG m cs ho (by omega)
  have s1 := e_spec_TakeG m cs ho (by omega)
  have i2 := e_impl_TypesIn' m ho
  have s2 := e_spec_TypesIn m ho
  have i3 := e_impl_CaseText m ho
  have s3 := e_spec_CaseText m ho
  have i4 := e_impl_IsCase m ho
  have q1 := e_laws_qBoxes (mvR (-1) m cs) (by have := mvR_len (by_ := -1) (cs := cs) hm; omega)
  have hb : bin .gtr false [] (I (IntKind.i64.wrap ((code.length : Int) + (more.length : Int)))) (I 1048576) = some (B false) := by rw [bin_gtr, decide_eq_false hbig]
  have hl : lenD false (bytesD code) = some (I code.length) := by simp
  have hl' : lenD false (bytesD more) = some (I more.length) := by simp
  have hs : mvB (-1) m cs = true → goodC m = true := fun h => (counts_take h).2.2
  have main : ∀ g : Bool, goodC m = g → ∀ (K : (List D → Option Out) → Option Out) (k : List D → Option Out), k [bytesD more, bxs m, B g] = some (.ret [B true] []) → (∀ j : List D → Option Out, j [bytesD more, bxs m, B g] = some (.ret [B true] []) → K j = some (.ret [B true] [])) → joinC K k = some (.ret [B true] []) := by
    intro g _ K k hk hK
    exact joinC_of (fun s => s = [bytesD more, bxs m, B g]) (by rintro s rfl; exact hk) (fun j hj => hK j (hj _ rfl))
  cases hg : goodC m
  case' false =>
    have hv : mvB (-1) m cs = false := by
      cases h : mvB (-1) m cs
      · rfl
      · rw [hs h] at hg; cases hg
    rw [hg] at i2 s2 i3 s3 i4
    rw [hv] at i1 s1
    simp -implicitDefEqProofs only [hl, hl', bin_add, hb, Option.bind_some, ifD_B, Bool.false_eq_true, if_false, e1, callK_ret, tupA, tp1A, tpC1, tpI, tp1, tpT, i1, s1, i2, s2, i3, s3, i4, q1, sl_zero, bin_neqB, bin_neqS, beq_self_eq_true, Bool.not_true, gate_f, gate_t, gate_s, gateC_f, nrmK_some, un_not, pickD_B, bin_neq, decide_true]
    refine main false hg _ _ ?_ (fun _ hj => hj)
  case' true =>
    rw [hg] at i2 s2 i3 s3 i4
    cases hv : mvB (-1) m cs
    case' false =>
      rw [hv] at i1 s1
      simp -implicitDefEqProofs only [hl, hl', bin_add, hb, Option.bind_some, ifD_B, Bool.false_eq_true, if_false, if_true, e1, callK_ret, tupA, tp1A, tpC1, tpI, tp1, tpT, i1, s1, i2, s2, i3, s3, i4, q1, sl_zero, bin_neqB, bin_neqS, beq_self_eq_true, Bool.not_true, gate_f, gate_t, gate_s, gateC_f, nrmK_some, un_not, pickD_B, bin_neq, decide_true]
      refine main true hg _ _ ?_ (fun _ hj => hj)
    case' true =>
      obtain ⟨p1, p2, p3, p4⟩ := put_back hv
      obtain ⟨t1, t2, _⟩ := counts_take hv
      have hok := mvR_ok (by_ := -1) (cs := cs) ho
      have i5 := e_impl_PutG (mvR (-1) m cs) cs hok (by omega)
      rw [p3, p4] at i5
      have i6 := e_impl_TypesIn' (mvR (-1) m cs) hok
      rw [p2] at i6
      simp only [if_true, t1] at i6
      have q2 := e_laws_qBoxes m (by omega)
      have sm := counts_small hg
      have hw : IntKind.i64.wrap (counts m - (cs.length : Int)) = counts m - cs.length := wrap_id (by omega) (by omega)
      have hlc : lenD false (txs cs) = some (I cs.length) := by simp
      rw [hv] at i1 s1
      simp -implicitDefEqProofs only [hl, hl', bin_add, hb, Option.bind_some, ifD_B, Bool.false_eq_true, if_false, if_true, e1, callK_ret, tupA, tp1A, tpC1, tpI, tp1, tpT, i1, s1, i2, s2, i3, s3, i4, q1, sl_zero, bin_neqB, bin_neqS, beq_self_eq_true, Bool.not_true, gate_f, gate_t, gate_s, gateC_f, nrmK_some, un_not, pickD_B, bin_neq, decide_true, i5, i6, q2, hlc, bin_sub, hw]
      refine main true hg _ _ ?_ (fun _ hj => hj)
  all_goals
    clear i1 s1 i2 s2 i3 s3 q1 main hs
    have hlm : lenD false (bxs m) = some (I m.length) := by simp
    simp -implicitDefEqProofs only [sl_zero, sl_succ, hlm, Option.bind_some]
    refine loop_bind (.ext 0 [bytesD more]) (loop_for m.length (fun i => [bytesD more, bxs m, B _, bxs m, I m.length, I i]) _ (fun i hi => ?_) ?_ rfl rfl) ?_
    · have hi' : (i : Int) < (m.length : Int) := by omega
      have hw : IntKind.i64.wrap ((i : Int) + 1) = ((i + 1 : Nat) : Int) := by rw [wrap_id (by omega) (by omega)]; omega
      have hel : elemD 4 (bxs m) (I (i : Int)) = some [T m[i].1, I m[i].2.1, I m[i].2.2.1, I m[i].2.2.2] := by simp [hi]
      have ib := e_impl_BoxOf m m[i].1 ho
      have ix := e_impl_IsBox m[i] (ho.2 _ (List.getElem_mem hi))
      first
        | (have hq : boB m m[i].1 = false := by simp only [boB, hg, Bool.false_and]
           rw [hq] at ib
           simp -implicitDefEqProofs only [sl_zero, sl_succ, bin_lss, hi', decide_true, Option.bind_some, ifD_B, if_true, hel, Option.map_some, ldt_bx, ck_bx, tS, st_bx, liveD_agg, atD_agg, List.drop_zero, takeD_f, ib, callK_ret, tpI, tp1, bin_neqB, beq_self_eq_true, Bool.not_true, gate_f, gate_t, gate_s, gateC_f, gateC_s, nrmK_some, pickD_B, Bool.false_eq_true, if_false, bin_add, hw])
        | (obtain ⟨hq1, hq2⟩ := boI_own hg i hi
           rw [hq1, hq2] at ib
           rw [goodC_box hg _ (List.getElem_mem hi)] at ix
           simp -implicitDefEqProofs only [sl_zero, sl_succ, bin_lss, hi', decide_true, Option.bind_some, ifD_B, if_true, hel, Option.map_some, ldt_bx, ck_bx, tS, st_bx, liveD_agg, atD_agg, List.drop_zero, takeD_f, ib, callK_ret, tpI, tp1, bin_neqB, beq_self_eq_true, Bool.not_true, gate_f, gate_t, gate_s, gateC_f, gateC_s, nrmK_some, pickD_B, Bool.false_eq_true, if_false, bin_neq, fld_bx, ix, un_not, bin_add, hw])
    · simp
    · obtain ⟨u, a, b, e2, k2⟩ := d_DrawSwapBoxes more ⟨hb2, by omega⟩
      obtain ⟨v, put, e3, k3, c3⟩ := d_DrawPutTypes more ⟨hb2, by omega⟩
      obtain ⟨x, e4, k4⟩ := d_DrawIsBox more ⟨hb2, by omega⟩
      obtain ⟨y, c, e5, k5⟩ := d_DrawBoxOf more ⟨hb2, by omega⟩
      have ou := k2.okB
      have ov := k3.okB
      have oy := k5.okB
      have lu := k2.len
      have lv := k3.len
      have j1 := e_impl_SwapBoxes u a b ou
      have r1 := e_spec_SwapBoxesG u a b ou
      have j2 := e_impl_PutG v put ov (by omega)
      have r2 := e_spec_PutG v put ov (by omega)
      have j3 := e_impl_IsBox x (by omega)
      have r3 := e_spec_IsBox x (by omega)
      have j4 := e_impl_BoxOf y c oy
      have r4 := e_spec_BoxOf y c oy
      have w1 := e_laws_qBoxes (swR u a b) (by have := swR_len (a := a) (b := b) lu; omega)
      have w2 := e_laws_qBoxes (mvR 1 v put) (by have := mvR_len (by_ := 1) (cs := put) lv; omega)
      have w3 := e_laws_qBoxes u (by omega)
      simp -implicitDefEqProofs only [outK_ext, Nat.beq_refl, ifN_B, if_true, sl_zero, e2, e3, e4, e5, callK_ret, tupA, tp1A, tp1, tp2, tpC1, tpI, Option.bind_some, j1, r1, j2, r2, tS, st_bx, j4, r4, bin_neqB, beq_self_eq_true, Bool.not_true, gate_f, gate_t, gate_s, gateC_f, nrmK_some, w1, w2, un_not, pickD_B, fld_bx, j3, r3, bin_neq, decide_true, ifD_B, Bool.false_eq_true, if_false]
      cases hsw : swB u a b
      · simp -implicitDefEqProofs only [Bool.false_eq_true, if_false]
      · obtain ⟨z1, z2, z3⟩ := swR_back ou hsw
        have j5 := e_impl_SwapBoxes (swR u a b) a b z1
        rw [z2, z3] at j5
        simp -implicitDefEqProofs only [if_true, j5, callK_ret, tupA, tpC1, Option.bind_some, gate_t, gateC_t, w3, nrmK_some, sl_zero, pickD_B]
end Go.Proofs.YtbbfddflmnclaaaDoor
