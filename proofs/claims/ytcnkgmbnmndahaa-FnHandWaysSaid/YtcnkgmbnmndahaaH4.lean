/-
  Draws of cases and of codes.
-/
import Derived.Test.YtcnkgmbnmndahaaH3
import Derived.Laws.Bits64b
namespace Go.Proofs.Ytcnkgmbnmndahaa
open Go Go.V
set_option linter.unusedSimpArgs false

structure Cur where
  code : List Int
  at_ : Nat
  seed : Int
abbrev bytesD (l : List Int) : D := .arr 1 (l.map U)
abbrev curD (c : Cur) : D := .agg [bytesD c.code, I c.at_, .v (.int .u64 c.seed)]
structure Cur.ok (c : Cur) (B : Nat) : Prop where
  by_ : ∀ n ∈ c.code, 0 ≤ n ∧ n ≤ 255
  len : c.code.length ≤ 9223372036854775807
  at_ : c.at_ ≤ B
  lo : 0 ≤ c.seed
  hi : c.seed < 18446744073709551616

theorem convD_i64 {k : IntKind} {n : Int} : convD (some .i64) false (.v (.int k n)) = some (I (IntKind.i64.wrap n)) := rfl
theorem convD_u64 {k : IntKind} {n : Int} : convD (some .u64) false (.v (.int k n)) = some (.v (.int .u64 (IntKind.u64.wrap n))) := rfl
theorem bin_shr40 {n : Int} {bl : Bool} {eq : List Nat} : bin .shr bl eq (.v (.int .u64 n)) (.v (.int .u64 40)) = some (.v (.int .u64 (n.fdiv 1099511627776))) := by
  simp [bin, IntKind.bits]
theorem bin_and {a b : Int} {bl : Bool} {eq : List Nat} : bin .and bl eq (.v (.int .u64 a)) (.v (.int .u64 b)) = some (.v (.int .u64 (bits .and .u64 a b))) := by simp [bin, intBin]
theorem and255 {n : Int} (h0 : 0 ≤ n) (h1 : n < 18446744073709551616) : 0 ≤ bits .and .u64 n 255 ∧ bits .and .u64 n 255 ≤ 255 := by
  obtain ⟨m, rfl⟩ := Int.eq_ofNat_of_zero_le h0
  have := bits_and_u64_nat m 255 (by omega) (by omega)
  rw [show ((255 : Int)) = ((255 : Nat) : Int) from rfl, this]
  have h2 : m &&& 255 ≤ 255 := Nat.and_le_right
  omega
theorem wrap64 (n : Int) : 0 ≤ IntKind.u64.wrap n ∧ IntKind.u64.wrap n < 18446744073709551616 := by
  rw [IntKind.wrap_u64]
  omega

def seedOf (s n : Int) : Int := IntKind.u64.wrap (IntKind.u64.wrap (IntKind.u64.wrap (s * 6364136223846793005) + IntKind.u64.wrap n) + 1442695040888963407)
def topOf (s : Int) : Int := bits .and .u64 (s.fdiv 1099511627776) 255
theorem seedOf_in (s n : Int) : 0 ≤ seedOf s n ∧ seedOf s n < 18446744073709551616 := wrap64 _
theorem topOf_in {s : Int} (h0 : 0 ≤ s) (h1 : s < 18446744073709551616) : 0 ≤ topOf s ∧ topOf s ≤ 255 := by
  unfold topOf
  rw [Int.fdiv_eq_ediv_of_nonneg _ (by omega)]
  exact and255 (by omega) (by omega)
theorem seed_run {s n : Int} : ((bin BinOp.mul false [] (.v (.int .u64 s)) (.v (.int .u64 6364136223846793005))).bind fun x => (bin BinOp.add false [] x (.v (.int .u64 (IntKind.u64.wrap n)))).bind fun y => bin BinOp.add false [] y (.v (.int .u64 1442695040888963407))) = some (.v (.int .u64 (seedOf s n))) := by
  simp only [bin_mul, bin_add, Option.bind_some, seedOf]
theorem next1 (c : Cur) (B : Nat) (h : c.ok B) (hB : B ≤ 1000000000000) (hc : c.at_ < c.code.length) : F_spec_l1Cur_next [curD c] = some (.ret [I c.code[c.at_]] [curD ⟨c.code, c.at_ + 1, seedOf c.seed c.code[c.at_]⟩]) := by
  have hl := h.len
  have ha := h.at_
  have hw : IntKind.i64.wrap ((c.at_ : Int) + 1) = (c.at_ : Int) + 1 := wrap_id (by omega) (by omega)
  have hn := h.by_ c.code[c.at_] (List.getElem_mem hc)
  have hv : IntKind.i64.wrap c.code[c.at_] = c.code[c.at_] := wrap_id (by omega) (by omega)
  have hle : (c.at_ : Int) + 1 ≤ (c.code.length : Int) := by omega
  rw [t_spec_l1Cur_next]
  simp -implicitDefEqProofs [hc, hw, hv, hle, convD_i64, convD_u64, seedOf]
theorem next2 (c : Cur) (B : Nat) (h : c.ok B) (hB : B ≤ 1000000000000) (hc : ¬ c.at_ < c.code.length) : F_spec_l1Cur_next [curD c] = some (.ret [I (topOf (seedOf c.seed 0))] [curD ⟨c.code, c.at_ + 1, seedOf c.seed 0⟩]) := by
  have hl := h.len
  have ha := h.at_
  have hw : IntKind.i64.wrap ((c.at_ : Int) + 1) = (c.at_ : Int) + 1 := wrap_id (by omega) (by omega)
  have hle : ¬ (c.at_ : Int) + 1 ≤ (c.code.length : Int) := by omega
  have hq := topOf_in (seedOf_in c.seed 0).1 (seedOf_in c.seed 0).2
  have hv : IntKind.i64.wrap (topOf (seedOf c.seed 0)) = topOf (seedOf c.seed 0) := wrap_id (by omega) (by omega)
  unfold topOf seedOf at hv
  rw [t_spec_l1Cur_next]
  simp -implicitDefEqProofs [hc, hw, hle, convD_i64, convD_u64, bin_shr40, bin_and, hv, seedOf, topOf]
theorem d_next (c : Cur) (B : Nat) (h : c.ok B) (hB : B ≤ 1000000000000) : ∃ v c', F_spec_l1Cur_next [curD c] = some (.ret [I v] [curD c']) ∧ 0 ≤ v ∧ v ≤ 255 ∧ c'.ok (B + 1) := by
  have ha := h.at_
  by_cases hc : c.at_ < c.code.length
  · have hn := h.by_ c.code[c.at_] (List.getElem_mem hc)
    exact ⟨_, _, next1 c B h hB hc, hn.1, hn.2, ⟨h.by_, h.len, Nat.succ_le_succ ha, (seedOf_in _ _).1, (seedOf_in _ _).2⟩⟩
  · have hq := topOf_in (seedOf_in c.seed 0).1 (seedOf_in c.seed 0).2
    exact ⟨_, _, next2 c B h hB hc, hq.1, hq.2, ⟨h.by_, h.len, Nat.succ_le_succ ha, (seedOf_in _ _).1, (seedOf_in _ _).2⟩⟩

theorem d_pick (c : Cur) (n : Int) (B : Nat) (h : c.ok B) (hB : B ≤ 100000000000) (hn : n ≤ 1000000000) : ∃ v c', F_spec_l1Cur_pick [curD c, I n] = some (.ret [I v] [curD c']) ∧ 0 ≤ v ∧ (v < n ∨ v = 0) ∧ c'.ok (B + 2) := by
  rw [t_spec_l1Cur_pick]
  by_cases h1 : n ≤ 1
  · exact ⟨0, c, by simp [h1], by omega, .inr rfl, ⟨h.by_, h.len, by have := h.at_; omega, h.lo, h.hi⟩⟩
  obtain ⟨v, c1, e1, l1, u1, k1⟩ := d_next c B h (by omega)
  have hn0 : ¬ n = 0 := by omega
  by_cases h2 : 200 < n
  · obtain ⟨v2, c2, e2, l2, u2, k2⟩ := d_next c1 (B + 1) k1 (by omega)
    have w1 : IntKind.i64.wrap (v * 256) = v * 256 := wrap_id (by omega) (by omega)
    have w2 : IntKind.i64.wrap (v * 256 + v2) = v * 256 + v2 := wrap_id (by omega) (by omega)
    refine ⟨(v * 256 + v2).tmod n, c2, by simp [h1, h2, e1, e2, w1, w2, hn0], Int.tmod_nonneg _ (by omega), .inl (Int.tmod_lt_of_pos _ (by omega)), k2⟩
  · refine ⟨v.tmod n, c1, by simp [h1, h2, e1, hn0], Int.tmod_nonneg _ l1, .inl (Int.tmod_lt_of_pos _ (by omega)), ⟨k1.by_, k1.len, by have := k1.at_; omega, k1.lo, k1.hi⟩⟩
theorem d_one (c : Cur) (n : Int) (B : Nat) (h : c.ok B) (hB : B ≤ 100000000000) (hn : n ≤ 1000000000) : ∃ (b : Bool) (c' : Cur), F_spec_l1Cur_one [curD c, I n] = some (.ret [.v (.bool b)] [curD c']) ∧ c'.ok (B + 2) := by
  rw [t_spec_l1Cur_one]
  obtain ⟨v, c1, e1, l1, u1, k1⟩ := d_pick c n B h hB hn
  exact ⟨_, c1, by simp [e1]; rfl, k1⟩
abbrev intsD (l : List Int) : D := .arr 1 (l.map I)
theorem d_among (c : Cur) (l : List Int) (B : Nat) (h : c.ok B) (hB : B ≤ 100000000000) (hl : l ≠ []) (hn : l.length ≤ 1000000000) : ∃ v c', F_spec_l1Cur_among [curD c, intsD l] = some (.ret [I v] [curD c']) ∧ v ∈ l ∧ c'.ok (B + 2) := by
  rw [t_spec_l1Cur_among]
  have hp : 0 < l.length := List.length_pos_iff.2 hl
  obtain ⟨v, c1, e1, l1, u1, k1⟩ := d_pick c l.length B h hB (by omega)
  obtain ⟨i, rfl⟩ := Int.eq_ofNat_of_zero_le l1
  have hi : i < l.length := by omega
  exact ⟨l[i], c1, by simp [e1, hi], List.getElem_mem hi, k1⟩

theorem Cur.ok.mono {c : Cur} {B C : Nat} (h : c.ok B) (hBC : B ≤ C) : c.ok C := ⟨h.by_, h.len, Nat.le_trans h.at_ hBC, h.lo, h.hi⟩
theorem mkInts {l : List Int} : mkArr 1 (l.map I) = some (intsD l) := by
  have : lenOkD 1 (l.map I).length (l.map I) = true := by
    unfold lenOkD
    simp
  simp only [mkArr, this, if_true]
theorem mkTxs {l : List ByteArray} : mkArr 1 (l.map T) = some (txs l) := by
  have : lenOkD 1 (l.map T).length (l.map T) = true := by
    unfold lenOkD
    simp
  simp only [mkArr, this, if_true]
theorem bldCur (l : List Int) : bldD [(0, 1)] [D.arr 1 [], I 0, D.v (.int .u64 0)] [bytesD l] = some (.agg [bytesD l, I 0, D.v (.int .u64 0)]) := by
  simp [bldD, fillD]
structure Bytes (l : List Int) : Prop where
  by_ : ∀ n ∈ l, 0 ≤ n ∧ n ≤ 255
  len : l.length ≤ 9223372036854775807
theorem cur0 {l : List Int} (h : Bytes l) : Cur.ok ⟨l, 0, 0⟩ 0 := ⟨h.by_, h.len, Nat.le_refl _, Int.le_refl 0, show (0 : Int) < 18446744073709551616 by decide⟩
abbrev curZ (l : List Int) : D := .agg [bytesD l, I 0, .v (.int .u64 0)]
theorem d_of (c : Cur) (l : List ByteArray) (B : Nat) (h : c.ok B) (hB : B ≤ 100000000000) (hl : l ≠ []) (hn : l.length ≤ 1000000000) : ∃ v c', F_spec_l1Cur_of [curD c, txs l] = some (.ret [T v] [curD c']) ∧ v ∈ l ∧ c'.ok (B + 2) := by
  rw [t_spec_l1Cur_of]
  have hp : 0 < l.length := List.length_pos_iff.2 hl
  obtain ⟨v, c1, e1, l1, u1, k1⟩ := d_pick c l.length B h hB (by omega)
  obtain ⟨i, rfl⟩ := Int.eq_ofNat_of_zero_le l1
  have hi : i < l.length := by omega
  exact ⟨l[i], c1, by simp [e1, hi], List.getElem_mem hi, k1⟩

/-! ### fonts -/
abbrev so2 (x : ByteArray × Int) : D := .agg [T x.1, I x.2]
abbrev sos (f : List (ByteArray × Int)) : D := .arr 2 (f.map so2)
theorem isV_so2 (x : ByteArray × Int) : (so2 x).isV = true := rfl
theorem sos_app (f : List (ByteArray × Int)) (x : ByteArray × Int) (h : f.length ≤ 1048576) : appD 2 24 (sos f) (sos [x]) = some (sos (f ++ [x])) := by
  rw [appD_eq, if_pos (by simp only [List.length_map, List.length_singleton]; omega), ← List.map_append]
def L12 : List ByteArray := [⟨⟨[97]⟩⟩, ⟨⟨[97, 98]⟩⟩, ⟨⟨[97, 98, 99]⟩⟩, ⟨⟨[98]⟩⟩, ⟨⟨[98, 98]⟩⟩, ⟨⟨[99]⟩⟩, ⟨⟨[100]⟩⟩, ⟨⟨[101]⟩⟩, ⟨⟨[102]⟩⟩, ⟨⟨[102, 102]⟩⟩, ⟨⟨[102, 105]⟩⟩, ⟨⟨[105]⟩⟩]
theorem L12_len : L12.length = 12 := rfl
theorem L12_size : ∀ s ∈ L12, s.size = 1 ∨ s.size = 2 ∨ s.size = 3 := by
  intro s hs
  simp only [L12, List.mem_cons, List.not_mem_nil, or_false] at hs
  rcases hs with rfl | rfl | rfl | rfl | rfl | rfl | rfl | rfl | rfl | rfl | rfl | rfl
  · exact .inl rfl
  · exact .inr (.inl rfl)
  · exact .inr (.inr rfl)
  · exact .inl rfl
  · exact .inr (.inl rfl)
  · exact .inl rfl
  · exact .inl rfl
  · exact .inl rfl
  · exact .inl rfl
  · exact .inr (.inl rfl)
  · exact .inr (.inl rfl)
  · exact .inl rfl
theorem bldS (a : ByteArray) (n : Int) : bldD [(0, 1), (1, 1)] [T ⟨#[]⟩, I 0] [T a, I n] = some (so2 (a, n)) := by simp [bldD, fillD]
theorem d_font (c : Cur) (B : Nat) (h : c.ok B) (hB : B ≤ 1000000000) : ∃ (f : List (ByteArray × Int)) (c' : Cur), F_spec_l1Cur_font [curD c] = some (.ret [sos f] [curD c']) ∧ (1 ≤ f.length ∧ f.length ≤ 12) ∧ (∀ x ∈ f, x.1.size ≤ 3) ∧ c'.ok (B + 100) := by
  rw [t_spec_l1Cur_font]
  have m12 : mkArr 1 [T ⟨⟨[97]⟩⟩, T ⟨⟨[97, 98]⟩⟩, T ⟨⟨[97, 98, 99]⟩⟩, T ⟨⟨[98]⟩⟩, T ⟨⟨[98, 98]⟩⟩, T ⟨⟨[99]⟩⟩, T ⟨⟨[100]⟩⟩, T ⟨⟨[101]⟩⟩, T ⟨⟨[102]⟩⟩, T ⟨⟨[102, 102]⟩⟩, T ⟨⟨[102, 105]⟩⟩, T ⟨⟨[105]⟩⟩] = some (txs L12) := mkTxs (l := L12)
  simp -implicitDefEqProofs only [m12, Option.bind_some, lenD_arr, List.length_map]
  refine loop_wf_bind (fun X => ∃ f c', X = some (.ret [sos f] [curD c']) ∧ (1 ≤ f.length ∧ f.length ≤ 12) ∧ (∀ x ∈ f, x.1.size ≤ 3) ∧ c'.ok (B + 100)) (fun a : Cur × List (ByteArray × Int) × Nat => [curD a.1, sos a.2.1, txs L12, I L12.length, I a.2.2])
    (fun a => a.1.ok (B + 8 * a.2.2) ∧ a.2.1.length ≤ a.2.2 ∧ a.2.2 ≤ 12 ∧ ∀ x ∈ a.2.1, x.1.size ≤ 3) (fun a => 12 - a.2.2) (fun o => ∃ (c' : Cur) (f : List (ByteArray × Int)), o = .ext 0 [curD c', sos f] ∧ c'.ok (B + 96) ∧ f.length ≤ 12 ∧ ∀ x ∈ f, x.1.size ≤ 3) (fun a hI => ?_) (c, [], 0) ⟨h.mono (by omega), by simp, by simp, by simp⟩ rfl (fun o ho => ?_)
  · obtain ⟨ca, fa, i⟩ := a
    obtain ⟨h1, h2, h3, h4⟩ := hI
    simp only at h1 h2 h3 h4
    have hL := L12_len
    by_cases hlt : i < L12.length
    · have hs := L12_size L12[i] (List.getElem_mem hlt)
      have hw : IntKind.i64.wrap ((i : Int) + 1) = (i : Int) + 1 := wrap_id (by omega) (by omega)
      have add : ∀ (ca2 : Cur), ca2.ok (B + 8 * i + 2) → ∃ (x : ByteArray × Int) (ca3 : Cur), (x.1 = L12[i] ∧ ca3.ok (B + 8 * (i + 1))) ∧ ∃ v : Int, F_spec_l1Cur_pick [curD ca2, I 4] = some (.ret [I v] [curD ca3]) ∧ (x.2 = IntKind.i64.wrap (4 + IntKind.i64.wrap ((L12[i].size : Int) * IntKind.i64.wrap (2 + v)))) := fun ca2 hk => by
        obtain ⟨v, c3, e3, _, _, k3⟩ := d_pick ca2 4 _ hk (by omega) (by omega)
        exact ⟨(L12[i], _), c3, ⟨rfl, k3.mono (by omega)⟩, v, e3, rfl⟩
      have app1 : ∀ x : ByteArray × Int, appD 2 24 (sos fa) (sos [x]) = some (sos (fa ++ [x])) := fun x => sos_app fa x (by omega)
      have mk1 : ∀ x : ByteArray × Int, mkArr 2 [so2 x] = some (sos [x]) := fun x => by simp [mkArr, lenOkD]
      have ck1 : ∀ x : ByteArray × Int, chkA (sos [x]) = some (sos [x]) := fun x => chkA_map isV_so2
      have grow : ∀ (x : ByteArray × Int) (c3 : Cur), x.1 = L12[i] → c3.ok (B + 8 * (i + 1)) → (c3.ok (B + 8 * (i + 1)) ∧ (fa ++ [x]).length ≤ i + 1 ∧ i + 1 ≤ 12 ∧ ∀ y ∈ fa ++ [x], y.1.size ≤ 3) := fun x c3 hx hk => ⟨hk, by simp; omega, by omega, fun y hy => by
        rcases List.mem_append.1 hy with hy | hy
        · exact h4 y hy
        · simp at hy
          subst hy
          rw [hx]
          omega⟩
      rcases hs with hs | hs
      · obtain ⟨b, c2, e2, k2⟩ := d_one ca 12 _ h1 (by omega) (by omega)
        cases b
        · obtain ⟨x, c3, ⟨hx, hk⟩, v, e3, hv⟩ := add c2 k2
          refine .inl ⟨(c3, fa ++ [x], i + 1), ?_, grow x c3 hx hk, by simp; omega⟩
          obtain ⟨xa, xb⟩ := x
          simp only at hx hv
          subst hx hv
          simp -implicitDefEqProofs [hlt, hs, hw, e2, e3, bldS, mk1, ck1, app1, -appD_eq]
        · refine .inl ⟨(c2, fa, i + 1), ?_, ⟨k2.mono (by simp; omega), by simp; omega, by simp; omega, h4⟩, by simp; omega⟩
          simp -implicitDefEqProofs [hlt, hs, hw, e2]
      · have hs1 : ¬ (L12[i].size : Int) = 1 := by omega
        have hs2 : (1 : Int) < (L12[i].size : Int) := by omega
        obtain ⟨b, c2, e2, k2⟩ := d_one ca 3 _ h1 (by omega) (by omega)
        cases b
        · refine .inl ⟨(c2, fa, i + 1), ?_, ⟨k2.mono (by simp; omega), by simp; omega, by simp; omega, h4⟩, by simp; omega⟩
          simp -implicitDefEqProofs [hlt, hs1, hs2, hw, e2]
        · obtain ⟨x, c3, ⟨hx, hk⟩, v, e3, hv⟩ := add c2 k2
          refine .inl ⟨(c3, fa ++ [x], i + 1), ?_, grow x c3 hx hk, by simp; omega⟩
          obtain ⟨xa, xb⟩ := x
          simp only at hx hv
          subst hx hv
          simp -implicitDefEqProofs [hlt, hs1, hs2, hw, e2, e3, bldS, mk1, ck1, app1, -appD_eq]
    · refine .inr ⟨.ext 0 [curD ca, sos fa], ?_, rfl, ca, fa, rfl, h1.mono (by omega), by omega, h4⟩
      simp -implicitDefEqProofs [hlt]
  · obtain ⟨c1, f, rfl, k1, k2, k3⟩ := ho
    by_cases h0 : f = []
    · refine ⟨[(⟨⟨[97]⟩⟩, 9)], c1, ?_, by simp, fun x hx => by
        simp at hx
        subst hx
        show 1 ≤ 3
        omega, k1.mono (by omega)⟩
      have mk1 : mkArr 2 [so2 (⟨⟨[97]⟩⟩, 9)] = some (sos [(⟨⟨[97]⟩⟩, 9)]) := by simp [mkArr, lenOkD]
      simp -implicitDefEqProofs [h0, bldS, mk1]
    · have hp : 0 < f.length := List.length_pos_iff.2 h0
      refine ⟨f, c1, ?_, ⟨hp, k2⟩, k3, k1.mono (by omega)⟩
      simp -implicitDefEqProofs [h0]

/-! ### cases -/
theorem bldB (a : ByteArray) (r c n : Int) : bldD [(0, 1), (1, 1), (2, 1), (3, 1)] [T ⟨#[]⟩, I 0, I 0, I 0] [T a, I r, I c, I n] = some (bx (a, r, c, n)) := by simp [bldD, fillD]
theorem bxs_app (l : List Bx) (x : Bx) (h : l.length ≤ 1048576) : appD 4 40 (bxs l) (bxs [x]) = some (bxs (l ++ [x])) := by
  rw [appD_eq, if_pos (by simp only [List.length_map, List.length_singleton]; omega), ← List.map_append]
theorem bx_one (x : Bx) : mkArr 4 [bx x] = some (bxs [x]) := by simp [mkArr, lenOkD]
theorem bx_chk (x : Bx) : chkA (bxs [x]) = some (bxs [x]) := chkA_map isV_bx
structure SmallC (l : List Bx) (n : Nat) : Prop where
  len : l.length ≤ n
  size : ∀ x ∈ l, x.1.size ≤ 3
theorem SmallC.snoc {l : List Bx} {n : Nat} (h : SmallC l n) {x : Bx} (hx : x.1.size ≤ 3) : SmallC (l ++ [x]) (n + 1) := ⟨by have := h.len; simp; omega, fun y hy => by
  rcases List.mem_append.1 hy with hy | hy
  · exact h.size y hy
  · simp at hy
    subst hy
    exact hx⟩
theorem d_boxes (c : Cur) (f : List (ByteArray × Int)) (B : Nat) (h : c.ok B) (hB : B ≤ 1000000000) (hf : f.length ≤ 12) (hs : ∀ x ∈ f, x.1.size ≤ 3) : ∃ (l : List Bx) (c' : Cur), F_spec_l1Cur_boxes [curD c, sos f] = some (.ret [bxs l] [curD c']) ∧ l.length = f.length ∧ SmallC l 12 ∧ c'.ok (B + 100) := by
  rw [t_spec_l1Cur_boxes]
  obtain ⟨v1, c1, e1, l1, u1, k1⟩ := d_pick c 20 B h (by omega) (by omega)
  simp -implicitDefEqProofs only [liveD_agg, Option.bind_some, ref0_eq, e1, callK_ret, sl_zero, lenD_arr, List.length_map]
  have m1 := mkInts (l := [0, 1, 2, 5, 20])
  simp only [List.map_cons, List.map_nil] at m1
  refine loop_wf_bind (fun X => ∃ l c', X = some (.ret [bxs l] [curD c']) ∧ l.length = f.length ∧ SmallC l 12 ∧ c'.ok (B + 100)) (fun a : Cur × List Bx × Int => [curD a.1, bxs a.2.1, I a.2.2, sos f, I f.length, I a.2.1.length])
    (fun a => a.1.ok (B + 2 + 4 * a.2.1.length) ∧ a.2.1.length ≤ f.length ∧ SmallC a.2.1 a.2.1.length) (fun a => 12 - a.2.1.length) (fun o => ∃ (c' : Cur) (l : List Bx), o = .ext 0 [curD c', bxs l] ∧ c'.ok (B + 96) ∧ l.length = f.length ∧ SmallC l l.length) (fun a hI => ?_) (c1, [], v1) ⟨k1.mono (by simp), by simp, ⟨by simp, by simp⟩⟩ rfl (fun o ho => ?_)
  · obtain ⟨ca, la, da⟩ := a
    obtain ⟨h1, h2, h3⟩ := hI
    simp only at h1 h2 h3
    by_cases hlt : la.length < f.length
    · obtain ⟨v2, c2, e2, _, k2⟩ := d_among ca [0, 1, 2, 5, 20] _ h1 (by omega) (by simp) (by simp)
      obtain ⟨v3, c3, e3, _, _, k3⟩ := d_pick c2 2 _ k2 (by omega) (by omega)
      have hw : IntKind.i64.wrap ((la.length : Int) + 1) = (la.length : Int) + 1 := wrap_id (by omega) (by omega)
      have ap := bxs_app la (f[la.length].1, (IntKind.i64.wrap (da.tdiv 10)).tmod 10, da.tmod 10, v2) (by omega)
      refine .inl ⟨(c3, la ++ [(f[la.length].1, (IntKind.i64.wrap (da.tdiv 10)).tmod 10, da.tmod 10, v2)], IntKind.i64.wrap (da + IntKind.i64.wrap (1 + v3))), ?_, ⟨k3.mono (by simp; omega), by simp; omega, ?_⟩, by simp; omega⟩
      · simp -implicitDefEqProofs [hlt, e2, e3, hw, m1, bldB, bx_one, bx_chk, ap, -appD_eq, -List.map_cons]
      · have := h3.snoc (x := (f[la.length].1, (IntKind.i64.wrap (da.tdiv 10)).tmod 10, da.tmod 10, v2)) (hs _ (List.getElem_mem hlt))
        simpa using this
    · refine .inr ⟨.ext 0 [curD ca, bxs la], ?_, rfl, ca, la, rfl, h1.mono (by omega), by omega, h3⟩
      simp -implicitDefEqProofs [hlt]
  · obtain ⟨c2, l, rfl, g1, g2, g3⟩ := ho
    refine ⟨l, c2, ?_, g2, ⟨by omega, g3.size⟩, g1.mono (by omega)⟩
    simp -implicitDefEqProofs
theorem set_code (l : List Bx) (i : Nat) (s : ByteArray) (hi : i < l.length) : stD 1 (bxs l) (.ref i 0) (T s) = some (bxs (l.set i (s, l[i].2.1, l[i].2.2.1, l[i].2.2.2))) := by
  rw [stD_part (c := [T l[i].1, I l[i].2.1, I l[i].2.2.1, I l[i].2.2.2]) (by simp [hi]) (by simp)]
  simp [List.map_set]
theorem set_count (l : List Bx) (i : Nat) (v : Int) (hi : i < l.length) : stD 1 (bxs l) (.ref i 3) (I v) = some (bxs (l.set i (l[i].1, l[i].2.1, l[i].2.2.1, v))) := by
  rw [stD_part (c := [T l[i].1, I l[i].2.1, I l[i].2.2.1, I l[i].2.2.2]) (by simp [hi]) (by simp)]
  simp [List.map_set]
theorem SmallC.set {l : List Bx} {n : Nat} (h : SmallC l n) {i : Nat} {x : Bx} (hx : x.1.size ≤ 3) : SmallC (l.set i x) n := ⟨by have := h.len; simp; omega, fun y hy => by
  rcases List.mem_or_eq_of_mem_set hy with hy | rfl
  · exact h.size y hy
  · exact hx⟩
theorem SmallC.mono {l : List Bx} {n m : Nat} (h : SmallC l n) (hn : n ≤ m) : SmallC l m := ⟨Nat.le_trans h.len hn, h.size⟩
def twoB (a b : Int) : ByteArray := ⟨#[UInt8.ofNat a.toNat, UInt8.ofNat b.toNat]⟩
theorem twoB_size (a b : Int) : (twoB a b).size ≤ 3 := by show 2 ≤ 3; omega
theorem strD_two (a b : Int) : strD (.arr 1 [U a, U b]) = some (T (twoB a b)) := rfl
theorem convD_u8 {k : IntKind} {n : Int} : convD (some .u8) false (.v (.int k n)) = some (U (IntKind.u8.wrap n)) := rfl
theorem d_anyCase (c : Cur) (B : Nat) (h : c.ok B) (hB : B ≤ 100000000) : ∃ (l : List Bx) (c' : Cur), F_spec_l1Cur_anyCase [curD c] = some (.ret [bxs l] [curD c']) ∧ SmallC l 40 ∧ c'.ok (B + 400) := by
  obtain ⟨f, c1, e1, ⟨f1, f2⟩, f3, k1⟩ := d_font c B h (by omega)
  obtain ⟨l, c2, e2, q1, q2, k2⟩ := d_boxes c1 f _ k1 (by omega) f2 f3
  obtain ⟨v3, c3, e3, l3, u3, k3⟩ := d_pick c2 l.length _ k2 (by omega) (by omega)
  obtain ⟨k, rfl⟩ := Int.eq_ofNat_of_zero_le l3
  have hk : k < l.length := by omega
  obtain ⟨v4, c4, e4, l4, u4, k4⟩ := d_pick c3 30 _ k3 (by omega) (by omega)
  have m1 := mkInts (l := [10, -1, 9])
  have m2 := mkInts (l := [9999, 10000, -1])
  have m3 := mkTxs (l := [⟨#[]⟩, ⟨⟨[97]⟩⟩, ⟨⟨[122, 122]⟩⟩])
  simp only [List.map_cons, List.map_nil] at m1 m2 m3
  rw [t_spec_l1Cur_anyCase]
  by_cases h0 : v4 = 0
  · obtain ⟨v5, c5, e5, _, k5⟩ := d_among c4 [10, -1, 9] _ k4 (by omega) (by simp) (by simp)
    have hs := set_row l k v5 hk
    exact ⟨l.set k (l[k].1, v5, l[k].2.2.1, l[k].2.2.2), c5, by simp -implicitDefEqProofs [e1, e2, e3, e4, h0, m1, e5, hk, hs, -List.map_cons], (q2.mono (by omega)).set (show l[k].1.size ≤ 3 from q2.size _ (List.getElem_mem hk)), k5.mono (by omega)⟩
  by_cases h1 : v4 = 1
  · obtain ⟨v5, c5, e5, _, k5⟩ := d_among c4 [9999, 10000, -1] _ k4 (by omega) (by simp) (by simp)
    have hs := set_count l k v5 hk
    exact ⟨l.set k (l[k].1, l[k].2.1, l[k].2.2.1, v5), c5, by simp -implicitDefEqProofs [e1, e2, e3, e4, h0, h1, m2, e5, hk, hs, -List.map_cons], (q2.mono (by omega)).set (show l[k].1.size ≤ 3 from q2.size _ (List.getElem_mem hk)), k5.mono (by omega)⟩
  by_cases h2 : v4 = 2
  · obtain ⟨v5, c5, e5, h5, k5⟩ := d_of c4 [⟨#[]⟩, ⟨⟨[97]⟩⟩, ⟨⟨[122, 122]⟩⟩] _ k4 (by omega) (by simp) (by simp)
    have hs := set_code l k v5 hk
    have hz : v5.size ≤ 3 := by
      simp only [List.mem_cons, List.not_mem_nil, or_false] at h5
      rcases h5 with rfl | rfl | rfl
      · show 0 ≤ 3; omega
      · show 1 ≤ 3; omega
      · show 2 ≤ 3; omega
    exact ⟨l.set k (v5, l[k].2.1, l[k].2.2.1, l[k].2.2.2), c5, by simp -implicitDefEqProofs [e1, e2, e3, e4, h0, h1, h2, m3, e5, hk, hs, -List.map_cons], (q2.mono (by omega)).set hz, k5.mono (by omega)⟩
  by_cases h3 : v4 = 3
  · have hs := take_bxs (l := l) (i := 0) (Nat.zero_le _)
    refine ⟨[], c4, ?_, ⟨by simp, by simp⟩, k4.mono (by omega)⟩
    simp -implicitDefEqProofs [e1, e2, e3, e4, h0, h1, h2, h3]
    simp [sliceD]
  by_cases h4 : v4 = 4
  · obtain ⟨v5, c5, e5, l5, u5, k5⟩ := d_pick c4 2 _ k4 (by omega) (by omega)
    have hw5 : IntKind.i64.wrap (32 + v5) = 32 + v5 := wrap_id (by omega) (by omega)
    subst h4
    simp -implicitDefEqProofs [e1, e2, e3, e4, e5, hw5]
    refine loop_wf_bind (fun X => ∃ l c', X = some (.ret [bxs l] [curD c']) ∧ SmallC l 40 ∧ c'.ok (B + 400)) (fun a : List Bx => [curD c5, bxs a, I (32 + v5)])
      (fun a => (a.length : Int) ≤ 32 + v5 ∧ SmallC a a.length) (fun a => 40 - a.length) (fun o => ∃ l : List Bx, o = .ext 1 [curD c5, bxs l] ∧ SmallC l 40) (fun a hI => ?_) [] ⟨by simp; omega, ⟨by simp, by simp⟩⟩ rfl (fun o ho => ?_)
    · obtain ⟨g1, g2⟩ := hI
      by_cases hlt : (a.length : Int) < 32 + v5
      · have ma : ∀ x y : Int, mkArr 1 [U x, U y] = some (.arr 1 [U x, U y]) := fun x y => by simp [mkArr, lenOkD]
        have ap : ∀ x : Bx, appD 4 40 (bxs a) (bxs [x]) = some (bxs (a ++ [x])) := fun x => bxs_app a x (by omega)
        refine .inl ⟨a ++ [(twoB (IntKind.u8.wrap (IntKind.i64.wrap (97 + IntKind.i64.wrap ((a.length : Int).tdiv 6)))) (IntKind.u8.wrap (IntKind.i64.wrap (97 + (a.length : Int).tmod 6))), IntKind.i64.wrap ((a.length : Int).tdiv 10), (a.length : Int).tmod 10, 1)], ?_, ⟨by simp; omega, ?_⟩, by simp; omega⟩
        · simp -implicitDefEqProofs [hlt, convD_u8, ma, strD_two, bldB, bx_one, bx_chk, ap, -appD_eq, -List.map_cons]
        · have := g2.snoc (x := (twoB (IntKind.u8.wrap (IntKind.i64.wrap (97 + IntKind.i64.wrap ((a.length : Int).tdiv 6)))) (IntKind.u8.wrap (IntKind.i64.wrap (97 + (a.length : Int).tmod 6))), IntKind.i64.wrap ((a.length : Int).tdiv 10), (a.length : Int).tmod 10, 1)) (twoB_size _ _)
          rw [List.length_append]
          exact this
      · refine .inr ⟨.ext 1 [curD c5, bxs a], ?_, rfl, a, rfl, g2.mono (by omega)⟩
        simp -implicitDefEqProofs [hlt]
    · obtain ⟨l', rfl, g⟩ := ho
      exact ⟨l', c5, by simp -implicitDefEqProofs, g, k5.mono (by omega)⟩
  exact ⟨l, c4, by simp -implicitDefEqProofs [e1, e2, e3, e4, h0, h1, h2, h3, h4], q2.mono (by omega), k4.mono (by omega)⟩

/-! ### codes -/
theorem mem3 {v : ByteArray} : v ∈ ([⟨⟨[122, 122, 122]⟩⟩, ⟨#[]⟩, ⟨⟨[97]⟩⟩] : List ByteArray) → True := fun _ => trivial
theorem codes_loop (l : List Bx) (n : Int) (hn : 0 ≤ n ∧ n ≤ 100) (c : Cur) (B : Nat) (h : c.ok B) (hB : B ≤ 1000000000) (body : List D → Option Out) (K : Out → Option Out) (R : Option Out → Prop)
    (h1 : ∀ (ca : Cur) (out : List ByteArray) (C : Nat), ca.ok C → C ≤ 2000000000 → (out.length : Int) < n → ∃ (c3 : Cur) (s : ByteArray), body [curD ca, bxs l, txs out, I n] = some (.nrm [curD c3, bxs l, txs (out ++ [s]), I n]) ∧ c3.ok (C + 8))
    (h2 : ∀ (ca : Cur) (out : List ByteArray), ¬ (out.length : Int) < n → body [curD ca, bxs l, txs out, I n] = some (.ext 0 [curD ca, txs out]))
    (h3 : ∀ (ca : Cur) (out : List ByteArray), ca.ok (B + 1000) → out.length ≤ 100 → R (K (.ext 0 [curD ca, txs out]))) : R ((loopC body [curD c, bxs l, txs [], I n]).bind K) := by
  refine loop_wf_bind R (fun a : Cur × List ByteArray => [curD a.1, bxs l, txs a.2, I n]) (fun a => a.1.ok (B + 8 * a.2.length) ∧ (a.2.length : Int) ≤ n) (fun a => 100 - a.2.length) (fun o => ∃ (c' : Cur) (out : List ByteArray), o = .ext 0 [curD c', txs out] ∧ c'.ok (B + 1000) ∧ out.length ≤ 100) (fun a hI => ?_) (c, []) ⟨h.mono (by omega), by simp; omega⟩ rfl (fun o ho => ?_)
  · obtain ⟨ca, out⟩ := a
    obtain ⟨g1, g2⟩ := hI
    simp only at g1 g2
    by_cases hlt : (out.length : Int) < n
    · obtain ⟨c3, s, e, k⟩ := h1 ca out _ g1 (by omega) hlt
      exact .inl ⟨(c3, out ++ [s]), e, ⟨k.mono (by simp; omega), by simp; omega⟩, by simp; omega⟩
    · exact .inr ⟨_, h2 ca out hlt, rfl, ca, out, rfl, g1.mono (by omega), by omega⟩
  · obtain ⟨c', out, rfl, g1, g2⟩ := ho
    exact h3 c' out g1 g2
theorem d_codesOf (c : Cur) (l : List Bx) (B : Nat) (h : c.ok B) (hB : B ≤ 100000000) (hl : SmallC l 40) : ∃ (cs : List ByteArray) (c' : Cur), F_spec_l1Cur_codesOf [curD c, bxs l] = some (.ret [txs cs] [curD c']) ∧ cs.length ≤ 100 ∧ c'.ok (B + 2000) := by
  obtain ⟨v1, c1, e1, l1, u1, k1⟩ := d_pick c 7 B h (by omega) (by omega)
  obtain ⟨b, c2, e2, k2⟩ := d_one c1 12 _ k1 (by omega) (by omega)
  have m3 := mkTxs (l := [⟨⟨[122, 122, 122]⟩⟩, ⟨#[]⟩, ⟨⟨[97]⟩⟩])
  simp only [List.map_cons, List.map_nil] at m3
  have hlen := hl.len
  rw [t_spec_l1Cur_codesOf]
  cases b
  · simp -implicitDefEqProofs only [liveD_agg, Option.bind_some, ref0_eq, e1, e2, callK_ret, sl_zero, ifD_B, Bool.false_eq_true, if_false]
    refine codes_loop l v1 (by omega) c2 _ k2 (by omega) _ _ (fun X => ∃ (cs : List ByteArray) (c' : Cur), X = some (.ret [txs cs] [curD c']) ∧ cs.length ≤ 100 ∧ c'.ok (B + 2000)) (fun ca out C hC hC2 hlt => ?_) (fun ca out hlt => ?_) (fun ca out hk ho => ?_)
    · by_cases h0 : l = []
      · obtain ⟨v3, c3, e3, _, k3⟩ := d_of ca [⟨⟨[122, 122, 122]⟩⟩, ⟨#[]⟩, ⟨⟨[97]⟩⟩] _ hC (by omega) (by simp) (by simp)
        have ap := tx_app out v3 (by omega)
        exact ⟨c3, v3, by simp -implicitDefEqProofs [hlt, h0, m3, e3, tx_one, tx_chk, ap, -appD_eq, -List.map_cons], k3.mono (by omega)⟩
      · obtain ⟨b4, c4, e4, k4⟩ := d_one ca 60 _ hC (by omega) (by omega)
        cases b4
        · obtain ⟨v5, c5, e5, l5, u5, k5⟩ := d_pick c4 l.length _ k4 (by omega) (by omega)
          have hp : 0 < l.length := List.length_pos_iff.2 h0
          obtain ⟨k, rfl⟩ := Int.eq_ofNat_of_zero_le l5
          have hk : k < l.length := by omega
          have ap := tx_app out l[k].1 (by omega)
          exact ⟨c5, l[k].1, by simp -implicitDefEqProofs [hlt, h0, e4, e5, hk, tx_one, tx_chk, ap, -appD_eq, -List.map_cons], k5.mono (by omega)⟩
        · obtain ⟨v3, c3, e3, _, k3⟩ := d_of c4 [⟨⟨[122, 122, 122]⟩⟩, ⟨#[]⟩, ⟨⟨[97]⟩⟩] _ k4 (by omega) (by simp) (by simp)
          have ap := tx_app out v3 (by omega)
          exact ⟨c3, v3, by simp -implicitDefEqProofs [hlt, h0, e4, m3, e3, tx_one, tx_chk, ap, -appD_eq, -List.map_cons], k3.mono (by omega)⟩
    · simp -implicitDefEqProofs [hlt]
    · exact ⟨out, ca, by simp -implicitDefEqProofs, ho, hk.mono (by omega)⟩
  · obtain ⟨v6, c6, e6, l6, u6, k6⟩ := d_pick c2 2 _ k2 (by omega) (by omega)
    have hw : IntKind.i64.wrap (60 + v6) = 60 + v6 := wrap_id (by omega) (by omega)
    simp -implicitDefEqProofs only [liveD_agg, Option.bind_some, ref0_eq, e1, e2, e6, callK_ret, sl_zero, ifD_B, if_true, bin_add, hw]
    refine codes_loop l (60 + v6) (by omega) c6 _ k6 (by omega) _ _ (fun X => ∃ (cs : List ByteArray) (c' : Cur), X = some (.ret [txs cs] [curD c']) ∧ cs.length ≤ 100 ∧ c'.ok (B + 2000)) (fun ca out C hC hC2 hlt => ?_) (fun ca out hlt => ?_) (fun ca out hk ho => ?_)
    · by_cases h0 : l = []
      · obtain ⟨v3, c3, e3, _, k3⟩ := d_of ca [⟨⟨[122, 122, 122]⟩⟩, ⟨#[]⟩, ⟨⟨[97]⟩⟩] _ hC (by omega) (by simp) (by simp)
        have ap := tx_app out v3 (by omega)
        exact ⟨c3, v3, by simp -implicitDefEqProofs [hlt, h0, m3, e3, tx_one, tx_chk, ap, -appD_eq, -List.map_cons], k3.mono (by omega)⟩
      · obtain ⟨b4, c4, e4, k4⟩ := d_one ca 60 _ hC (by omega) (by omega)
        cases b4
        · obtain ⟨v5, c5, e5, l5, u5, k5⟩ := d_pick c4 l.length _ k4 (by omega) (by omega)
          have hp : 0 < l.length := List.length_pos_iff.2 h0
          obtain ⟨k, rfl⟩ := Int.eq_ofNat_of_zero_le l5
          have hk : k < l.length := by omega
          have ap := tx_app out l[k].1 (by omega)
          exact ⟨c5, l[k].1, by simp -implicitDefEqProofs [hlt, h0, e4, e5, hk, tx_one, tx_chk, ap, -appD_eq, -List.map_cons], k5.mono (by omega)⟩
        · obtain ⟨v3, c3, e3, _, k3⟩ := d_of c4 [⟨⟨[122, 122, 122]⟩⟩, ⟨#[]⟩, ⟨⟨[97]⟩⟩] _ k4 (by omega) (by simp) (by simp)
          have ap := tx_app out v3 (by omega)
          exact ⟨c3, v3, by simp -implicitDefEqProofs [hlt, h0, e4, m3, e3, tx_one, tx_chk, ap, -appD_eq, -List.map_cons], k3.mono (by omega)⟩
    · simp -implicitDefEqProofs [hlt]
    · exact ⟨out, ca, by simp -implicitDefEqProofs, ho, hk.mono (by omega)⟩
theorem d_DrawBestSwap (l : List Int) (h : Bytes l) : ∃ (m : List Bx) (cs : List ByteArray), F_spec_DrawBestSwap [bytesD l] = some (.ret [bxs m, txs cs] []) ∧ SmallC m 40 ∧ cs.length ≤ 100 := by
  obtain ⟨m, c1, e1, l1, k1⟩ := d_anyCase ⟨l, 0, 0⟩ 0 (cur0 h) (by omega)
  obtain ⟨cs, c2, e2, l2, k2⟩ := d_codesOf c1 m _ k1 (by omega) l1
  have e1' : F_spec_l1Cur_anyCase [curZ l] = some (.ret [bxs m] [curD c1]) := e1
  rw [t_spec_DrawBestSwap, t_spec_DrawHandWay]
  exact ⟨m, cs, by simp -implicitDefEqProofs [bldCur, e1', e2], l1, l2⟩
theorem d_DrawNearestFree (l : List Int) (h : Bytes l) : ∃ (m : List Bx) (a b : Int), F_spec_DrawNearestFree [bytesD l] = some (.ret [bxs m, I a, I b] []) ∧ SmallC m 40 := by
  obtain ⟨m, c1, e1, l1, k1⟩ := d_anyCase ⟨l, 0, 0⟩ 0 (cur0 h) (by omega)
  have e1' : F_spec_l1Cur_anyCase [curZ l] = some (.ret [bxs m] [curD c1]) := e1
  obtain ⟨v2, c2, e2, l2, k2⟩ := d_among c1 [3, 10, -1] _ k1 (by omega) (by simp) (by simp)
  obtain ⟨v3, c3, e3, l3, k3⟩ := d_among c2 [0, 0, 1, 2, 5, 9, v2] _ k2 (by omega) (by simp) (by simp)
  obtain ⟨v4, c4, e4, l4, k4⟩ := d_among c3 [3, 10, -1] _ k3 (by omega) (by simp) (by simp)
  obtain ⟨v5, c5, e5, l5, k5⟩ := d_among c4 [0, 1, 4, 9, v4] _ k4 (by omega) (by simp) (by simp)
  have m1 := mkInts (l := [3, 10, -1])
  have m2 := mkInts (l := [0, 0, 1, 2, 5, 9, v2])
  have m3 := mkInts (l := [0, 1, 4, 9, v4])
  simp only [List.map_cons, List.map_nil] at m1 m2 m3
  rw [t_spec_DrawNearestFree]
  exact ⟨m, v3, v5, by simp -implicitDefEqProofs [bldCur, e1', e2, e3, e4, e5, m1, m2, m3, -List.map_cons], l1⟩

end Go.Proofs.Ytcnkgmbnmndahaa
