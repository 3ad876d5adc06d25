/-
  Stocks: spec's tables of fewest pieces.
-/
import Derived.Test.YtoocdnbkiejihaaDoorRows
import Derived.Test.YtoocdnbkiejihaaDoorTie
import Derived.Test.YtoocdnbkiejihaaDoorCards
import Derived.Test.YtoocdnbkiejihaaDoorM7
import Derived.Shelf.Strings.BuilderK
import Derived.BigCall
import Derived.Deep.RegionHeld
namespace Go.Proofs.YtoocdnbkiejihaaDoor
open Go Go.V
set_option linter.unusedSimpArgs false

theorem iteL (a b : Int) : (if a < b then a else b) = min a b := by
  rw [Int.min_def]
  by_cases h : a < b
  · rw [if_pos h, if_pos (by omega)]
  · rw [if_neg h]
    by_cases h2 : a ≤ b
    · rw [if_pos h2]; omega
    · rw [if_neg h2]
theorem least_enc {q o : Option Nat} {m : Nat} (hq : ∀ b, q = some b → b ≤ 1000) (ho : ∀ v, o = some v → v ≤ 1000) (hm : m ≤ 1000) : (if encS q < encS o + (m : Int) then encS q else encS o + (m : Int)) = encS (minO q (o.map (· + m))) := by
  rw [iteL]
  cases o with
  | none =>
    cases q with
    | none =>
      simp only [encS, minO, Option.map_none]
      omega
    | some b =>
      have := hq b rfl
      simp only [encS, minO, Option.map_none]
      omega
  | some v =>
    have := ho v rfl
    cases q with
    | none =>
      simp only [encS, minO, Option.map_some]
      omega
    | some b =>
      have := hq b rfl
      simp only [minO, Option.map_some]
      by_cases h : v + m < b
      · rw [if_pos h]
        simp only [encS]
        omega
      · rw [if_neg h]
        simp only [encS]
        omega
theorem encS_b {o : Option Nat} (ho : ∀ v, o = some v → v ≤ 1000) : 0 ≤ encS o ∧ encS o ≤ 1048576 := by
  cases o with
  | none => simp [encS]
  | some v =>
    have := ho v rfl
    simp only [encS]
    omega
def rowS (n : Nat) (F : Nat → Option Nat) : List Int := fullI (fun k => encS (F k)) (n + 1)
def tabS (n : Nat) (l : List Slp) (i : Nat) : List (List Int) := (List.range i).map fun j => rowS n (rowF (l.take j))
theorem tabS_len (n : Nat) (l : List Slp) (i : Nat) : (tabS n l i).length = i := by simp [tabS]
theorem tabS_get {n : Nat} {l : List Slp} {i j : Nat} (h : j < i) : (tabS n l i)[j]'(by rw [tabS_len]; exact h) = rowS n (rowF (l.take j)) := by simp [tabS]
theorem tabS_snoc (n : Nat) (l : List Slp) (i : Nat) : tabS n l i ++ [rowS n (rowF (l.take i))] = tabS n l (i + 1) := by simp [tabS, List.range_succ]
theorem rowS_len (n : Nat) (F : Nat → Option Nat) : (rowS n F).length = n + 1 := by simp [rowS, fullI]
theorem rowS_get {n : Nat} {F : Nat → Option Nat} {k : Nat} (h : k < n + 1) : (rowS n F)[k]'(by rw [rowS_len]; exact h) = encS (F k) := by simp [rowS, fullI]
theorem fullI_succ (f : Nat → Int) (k : Nat) : fullI f (k + 1) = fullI f k ++ [f k] := by simp [fullI, List.range_succ]
theorem fullI_len (f : Nat → Int) (k : Nat) : (fullI f k).length = k := by simp [fullI]
theorem rowS_zero (n : Nat) : (List.replicate (n + 1) (1048576 : Int)).set 0 0 = rowS n row0 := by
  refine List.ext_getElem (by simp [rowS, fullI]) fun i h1 h2 => ?_
  rw [rowS_get (by simpa using h1), List.getElem_set]
  by_cases h : 0 = i
  · subst h
    simp [row0, encS]
  · rw [if_neg h]
    have : ¬ i = 0 := fun e => h e.symm
    simp [row0, encS, this]
theorem e_spec_ruTables (l : List Slp) (n : Nat) (hl : l.length ≤ 8) (hn : n ≤ 400) (hok : ∀ x ∈ l, (1 ≤ x.1 ∧ x.1 ≤ 200) ∧ 0 ≤ x.2 ∧ x.2 ≤ 20) :
    F_spec_ruTables [sls l, I (n : Int)] = some (.ret [tabD (tabS n l (l.length + 1))] []) := by
  rw [t_spec_ruTables]
  refine loop_bind (.ext 0 [sls l, I (n : Int), intsL (List.replicate (n + 1) 1048576)]) (loop_for (n + 1) (fun k => [sls l, I (n : Int), intsL (List.replicate k 1048576), I k]) _ (fun k hk => ?_) ?_ rfl rfl) ?_
  · have h1 : (k : Int) ≤ (n : Int) := by omega
    have ha := ints_app (l := List.replicate k 1048576) (n := 1048576) (by simp; omega)
    rw [← List.replicate_succ'] at ha
    simp -implicitDefEqProofs only [sl_zero, sl_succ, bin_leq, h1, decide_true, Option.bind_some, ifD_B, if_true, ints_one, ints_chk, ha, bin_add, wI (show k ≤ 1000000 by omega)]
  · have h1 : ¬ ((n + 1 : Nat) : Int) ≤ (n : Int) := by omega
    simp -implicitDefEqProofs only [sl_zero, sl_succ, bin_leq, h1, decide_false, Option.bind_some, ifD_B, Bool.false_eq_true, if_false]
  have hr0 : refI 1 (intsL (List.replicate (n + 1) 1048576)) (I 0) = some (.ref 0 0) := ref_ints (i := 0) (by simp)
  have hs0 := st_ints (List.replicate (n + 1) 1048576) 0 0 (by simp)
  rw [rowS_zero] at hs0
  have t0 : [rowS n row0] = tabS n l 1 := by simp [tabS, rowF]
  simp -implicitDefEqProofs only [outK_ext, Nat.beq_refl, ifN_B, if_true, sl_zero, sl_succ, liveD_arr, liveD_ref, hr0, hs0, tab_one, t0, lenD_arr, List.length_map, Option.bind_some]
  refine loop_bind (.ext 2 [tabD (tabS n l (l.length + 1))]) (loop_for l.length (fun i => [I (n : Int), tabD (tabS n l (i + 1)), sls l, I l.length, I i]) _ (fun i hi => ?_) ?_ rfl rfl) ?_
  case refine_2 => simp
  case refine_3 => simp -implicitDefEqProofs only [outK_ext, Nat.beq_refl, ifN_B, if_true, sl_zero, sl_succ]
  have hi' : (i : Int) < (l.length : Int) := by omega
  have ho := hok l[i] (List.getElem_mem hi)
  obtain ⟨w, hw⟩ := Int.eq_ofNat_of_zero_le (show 0 ≤ l[i].1 by omega)
  obtain ⟨c, hc⟩ := Int.eq_ofNat_of_zero_le ho.2.1
  have hwp : 0 < w := by omega
  have hstep : rowF (l.take (i + 1)) = stepO w c (rowF (l.take i)) := by rw [rowF_take hi, hw, hc]; rfl
  have hb := rowF_b (l := l) (fun x hx => (hok x hx).2.2) i (by omega)
  have htab := at_tab (l := tabS n l (i + 1)) (i := i) (by rw [tabS_len]; omega)
  have hrt := ref_tab (l := tabS n l (i + 1)) (i := i) (by rw [tabS_len]; omega)
  rw [tabS_get (by omega)] at htab
  simp -implicitDefEqProofs only [sl_zero, sl_succ, bin_lss, hi', decide_true, Option.bind_some, ifD_B, if_true, elS hi, Option.map_some, ldS, stSz]
  rw [hw, hc]
  generalize hF : rowF (l.take i) = F at *
  refine loop_bind (.ext 4 [I (n : Int), tabD (tabS n l (i + 1)), intsL (rowS n (stepO w c F)), sls l, I l.length, I i]) (loop_for (n + 1) (fun k => [I (n : Int), tabD (tabS n l (i + 1)), I i, slp ((w : Int), (c : Int)), intsL (fullI (fun k => encS (stepO w c F k)) k), I k, sls l, I l.length, I i]) _ (fun k hk => ?_) ?_ rfl rfl) ?_
  case refine_2 =>
    have h1 : ¬ ((n + 1 : Nat) : Int) ≤ (n : Int) := by omega
    simp -implicitDefEqProofs only [sl_zero, sl_succ, bin_leq, h1, decide_false, Option.bind_some, ifD_B, Bool.false_eq_true, if_false]
    rfl
  case refine_3 =>
    have hap := tab_app (l := tabS n l (i + 1)) (m := [rowS n (stepO w c F)]) (by rw [tabS_len]; simp; omega)
    have hsn := tabS_snoc n l (i + 1)
    rw [hstep] at hsn
    rw [hsn] at hap
    simp -implicitDefEqProofs only [outK_ext, Nat.beq_refl, ifN_B, if_true, sl_zero, sl_succ, tab_one, hap, Option.bind_some, bin_add, wI (show i ≤ 1000000 by omega)]
  have hk' : (k : Int) ≤ (n : Int) := by omega
  simp -implicitDefEqProofs only [sl_zero, sl_succ, bin_leq, hk', decide_true, Option.bind_some, ifD_B, if_true]
  refine loop_bind (.ext 6 [I (n : Int), tabD (tabS n l (i + 1)), I i, slp ((w : Int), (c : Int)), intsL (fullI (fun k => encS (stepO w c F k)) k), I k, I (encS (stepO w c F k)), sls l, I l.length, I i]) (loop_for (mostO w c k) (fun m => [I (n : Int), tabD (tabS n l (i + 1)), I i, slp ((w : Int), (c : Int)), intsL (fullI (fun k => encS (stepO w c F k)) k), I k, I (encS (bestO F w k m)), I m, sls l, I l.length, I i]) _ (fun m hm => ?_) ?_ rfl rfl) ?_
  case refine_2 =>
    have hno : ¬ (mostO w c k ≤ c ∧ mostO w c k * w ≤ k) := fun h => Nat.lt_irrefl _ ((most_iff hwp).2 h)
    have hM : mostO w c k ≤ 21 := by unfold mostO; omega
    by_cases h1 : ((mostO w c k : Nat) : Int) ≤ (c : Int)
    · have h2 : ¬ ((mostO w c k : Nat) : Int) * (w : Int) ≤ (k : Int) := by
        intro h
        exact hno ⟨by omega, by exact_mod_cast h⟩
      have hmb : mostO w c k * w ≤ 21 * 200 := Nat.mul_le_mul hM (by omega)
      have hwr : IntKind.i64.wrap (((mostO w c k : Nat) : Int) * (w : Int)) = ((mostO w c k : Nat) : Int) * (w : Int) := by
        rw [← Int.natCast_mul]
        exact wrap_id (by omega) (by omega)
      simp -implicitDefEqProofs only [sl_zero, sl_succ, liveD_agg, atD_agg, List.drop_zero, List.drop_succ_cons, takeD_f, Option.bind_some, bin_leq, h1, decide_true, gate_t, if_true, bin_mul, hwr, h2, decide_false, pickD_B, ifD_B, Bool.false_eq_true, if_false]
      rfl
    · simp -implicitDefEqProofs only [sl_zero, sl_succ, liveD_agg, atD_agg, List.drop_zero, List.drop_succ_cons, takeD_f, Option.bind_some, bin_leq, h1, decide_false, gate_t, Bool.false_eq_true, if_false, pickD_B, ifD_B]
      rfl
  case refine_3 =>
    have ha := ints_app (l := fullI (fun k => encS (stepO w c F k)) k) (n := encS (stepO w c F k)) (by rw [fullI_len]; omega)
    rw [← fullI_succ (fun k => encS (stepO w c F k))] at ha
    simp -implicitDefEqProofs only [outK_ext, Nat.beq_refl, ifN_B, if_true, sl_zero, sl_succ, ints_one, ints_chk, ha, Option.bind_some, bin_add, wI (show k ≤ 1000000 by omega)]
  obtain ⟨m1, m2⟩ := (most_iff hwp).1 hm
  have h1 : (m : Int) ≤ (c : Int) := by omega
  have hwr : IntKind.i64.wrap ((m : Int) * (w : Int)) = ((m * w : Nat) : Int) := by
    rw [← Int.natCast_mul]
    exact wrap_id (by omega) (by omega)
  have h2' : ((m * w : Nat) : Int) ≤ (k : Int) := by omega
  have hsub : IntKind.i64.wrap ((k : Int) - ((m * w : Nat) : Int)) = ((k - m * w : Nat) : Int) := by rw [wrap_id (by omega) (by omega)]; omega
  have hel := el_ints (l := rowS n F) (i := k - m * w) (by rw [rowS_len]; omega)
  rw [rowS_get (by omega)] at hel
  have hwm := wI (show m ≤ 1000000 by omega)
  have hBb := bestO_b (row := F) (w := w) (k := k) (z := 20 * i) (c := c) hb m (by omega)
  have hFb := hb (k - m * w)
  have heb := encS_b (o := F (k - m * w)) fun v hv => by have := hFb v hv; omega
  have hadd : IntKind.i64.wrap (encS (F (k - m * w)) + (m : Int)) = encS (F (k - m * w)) + (m : Int) := wrap_id (by omega) (by omega)
  have hls := e_spec_l1Least (encS (bestO F w k m)) (encS (F (k - m * w)) + (m : Int))
  rw [least_enc (fun b hb => by have := hBb b hb; omega) (fun v hv => by have := hFb v hv; omega) (by omega)] at hls
  have hbn : minO (bestO F w k m) ((F (k - m * w)).map (· + m)) = bestO F w k (m + 1) := rfl
  rw [hbn] at hls
  simp -implicitDefEqProofs only [sl_zero, sl_succ, liveD_agg, liveD_arr, liveD_ref, atD_agg, List.drop_zero, List.drop_succ_cons, takeD_f, Option.bind_some, bin_leq, h1, decide_true, gate_t, if_true, bin_mul, hwr, h2', pickD_B, ifD_B, hrt, htab, bin_sub, hsub, hel, Option.map_some, ldD_ptr, chkV_v, bin_add, hadd, hls, callK_ret, hwm]
end Go.Proofs.YtoocdnbkiejihaaDoor
/-
  Stocks: the counts of a rule.
-/
namespace Go.Proofs.YtoocdnbkiejihaaDoor
open Go Go.V
set_option linter.unusedSimpArgs false

def srch (P : Nat → Bool) : Nat → Nat
  | 0 => 0
  | m + 1 => if P (m + 1) = true then m + 1 else srch P m
theorem srch_le (P : Nat → Bool) : ∀ M, srch P M ≤ M
  | 0 => Nat.le_refl _
  | m + 1 => by
    have := srch_le P m
    simp only [srch]
    split <;> omega
theorem srch_hit {P : Nat → Bool} : ∀ {M : Nat}, (∃ j, j ≤ M ∧ P j = true) → P (srch P M) = true
  | 0, ⟨j, h1, h2⟩ => by
    have : j = 0 := by omega
    subst this
    exact h2
  | m + 1, ⟨j, h1, h2⟩ => by
    simp only [srch]
    by_cases h : P (m + 1) = true
    · rw [if_pos h]
      exact h
    · rw [if_neg h]
      refine srch_hit ⟨j, ?_, h2⟩
      rcases Nat.lt_or_ge m j with g | g
      · have : j = m + 1 := by omega
        subst this
        exact absurd h2 h
      · exact g
theorem srch_self {P : Nat → Bool} {M : Nat} (h : P M = true) : srch P M = M := by
  cases M with
  | zero => rfl
  | succ m => simp only [srch, h, if_true]
theorem srch_down {P : Nat → Bool} {M : Nat} (h : P (srch P M) = true) (hn : ¬ P M = true) : ∃ m, M = m + 1 ∧ srch P M = srch P m := by
  cases M with
  | zero => exact absurd h hn
  | succ m => exact ⟨m, rfl, by simp only [srch, hn]; simp⟩
theorem minO_or {a b : Option Nat} {v : Nat} (h : minO a b = some v) : a = some v ∨ b = some v := by
  cases a with
  | none => exact .inr h
  | some a =>
    cases b with
    | none => exact .inl h
    | some b =>
      simp only [minO] at h
      split at h
      · exact .inr h
      · exact .inl h
theorem bestO_ex {row : Nat → Option Nat} {w k v : Nat} : ∀ {m : Nat}, bestO row w k m = some v → ∃ j, j < m ∧ (row (k - j * w)).map (· + j) = some v
  | 0, h => by cases h
  | m + 1, h => by
    rcases minO_or h with h | h
    · obtain ⟨j, h1, h2⟩ := bestO_ex h
      exact ⟨j, by omega, h2⟩
    · exact ⟨m, by omega, h⟩
/-- The place of slip i at a length n: how many of it, and whether the tables agree. -/
def slW (l : List Slp) (i : Nat) : Nat := (l.getD i (0, 0)).1.toNat
def slC (l : List Slp) (i : Nat) : Nat := (l.getD i (0, 0)).2.toNat
def agr (l : List Slp) (i n m : Nat) : Bool := decide ((rowF (l.take i) (n - m * slW l i)).map (· + m) = rowF (l.take (i + 1)) n)
def mx (l : List Slp) (i n : Nat) : Nat := min (slC l i) (n / slW l i)
def pk (l : List Slp) (i n : Nat) : Nat := srch (agr l i n) (mx l i n)
def ctl (l : List Slp) : Nat → Nat → List Int
  | 0, _ => []
  | i + 1, n => ctl l i (n - pk l i n * slW l i) ++ [(pk l i n : Int)]
theorem agr_ex {l : List Slp} {i n v : Nat} (hi : i < l.length) (h : rowF (l.take (i + 1)) n = some v) : ∃ j, j ≤ mx l i n ∧ agr l i n j = true := by
  have h0 := h
  have hw : slW l i = l[i].1.toNat := by simp [slW, List.getD_eq_getElem?_getD, hi]
  have hc : slC l i = l[i].2.toNat := by simp [slC, List.getD_eq_getElem?_getD, hi]
  rw [rowF_take hi, ← hw, ← hc] at h
  obtain ⟨j, h1, h2⟩ := bestO_ex h
  refine ⟨j, by unfold mostO at h1; unfold mx; omega, ?_⟩
  unfold agr
  rw [h0, h2, decide_eq_true rfl]
theorem pk_facts {l : List Slp} {i n v : Nat} (hi : i < l.length) (h : rowF (l.take (i + 1)) n = some v) : ∃ u, rowF (l.take i) (n - pk l i n * slW l i) = some u ∧ u + pk l i n = v ∧ pk l i n ≤ mx l i n := by
  have : agr l i n (pk l i n) = true := srch_hit (agr_ex hi h)
  unfold agr at this
  rw [decide_eq_true_eq, h] at this
  obtain ⟨u, h1, h2⟩ := Option.map_eq_some_iff.1 this
  exact ⟨u, h1, h2, srch_le _ _⟩
theorem encI_agr {o p : Option Nat} {m v : Nat} (hp : p = some v) : decide (o.map (· + m) = p) = (decide (0 ≤ encI o) && decide (encI o + (m : Int) = encI p)) := by
  subst hp
  cases o with
  | none => simp [encI]
  | some u =>
    show decide (some (u + m) = some v) = (decide ((0 : Int) ≤ (u : Int)) && decide ((u : Int) + (m : Int) = (v : Int)))
    rw [← Bool.decide_and]
    exact decide_eq_decide.2 (by rw [Option.some.injEq]; omega)
theorem encS_agr {o p : Option Nat} {m v : Nat} (hp : p = some v) (hv : v ≤ 1000) : decide (o.map (· + m) = p) = decide (encS o + (m : Int) = encS p) := by
  subst hp
  cases o with
  | none =>
    show decide (none = some v) = decide ((1048576 : Int) + (m : Int) = (v : Int))
    exact decide_eq_decide.2 ⟨fun h => (by cases h), fun h => (by exfalso; omega)⟩
  | some u =>
    show decide (some (u + m) = some v) = decide ((u : Int) + (m : Int) = (v : Int))
    exact decide_eq_decide.2 (by rw [Option.some.injEq]; omega)
end Go.Proofs.YtoocdnbkiejihaaDoor
/-
  Stocks: impl's counts of a rule.
-/
namespace Go.Proofs.YtoocdnbkiejihaaDoor
open Go Go.V
set_option linter.unusedSimpArgs false

theorem slW_at {l : List Slp} {i : Nat} (hi : i < l.length) (h0 : 0 ≤ l[i].1) : ((slW l i : Nat) : Int) = l[i].1 := by
  simp only [slW, List.getD_eq_getElem?_getD, List.getElem?_eq_getElem hi, Option.getD_some]
  omega
theorem slC_at {l : List Slp} {i : Nat} (hi : i < l.length) (h0 : 0 ≤ l[i].2) : ((slC l i : Nat) : Int) = l[i].2 := by
  simp only [slC, List.getD_eq_getElem?_getD, List.getElem?_eq_getElem hi, Option.getD_some]
  omega
theorem minD_J (a b : Int) : minD (I a) (I b) = some (I (if b < a then b else a)) := rfl
def ruO (l : List Slp) (n : Nat) : D := if (rowF l n).isSome = true then intsL (ctl l l.length n) else .v (.slice none 0 0)
theorem e_impl_bestOf (l : List Slp) (n : Nat) (hl : l.length ≤ 8) (hn : n ≤ 400) (hok : ∀ x ∈ l, (1 ≤ x.1 ∧ x.1 ≤ 200) ∧ 0 ≤ x.2 ∧ x.2 ≤ 20) :
    F_impl_bestOf [intsL (l.map (·.1)), intsL (l.map (·.2)), I (n : Int)] = some (.ret [ruO l n] []) := by
  rw [t_impl_bestOf]
  have hfw := e_impl_fewest l n hl hn hok
  have htl : l.take l.length = l := List.take_length
  have het := el_tab (l := tabI n l (l.length + 1)) (i := l.length) (by rw [tabI_len]; omega)
  rw [tabI_get (by omega), htl] at het
  have her := el_ints (l := rowI n (rowF l)) (i := n) (by rw [rowI_len]; omega)
  rw [rowI_get (by omega)] at her
  simp -implicitDefEqProofs only [hfw, callK_ret, sl_zero, lenD_arr, List.length_map, Option.bind_some, het, Option.map_some, ldD_ptr, takeD_f, her, chkV_v, bin_lss]
  cases hv : rowF l n with
  | none =>
    simp -implicitDefEqProofs only [encI_n, show (-1 : Int) < 0 by decide, decide_true, ifD_B, if_true, ruO, hv, Option.isSome_none, Bool.false_eq_true, if_false]
  | some v =>
  have hv0 : ¬ (v : Int) < 0 := by omega
  have wl : IntKind.i64.wrap ((l.length : Int) - 1) = (l.length : Int) - 1 := wrap_id (by omega) (by omega)
  simp -implicitDefEqProofs only [encI_s, hv0, decide_false, ifD_B, Bool.false_eq_true, if_false, mak_ints (show l.length ≤ 1000000 by omega), liveD_arr, Option.bind_some, bin_sub, wl]
  refine loop_wf_bind (fun r => r = _) (fun (a : Nat × Nat × List Int) => [intsL (l.map (·.1)), intsL (l.map (·.2)), I (a.2.1 : Int), tabD (tabI n l (l.length + 1)), .ref 0 0, I ((a.1 : Int) - 1), intsL (List.replicate a.1 0 ++ a.2.2)]) (fun a => a.1 ≤ l.length ∧ a.2.1 ≤ n ∧ (∃ v, rowF (l.take a.1) a.2.1 = some v) ∧ ctl l l.length n = ctl l a.1 a.2.1 ++ a.2.2) (fun a => a.1)
    (fun o => o = .ext 0 [.ref 0 0, intsL (ctl l l.length n)]) ?_ (l.length, n, []) ⟨Nat.le_refl _, Nat.le_refl _, ⟨v, by dsimp only; rw [htl]; exact hv⟩, by simp⟩ (by simp) ?_
  case refine_2 =>
    rintro o rfl
    simp -implicitDefEqProofs only [outK_ext, Nat.beq_refl, ifN_B, if_true, sl_zero, sl_succ, viaD_ref, ruO, hv, Option.isSome_some]
  rintro ⟨i1, n1, tl⟩ ⟨g1, g2, ⟨v1, g3⟩, g4⟩
  dsimp only at g1 g2 g3 g4
  cases i1 with
  | zero =>
    right
    refine ⟨_, ?_, rfl, rfl⟩
    have hge : ¬ (0 : Int) ≤ ((0 : Nat) : Int) - 1 := by omega
    have e : List.replicate 0 0 ++ tl = ctl l l.length n := by rw [g4]; rfl
    simp -implicitDefEqProofs only [sl_zero, sl_succ, bin_geq, hge, decide_false, Option.bind_some, ifD_B, Bool.false_eq_true, if_false, e]
  | succ i =>
    left
    have hi : i < l.length := g1
    have ho := hok l[i] (List.getElem_mem hi)
    have hW := slW_at hi (by omega)
    have hC := slC_at hi ho.2.1
    obtain ⟨u, p1, p2, p3⟩ := pk_facts hi g3
    have hpm : pk l i n1 * slW l i ≤ n1 := by
      have : pk l i n1 ≤ n1 / slW l i := by unfold mx at p3; omega
      exact (Nat.le_div_iff_mul_le (by omega)).1 this
    refine ⟨(i, n1 - pk l i n1 * slW l i, (pk l i n1 : Int) :: tl), ?_, ⟨by dsimp only; omega, by dsimp only; omega, ⟨u, p1⟩, ?_⟩, by dsimp only; omega⟩
    · have hidx : (((i + 1 : Nat) : Int) - 1) = (i : Int) := by omega
      have hi0 : (0 : Int) ≤ (i : Int) := by omega
      have ew : elemD 1 (intsL (l.map (·.1))) (I (i : Int)) = some [I ((slW l i : Nat) : Int)] := by rw [el_ints (by simpa using hi), hW]; simp
      have ec : elemD 1 (intsL (l.map (·.2))) (I (i : Int)) = some [I ((slC l i : Nat) : Int)] := by rw [el_ints (by simpa using hi), hC]; simp
      have hw0 : ¬ ((slW l i : Nat) : Int) = 0 := by omega
      have hdl : n1 / slW l i ≤ n1 := Nat.div_le_self _ _
      have hq : IntKind.i64.wrap (((n1 : Nat) : Int).tdiv ((slW l i : Nat) : Int)) = ((n1 / slW l i : Nat) : Int) := by
        rw [Int.tdiv_eq_ediv_of_nonneg (by omega), ← Int.natCast_ediv]
        generalize n1 / slW l i = q at hdl
        exact wrap_id (by omega) (by omega)
      have hmx : (if ((n1 / slW l i : Nat) : Int) < ((slC l i : Nat) : Int) then ((n1 / slW l i : Nat) : Int) else ((slC l i : Nat) : Int)) = ((mx l i n1 : Nat) : Int) := by
        rw [iteL]
        unfold mx
        omega
      have hb := rowF_b (l := l) (fun x hx => (hok x hx).2.2) i (by omega)
      have htab := el_tab (l := tabI n l (l.length + 1)) (i := i) (by rw [tabI_len]; omega)
      rw [tabI_get (by omega)] at htab
      have htab1 := el_tab (l := tabI n l (l.length + 1)) (i := i + 1) (by rw [tabI_len]; omega)
      rw [tabI_get (by omega)] at htab1
      have her1 := el_ints (l := rowI n (rowF (l.take (i + 1)))) (i := n1) (by rw [rowI_len]; omega)
      rw [rowI_get (by omega)] at her1
      have hwi := wI (show i ≤ 1000000 by omega)
      have hmc : mx l i n1 ≤ 20 := by unfold mx; omega
      simp -implicitDefEqProofs only [sl_zero, sl_succ, hidx, bin_geq, hi0, decide_true, Option.bind_some, ifD_B, if_true, ew, ec, Option.map_some, ldD_ptr, takeD_f, chkV_v, bin_quo, hw0, if_false, hq, minD_J, hmx]
      refine loop_wf_bind (fun r => r = _) (fun (m : Nat) => [intsL (l.map (·.1)), intsL (l.map (·.2)), I (n1 : Int), tabD (tabI n l (l.length + 1)), .ref 0 0, I (i : Int), I (m : Int), intsL (List.replicate (i + 1) 0 ++ tl)]) (fun m => m ≤ mx l i n1 ∧ pk l i n1 = srch (agr l i n1) m) (fun m => m)
        (fun o => o = .ext 2 [intsL (l.map (·.1)), intsL (l.map (·.2)), I ((n1 - pk l i n1 * slW l i : Nat) : Int), tabD (tabI n l (l.length + 1)), .ref 0 0, I (i : Int), intsL (List.replicate i 0 ++ (pk l i n1 : Int) :: tl)]) ?_ (mx l i n1) ⟨Nat.le_refl _, rfl⟩ rfl ?_
      case refine_2 =>
        rintro o rfl
        have hwd : IntKind.i64.wrap ((i : Int) - 1) = (i : Int) - 1 := wrap_id (by omega) (by omega)
        simp -implicitDefEqProofs only [outK_ext, Nat.beq_refl, ifN_B, if_true, sl_zero, sl_succ, bin_sub, hwd, Option.bind_some]
      rintro m ⟨q1, q2⟩
      have hm0 : (0 : Int) ≤ (m : Int) := by omega
      have hmw : m * slW l i ≤ n1 := by
        have : m ≤ n1 / slW l i := by unfold mx at q1; omega
        exact (Nat.le_div_iff_mul_le (by omega)).1 this
      have hwr : IntKind.i64.wrap ((m : Int) * ((slW l i : Nat) : Int)) = ((m * slW l i : Nat) : Int) := by
        rw [← Int.natCast_mul]
        exact wrap_id (by omega) (by omega)
      have hsub : IntKind.i64.wrap (((n1 : Nat) : Int) - ((m * slW l i : Nat) : Int)) = ((n1 - m * slW l i : Nat) : Int) := by rw [wrap_id (by omega) (by omega)]; omega
      have her := el_ints (l := rowI n (rowF (l.take i))) (i := n1 - m * slW l i) (by rw [rowI_len]; omega)
      rw [rowI_get (by omega)] at her
      have hag : agr l i n1 m = (decide (0 ≤ encI (rowF (l.take i) (n1 - m * slW l i))) && decide (encI (rowF (l.take i) (n1 - m * slW l i)) + (m : Int) = encI (rowF (l.take (i + 1)) n1))) := encI_agr g3
      have hbb : -1 ≤ encI (rowF (l.take i) (n1 - m * slW l i)) ∧ encI (rowF (l.take i) (n1 - m * slW l i)) ≤ 1000 := by
        cases ho2 : rowF (l.take i) (n1 - m * slW l i) with
        | none => simp [encI]
        | some x =>
          have := hb _ _ ho2
          simp only [encI]
          omega
      have hsum : IntKind.i64.wrap (encI (rowF (l.take i) (n1 - m * slW l i)) + (m : Int)) = encI (rowF (l.take i) (n1 - m * slW l i)) + (m : Int) := wrap_id (by omega) (by omega)
      by_cases hA : agr l i n1 m = true
      · right
        have hpk : pk l i n1 = m := by rw [q2]; exact srch_self hA
        rw [hag, Bool.and_eq_true, decide_eq_true_eq, decide_eq_true_eq] at hA
        have hsum' := hsum.trans hA.2
        refine ⟨_, ?_, rfl, rfl⟩
        have hrf := ref_ints (l := List.replicate (i + 1) 0 ++ tl) (i := i) (by simp; omega)
        have hst := st_ints (List.replicate (i + 1) 0 ++ tl) i (m : Int) (by simp; omega)
        have hset : (List.replicate (i + 1) 0 ++ tl).set i (m : Int) = List.replicate i 0 ++ (m : Int) :: tl := by
          rw [List.replicate_succ', List.append_assoc, List.set_append_right _ _ (by simp)]
          simp
        rw [hset] at hst
        rw [hpk]
        simp -implicitDefEqProofs only [sl_zero, sl_succ, bin_geq, hm0, decide_true, Option.bind_some, ifD_B, if_true, htab, htab1, ew, Option.map_some, ldD_ptr, takeD_f, chkV_v, bin_mul, hwr, bin_sub, hsub, her, her1, hA.1, gate_t, bin_add, hsum', hwi, bin_eql, pickD_B, liveD_ref, liveD_arr, hrf, hst]
      · left
        obtain ⟨m', rfl, hs⟩ := srch_down (by rw [← q2]; exact srch_hit (agr_ex hi g3)) hA
        have hmd : IntKind.i64.wrap (((m' + 1 : Nat) : Int) - 1) = (m' : Int) := by rw [wrap_id (by omega) (by omega)]; omega
        rw [hag] at hA
        refine ⟨m', ?_, ⟨by omega, by rw [q2, hs]⟩, by omega⟩
        cases hd : decide (0 ≤ encI (rowF (l.take i) (n1 - (m' + 1) * slW l i)))
        · simp -implicitDefEqProofs only [sl_zero, sl_succ, bin_geq, hm0, decide_true, Option.bind_some, ifD_B, if_true, htab, ew, Option.map_some, ldD_ptr, takeD_f, chkV_v, bin_mul, hwr, bin_sub, hsub, her, hd, gate_t, Bool.false_eq_true, if_false, pickD_B, hmd]
        · rw [hd, Bool.true_and, Bool.not_eq_true] at hA
          simp -implicitDefEqProofs only [sl_zero, sl_succ, bin_geq, hm0, decide_true, Option.bind_some, ifD_B, if_true, htab, htab1, ew, Option.map_some, ldD_ptr, takeD_f, chkV_v, bin_mul, hwr, bin_sub, hsub, her, her1, hd, gate_t, bin_add, hsum, hwi, bin_eql, hA, pickD_B, Bool.false_eq_true, if_false, hmd]
    · rw [g4]
      simp [ctl]
end Go.Proofs.YtoocdnbkiejihaaDoor
/-
  Stocks: spec's counts of a rule.
-/
namespace Go.Proofs.YtoocdnbkiejihaaDoor
open Go Go.V
set_option linter.unusedSimpArgs false

def ruL (l : List Slp) (n : Nat) : List Int := if (rowF l n).isSome = true then ctl l l.length n else []
theorem e_spec_ruRule (l : List Slp) (n : Nat) (hl : l.length ≤ 8) (hn : n ≤ 400) (hok : ∀ x ∈ l, (1 ≤ x.1 ∧ x.1 ≤ 200) ∧ 0 ≤ x.2 ∧ x.2 ≤ 20) :
    F_spec_ruRule [sls l, I (n : Int)] = some (.ret [intsL (ruL l n), B (rowF l n).isSome] []) := by
  rw [t_spec_ruRule]
  have hfw := e_spec_ruTables l n hl hn hok
  have htl : l.take l.length = l := List.take_length
  have het := el_tab (l := tabS n l (l.length + 1)) (i := l.length) (by rw [tabS_len]; omega)
  rw [tabS_get (by omega), htl] at het
  have her := el_ints (l := rowS n (rowF l)) (i := n) (by rw [rowS_len]; omega)
  rw [rowS_get (by omega)] at her
  have hb0 := rowF_b (l := l) (fun x hx => (hok x hx).2.2) l.length (Nat.le_refl _)
  rw [htl] at hb0
  simp -implicitDefEqProofs only [hfw, callK_ret, sl_zero, lenD_arr, List.length_map, Option.bind_some, het, Option.map_some, ldD_ptr, takeD_f, her, chkV_v, bin_geq]
  unfold ruL
  cases hv : rowF l n with
  | none =>
    simp -implicitDefEqProofs only [encS, show (1048576 : Int) ≤ 1048576 by decide, decide_true, ifD_B, if_true, Option.isSome_none, Bool.false_eq_true, if_false]
    rfl
  | some v =>
  have hvb := hb0 n v hv
  have hv0 : ¬ (1048576 : Int) ≤ (v : Int) := by omega
  have wl : IntKind.i64.wrap ((l.length : Int) - 1) = (l.length : Int) - 1 := wrap_id (by omega) (by omega)
  simp -implicitDefEqProofs only [encS, hv0, decide_false, ifD_B, Bool.false_eq_true, if_false, mak_ints (show l.length ≤ 1000000 by omega), Option.bind_some, bin_sub, wl, Option.isSome_some, if_true]
  refine loop_wf_bind (fun r => r = _) (fun (a : Nat × Nat × List Int) => [sls l, I (a.2.1 : Int), tabD (tabS n l (l.length + 1)), intsL (List.replicate a.1 0 ++ a.2.2), I ((a.1 : Int) - 1)]) (fun a => a.1 ≤ l.length ∧ a.2.1 ≤ n ∧ (∃ v, rowF (l.take a.1) a.2.1 = some v) ∧ ctl l l.length n = ctl l a.1 a.2.1 ++ a.2.2) (fun a => a.1)
    (fun o => o = .ext 0 [intsL (ctl l l.length n)]) ?_ (l.length, n, []) ⟨Nat.le_refl _, Nat.le_refl _, ⟨v, by dsimp only; rw [htl]; exact hv⟩, by simp⟩ (by simp) ?_
  case refine_2 =>
    rintro o rfl
    simp -implicitDefEqProofs only [outK_ext, Nat.beq_refl, ifN_B, if_true, sl_zero]
  rintro ⟨i1, n1, tl⟩ ⟨g1, g2, ⟨v1, g3⟩, g4⟩
  dsimp only at g1 g2 g3 g4
  cases i1 with
  | zero =>
    right
    refine ⟨_, ?_, rfl, rfl⟩
    have hge : ¬ (0 : Int) ≤ ((0 : Nat) : Int) - 1 := by omega
    have e : List.replicate 0 0 ++ tl = ctl l l.length n := by rw [g4]; rfl
    simp -implicitDefEqProofs only [sl_zero, sl_succ, bin_geq, hge, decide_false, Option.bind_some, ifD_B, Bool.false_eq_true, if_false, e]
  | succ i =>
    left
    have hi : i < l.length := g1
    have ho := hok l[i] (List.getElem_mem hi)
    have hW := slW_at hi (by omega)
    have hC := slC_at hi ho.2.1
    obtain ⟨u, p1, p2, p3⟩ := pk_facts hi g3
    have hpm : pk l i n1 * slW l i ≤ n1 := by
      have : pk l i n1 ≤ n1 / slW l i := by unfold mx at p3; omega
      exact (Nat.le_div_iff_mul_le (by omega)).1 this
    refine ⟨(i, n1 - pk l i n1 * slW l i, (pk l i n1 : Int) :: tl), ?_, ⟨by dsimp only; omega, by dsimp only; omega, ⟨u, p1⟩, by rw [g4]; simp [ctl]⟩, by dsimp only; omega⟩
    have hidx : (((i + 1 : Nat) : Int) - 1) = (i : Int) := by omega
    have hi0 : (0 : Int) ≤ (i : Int) := by omega
    have es : elemD 2 (sls l) (I (i : Int)) = some [I ((slW l i : Nat) : Int), I ((slC l i : Nat) : Int)] := by rw [elS hi, hW, hC]
    have hw0 : ¬ ((slW l i : Nat) : Int) = 0 := by omega
    have hdl : n1 / slW l i ≤ n1 := Nat.div_le_self _ _
    have hq : IntKind.i64.wrap (((n1 : Nat) : Int).tdiv ((slW l i : Nat) : Int)) = ((n1 / slW l i : Nat) : Int) := by
      rw [Int.tdiv_eq_ediv_of_nonneg (by omega), ← Int.natCast_ediv]
      generalize n1 / slW l i = q at hdl
      exact wrap_id (by omega) (by omega)
    have hls := e_spec_l1Least ((slC l i : Nat) : Int) ((n1 / slW l i : Nat) : Int)
    have hmx : (if ((slC l i : Nat) : Int) < ((n1 / slW l i : Nat) : Int) then ((slC l i : Nat) : Int) else ((n1 / slW l i : Nat) : Int)) = ((mx l i n1 : Nat) : Int) := by
      rw [iteL]
      unfold mx
      omega
    rw [hmx] at hls
    have hb := rowF_b (l := l) (fun x hx => (hok x hx).2.2) i (by omega)
    have hb1 := rowF_b (l := l) (fun x hx => (hok x hx).2.2) (i + 1) hi n1 v1 g3
    have htab := el_tab (l := tabS n l (l.length + 1)) (i := i) (by rw [tabS_len]; omega)
    rw [tabS_get (by omega)] at htab
    have htab1 := el_tab (l := tabS n l (l.length + 1)) (i := i + 1) (by rw [tabS_len]; omega)
    rw [tabS_get (by omega)] at htab1
    have her1 := el_ints (l := rowS n (rowF (l.take (i + 1)))) (i := n1) (by rw [rowS_len]; omega)
    rw [rowS_get (by omega)] at her1
    have hwi := wI (show i ≤ 1000000 by omega)
    have hmc : mx l i n1 ≤ 20 := by unfold mx; omega
    simp -implicitDefEqProofs only [sl_zero, sl_succ, hidx, bin_geq, hi0, decide_true, Option.bind_some, ifD_B, if_true, es, Option.map_some, offD_ptr, List.drop_succ_cons, List.drop_zero, ldD_ptr, takeD_f, chkV_v, bin_quo, hw0, if_false, hq, hls, callK_ret]
    refine loop_wf_bind (fun r => r = _) (fun (m : Nat) => [sls l, I (n1 : Int), tabD (tabS n l (l.length + 1)), intsL (List.replicate (i + 1) 0 ++ tl), I (i : Int), I (m : Int)]) (fun m => m ≤ mx l i n1 ∧ pk l i n1 = srch (agr l i n1) m) (fun m => m)
      (fun o => o = .ext 2 [sls l, I (n1 : Int), tabD (tabS n l (l.length + 1)), intsL (List.replicate (i + 1) 0 ++ tl), I (i : Int), I (pk l i n1 : Int)]) ?_ (mx l i n1) ⟨Nat.le_refl _, rfl⟩ rfl ?_
    case refine_2 =>
      rintro o rfl
      have hwd : IntKind.i64.wrap ((i : Int) - 1) = (i : Int) - 1 := wrap_id (by omega) (by omega)
      have hrf := ref_ints (l := List.replicate (i + 1) 0 ++ tl) (i := i) (by simp; omega)
      have hst := st_ints (List.replicate (i + 1) 0 ++ tl) i (pk l i n1 : Int) (by simp; omega)
      have hset : (List.replicate (i + 1) 0 ++ tl).set i (pk l i n1 : Int) = List.replicate i 0 ++ (pk l i n1 : Int) :: tl := by
        rw [List.replicate_succ', List.append_assoc, List.set_append_right _ _ (by simp)]
        simp
      rw [hset] at hst
      have hwr : IntKind.i64.wrap ((pk l i n1 : Int) * ((slW l i : Nat) : Int)) = ((pk l i n1 * slW l i : Nat) : Int) := by
        rw [← Int.natCast_mul]
        exact wrap_id (by omega) (by omega)
      have hsub : IntKind.i64.wrap (((n1 : Nat) : Int) - ((pk l i n1 * slW l i : Nat) : Int)) = ((n1 - pk l i n1 * slW l i : Nat) : Int) := by rw [wrap_id (by omega) (by omega)]; omega
      simp -implicitDefEqProofs only [outK_ext, Nat.beq_refl, ifN_B, if_true, sl_zero, sl_succ, liveD_arr, liveD_ref, hrf, hst, es, Option.map_some, offD_ptr, List.drop_zero, ldD_ptr, takeD_f, chkV_v, bin_mul, hwr, bin_sub, hsub, hwd, Option.bind_some]
    rintro m ⟨q1, q2⟩
    have hmw : m * slW l i ≤ n1 := by
      have : m ≤ n1 / slW l i := by unfold mx at q1; omega
      exact (Nat.le_div_iff_mul_le (by omega)).1 this
    have hwr : IntKind.i64.wrap ((m : Int) * ((slW l i : Nat) : Int)) = ((m * slW l i : Nat) : Int) := by
      rw [← Int.natCast_mul]
      exact wrap_id (by omega) (by omega)
    have hsub : IntKind.i64.wrap (((n1 : Nat) : Int) - ((m * slW l i : Nat) : Int)) = ((n1 - m * slW l i : Nat) : Int) := by rw [wrap_id (by omega) (by omega)]; omega
    have her := el_ints (l := rowS n (rowF (l.take i))) (i := n1 - m * slW l i) (by rw [rowS_len]; omega)
    rw [rowS_get (by omega)] at her
    have hag : agr l i n1 m = decide (encS (rowF (l.take i) (n1 - m * slW l i)) + (m : Int) = encS (rowF (l.take (i + 1)) n1)) := encS_agr g3 (by omega)
    have hbb := encS_b (o := rowF (l.take i) (n1 - m * slW l i)) fun x hx => by have := hb _ _ hx; omega
    have hsum : IntKind.i64.wrap (encS (rowF (l.take i) (n1 - m * slW l i)) + (m : Int)) = encS (rowF (l.take i) (n1 - m * slW l i)) + (m : Int) := wrap_id (by omega) (by omega)
    by_cases hA : agr l i n1 m = true
    · right
      have hpk : pk l i n1 = m := by rw [q2]; exact srch_self hA
      rw [hag] at hA
      refine ⟨_, ?_, rfl, rfl⟩
      rw [hpk]
      simp -implicitDefEqProofs only [sl_zero, sl_succ, Option.bind_some, htab, htab1, es, Option.map_some, offD_ptr, List.drop_zero, ldD_ptr, takeD_f, chkV_v, bin_mul, hwr, bin_sub, hsub, her, her1, bin_add, hsum, hwi, bin_neq, hA, Bool.not_true, ifD_B, Bool.false_eq_true, if_false]
    · left
      obtain ⟨m', rfl, hs⟩ := srch_down (by rw [← q2]; exact srch_hit (agr_ex hi g3)) hA
      have hmd : IntKind.i64.wrap (((m' + 1 : Nat) : Int) - 1) = (m' : Int) := by rw [wrap_id (by omega) (by omega)]; omega
      rw [hag, Bool.not_eq_true] at hA
      refine ⟨m', ?_, ⟨by omega, by rw [q2, hs]⟩, by omega⟩
      simp -implicitDefEqProofs only [sl_zero, sl_succ, Option.bind_some, htab, htab1, es, Option.map_some, offD_ptr, List.drop_zero, ldD_ptr, takeD_f, chkV_v, bin_mul, hwr, bin_sub, hsub, her, her1, bin_add, hsum, hwi, bin_neq, hA, Bool.not_false, ifD_B, if_true, hmd]
end Go.Proofs.YtoocdnbkiejihaaDoor
/-
  Stocks: rules one after the other.
-/
namespace Go.Proofs.YtoocdnbkiejihaaDoor
open Go Go.V
set_option linter.unusedSimpArgs false

theorem e_impl_ruleOf (l : List Slp) (n : Nat) (hl : l.length ≤ 8) (hn : n ≤ 400) (hok : ∀ x ∈ l, (1 ≤ x.1 ∧ x.1 ≤ 200) ∧ 0 ≤ x.2 ∧ x.2 ≤ 20) :
    F_impl_ruleOf [sls l, I (n : Int)] = some (.ret [ruO l n] []) := by
  rw [t_impl_ruleOf]
  have tp1 : ∀ (v : List Int) (a : D), tupAt (tupCut (.tup [a, intsL v]) 0) 1 = some (intsL v) := fun _ _ => rfl
  simp -implicitDefEqProofs only [e_impl_lengthsOf l (by omega), callK_ret, tpL, tp1, Option.bind_some, e_impl_bestOf l n hl hn hok, sl_zero]
theorem ctl_len (l : List Slp) : ∀ (i n : Nat), (ctl l i n).length = i
  | 0, _ => rfl
  | i + 1, n => by simp [ctl, ctl_len l i]
/-- What is left of a stock. -/
def rsS : List Slp → List Int → List Slp
  | x :: l, k :: cs => (x.1, IntKind.i64.wrap (x.2 - k)) :: rsS l cs
  | l, _ => l
theorem rsS_len : ∀ (l : List Slp) (cs : List Int), (rsS l cs).length = l.length
  | [], [] => rfl
  | [], _ :: _ => rfl
  | _ :: _, [] => rfl
  | x :: l, k :: cs => by simp [rsS, rsS_len l cs]
theorem rsS_snoc : ∀ (l : List Slp) (cs : List Int) (i : Nat) (hi : i < l.length) (hc : i < cs.length), (rsS l (cs.take i)).set i (l[i].1, IntKind.i64.wrap (l[i].2 - cs[i])) = rsS l (cs.take (i + 1))
  | x :: l, k :: cs, 0, _, _ => by cases l <;> rfl
  | x :: l, k :: cs, i + 1, hi, hc => by
    have := rsS_snoc l cs i (by simpa using hi) (by simpa using hc)
    simp only [List.take_succ_cons, rsS, List.set_cons_succ, List.getElem_cons_succ, this]
theorem rsS_get : ∀ (l : List Slp) (cs : List Int) (i : Nat) (hi : i < l.length), (rsS l (cs.take i))[i]'(by rw [rsS_len]; exact hi) = l[i]
  | x :: l, cs, 0, _ => by cases l <;> rfl
  | x :: l, [], i + 1, hi => by simp [rsS]
  | x :: l, k :: cs, i + 1, hi => by
    have := rsS_get l cs i (by simpa using hi)
    simp only [List.take_succ_cons, rsS, List.getElem_cons_succ, this]
theorem e_impl_rest (l : List Slp) (cs : List Int) (hl : l.length ≤ 1000) (hc : cs.length = l.length) : F_impl_rest [sls l, intsL cs] = some (.ret [sls (rsS l cs)] []) := by
  rw [t_impl_rest]
  have ha0 := sls_app (l := []) (m := l) (by simp; omega)
  rw [List.nil_append] at ha0
  simp -implicitDefEqProofs only [mkArr_nil, sls_nil, sls_chk, ha0, Option.bind_some, lenD_arr, List.length_map]
  refine loop_bind (.ext 0 [sls (rsS l cs)]) (loop_for cs.length (fun i => [sls (rsS l (cs.take i)), intsL cs, I cs.length, I i]) _ (fun i hi => ?_) ?_ rfl ?_) ?_
  · have hi' : (i : Int) < (cs.length : Int) := by omega
    have hil : i < l.length := by omega
    have hlen : i < (rsS l (cs.take i)).length := by rw [rsS_len]; exact hil
    have hr : refI 2 (sls (rsS l (cs.take i))) (I (i : Int)) = some (.ref i 0) := by rw [refI_nat, if_pos (by simpa using hlen)]
    have hat : (atD (sls (rsS l (cs.take i))) (.ref i 1)).bind (takeD false 1) = some (I l[i].2) := by
      have := rsS_get l cs i hil
      simp [hlen, this]
    have hs := sls_set (rsS l (cs.take i)) i (IntKind.i64.wrap (l[i].2 - cs[i])) hlen
    rw [rsS_get l cs i hil, rsS_snoc l cs i hil hi] at hs
    simp -implicitDefEqProofs only [sl_zero, sl_succ, bin_lss, hi', decide_true, Option.bind_some, ifD_B, if_true, el_ints hi, Option.map_some, ldD_ptr, takeD_f, chkV_v, liveD_arr, liveD_ref, hr, refAdd_ref, Nat.zero_add, hat, bin_sub, hs, bin_add, wI (show i ≤ 1000000 by omega)]
  · simp
  · cases l <;> rfl
  · simp -implicitDefEqProofs only [outK_ext, Nat.beq_refl, ifN_B, if_true, sl_zero]
theorem e_spec_ruRest (l : List Slp) (cs : List Int) (hl : l.length ≤ 1000) (hc : cs.length = l.length) : F_spec_ruRest [sls l, intsL cs] = some (.ret [sls (rsS l cs)] []) := by
  rw [t_spec_ruRest]
  have ha0 := sls_app (l := []) (m := l) (by simp; omega)
  rw [List.nil_append] at ha0
  simp -implicitDefEqProofs only [mkArr_nil, sls_nil, sls_chk, ha0, Option.bind_some, lenD_arr, List.length_map]
  refine loop_bind (.ext 0 [sls (rsS l cs)]) (loop_for cs.length (fun i => [sls (rsS l (cs.take i)), intsL cs, I cs.length, I i]) _ (fun i hi => ?_) ?_ rfl ?_) ?_
  · have hi' : (i : Int) < (cs.length : Int) := by omega
    have hil : i < l.length := by omega
    have hlen : i < (rsS l (cs.take i)).length := by rw [rsS_len]; exact hil
    have hr : refI 2 (sls (rsS l (cs.take i))) (I (i : Int)) = some (.ref i 0) := by rw [refI_nat, if_pos (by simpa using hlen)]
    have hat : (atD (sls (rsS l (cs.take i))) (.ref i 1)).bind (takeD false 1) = some (I l[i].2) := by
      have := rsS_get l cs i hil
      simp [hlen, this]
    have hs := sls_set (rsS l (cs.take i)) i (IntKind.i64.wrap (l[i].2 - cs[i])) hlen
    rw [rsS_get l cs i hil, rsS_snoc l cs i hil hi] at hs
    simp -implicitDefEqProofs only [sl_zero, sl_succ, bin_lss, hi', decide_true, Option.bind_some, ifD_B, if_true, el_ints hi, Option.map_some, ldD_ptr, takeD_f, chkV_v, liveD_arr, liveD_ref, hr, refAdd_ref, Nat.zero_add, hat, bin_sub, hs, bin_add, wI (show i ≤ 1000000 by omega)]
  · simp
  · cases l <;> rfl
  · simp -implicitDefEqProofs only [outK_ext, Nat.beq_refl, ifN_B, if_true, sl_zero]
end Go.Proofs.YtoocdnbkiejihaaDoor
/-
  Stocks: rules one after the other.
-/
namespace Go.Proofs.YtoocdnbkiejihaaDoor
open Go Go.V
set_option linter.unusedSimpArgs false

theorem ctl_b {l : List Slp} : ∀ {i n v : Nat}, i ≤ l.length → rowF (l.take i) n = some v → ∀ j, j < i → 0 ≤ (ctl l i n).getD j 0 ∧ (ctl l i n).getD j 0 ≤ (slC l j : Int)
  | 0, _, _, _, _, j, hj => absurd hj (Nat.not_lt_zero _)
  | i + 1, n, v, hi, h, j, hj => by
    obtain ⟨u, p1, _, p3⟩ := pk_facts hi h
    have hlen := ctl_len l i (n - pk l i n * slW l i)
    by_cases hji : j < i
    · have := ctl_b (Nat.le_of_succ_le hi) p1 j hji
      have e : (ctl l (i + 1) n).getD j 0 = (ctl l i (n - pk l i n * slW l i)).getD j 0 := by
        simp only [ctl, List.getD_eq_getElem?_getD]
        rw [List.getElem?_append_left (by omega)]
      rw [e]
      exact this
    · have hj' : j = i := by omega
      subst hj'
      have e : (ctl l (j + 1) n).getD j 0 = (pk l j n : Int) := by
        simp only [ctl, List.getD_eq_getElem?_getD]
        rw [List.getElem?_append_right (by omega), hlen]
        simp
      rw [e]
      unfold mx at p3
      omega
theorem rsS_at : ∀ (l : List Slp) (cs : List Int) (i : Nat) (hi : i < l.length) (hc : i < cs.length), (rsS l cs)[i]'(by rw [rsS_len]; exact hi) = (l[i].1, IntKind.i64.wrap (l[i].2 - cs[i]))
  | x :: l, k :: cs, 0, _, _ => rfl
  | x :: l, k :: cs, i + 1, hi, hc => by
    have := rsS_at l cs i (by simpa using hi) (by simpa using hc)
    simp only [rsS, List.getElem_cons_succ, this]
def okL (l : List Slp) : Prop := ∀ x ∈ l, (1 ≤ x.1 ∧ x.1 ≤ 200) ∧ 0 ≤ x.2 ∧ x.2 ≤ 20
theorem okL_rs {l : List Slp} {n : Nat} (h : okL l) (hv : (rowF l n).isSome = true) : okL (rsS l (ctl l l.length n)) := by
  intro x hx
  obtain ⟨i, hi, rfl⟩ := List.getElem_of_mem hx
  rw [rsS_len] at hi
  have hc : i < (ctl l l.length n).length := by rw [ctl_len]; exact hi
  rw [rsS_at l _ i hi hc]
  obtain ⟨v, hv'⟩ := Option.isSome_iff_exists.1 hv
  have hb := ctl_b (l := l) (i := l.length) (n := n) (v := v) (Nat.le_refl _) (by rw [List.take_length]; exact hv') i hi
  have ho := h l[i] (List.getElem_mem hi)
  have hC := slC_at hi ho.2.1
  rw [List.getD_eq_getElem?_getD, List.getElem?_eq_getElem hc, Option.getD_some] at hb
  have hw : IntKind.i64.wrap (l[i].2 - (ctl l l.length n)[i]) = l[i].2 - (ctl l l.length n)[i] := wrap_id (by omega) (by omega)
  rw [hw]
  dsimp only
  omega
/-- Rules one after the other. -/
def rus : List Slp → List Nat → Option (List (List Int))
  | _, [] => some []
  | l, n :: ns => if (rowF l n).isSome = true then (rus (rsS l (ctl l l.length n)) ns).map (ctl l l.length n :: ·) else none
end Go.Proofs.YtoocdnbkiejihaaDoor
/-
  Stocks: rules one after the other, walked.
-/
namespace Go.Proofs.YtoocdnbkiejihaaDoor
open Go Go.V
set_option linter.unusedSimpArgs false

abbrev nsI (ns : List Nat) : List Int := ns.map fun n : Nat => (n : Int)
theorem el_ns {ns : List Nat} {i : Nat} (h : i < ns.length) : elemD 1 (intsL (nsI ns)) (I (i : Int)) = some [I (ns[i] : Int)] := by
  rw [el_ints (by simpa using h)]
  simp
def ruX (l : List Slp) (ns : List Nat) : List (List Int) := (rus l ns).getD []
theorem tpL0 (v : List Int) (ds : List D) : tupAt (.tup (intsL v :: ds)) 0 = some (intsL v) := rfl
theorem tpC (a : D) (v : Value) (ds : List D) : tupAt (tupCut (.tup (a :: .v v :: ds)) 0) 1 = some (.v v) := rfl
theorem tab_nil : D.arr 1 [] = tabD [] := rfl
theorem rus_step {l : List Slp} {ns : List Nat} {i : Nat} (hi : i < ns.length) : rus l (ns.drop i) = if (rowF l ns[i]).isSome = true then (rus (rsS l (ctl l l.length ns[i])) (ns.drop (i + 1))).map (ctl l l.length ns[i] :: ·) else none := by
  rw [List.drop_eq_getElem_cons hi]
  rfl
theorem e_spec_ruRules (l : List Slp) (ns : List Nat) (hl : l.length ≤ 8) (hk : okL l) (hn : ∀ n ∈ ns, n ≤ 400) (hs : ns.length ≤ 1000) :
    F_spec_ruRules [sls l, intsL (nsI ns)] = some (.ret [tabD (ruX l ns), B (rus l ns).isSome] []) := by
  rw [t_spec_ruRules]
  simp -implicitDefEqProofs only [lenD_arr, List.length_map, Option.bind_some]
  refine loop_wf_bind (fun r => r = _) (fun (a : List Slp × List (List Int) × Nat) => [sls a.1, tabD a.2.1, intsL (nsI ns), I ns.length, I (a.2.2 : Int)]) (fun a => a.2.2 ≤ ns.length ∧ a.2.1.length ≤ a.2.2 ∧ a.1.length ≤ 8 ∧ okL a.1 ∧ rus l ns = (rus a.1 (ns.drop a.2.2)).map (a.2.1 ++ ·)) (fun a => ns.length - a.2.2)
    (fun o => o = match rus l ns with
      | none => .ret [.arr 1 [], B false] []
      | some r => .ext 0 [tabD r]) ?_ (l, [], 0) ⟨Nat.zero_le _, Nat.le_refl _, hl, hk, by simp⟩ rfl ?_
  case refine_2 =>
    rintro o rfl
    unfold ruX
    cases rus l ns with
    | none => rfl
    | some r => rfl
  rintro ⟨l', out, i⟩ ⟨g1, g5, g2, g3, g4⟩
  dsimp only at g1 g2 g3 g4 g5
  by_cases hi : i < ns.length
  · have hi' : (i : Int) < (ns.length : Int) := by omega
    have hni := hn ns[i] (List.getElem_mem hi)
    have hr := e_spec_ruRule l' ns[i] g2 hni g3
    rw [rus_step hi] at g4
    cases hv : (rowF l' ns[i]).isSome with
    | false =>
      right
      rw [hv] at g4 hr
      have hrl : rus l ns = none := by rw [g4]; rfl
      refine ⟨_, ?_, ?_, rfl⟩
      · rw [hrl]
        simp -implicitDefEqProofs only [sl_zero, sl_succ, bin_lss, hi', decide_true, Option.bind_some, ifD_B, if_true, el_ns hi, Option.map_some, ldD_ptr, takeD_f, chkV_v, hr, callK_ret, tpL0, tpC, un_not, Bool.not_false]
      · rw [hrl]
        rfl
    | true =>
      left
      rw [hv] at hr
      rw [hv, if_pos rfl] at g4
      have hrl : ruL l' ns[i] = ctl l' l'.length ns[i] := by unfold ruL; rw [hv, if_pos rfl]
      rw [hrl] at hr
      have hap := tab_app (l := out) (m := [ctl l' l'.length ns[i]]) (by simp; omega)
      have hre := e_spec_ruRest l' (ctl l' l'.length ns[i]) (by omega) (ctl_len _ _ _)
      refine ⟨(rsS l' (ctl l' l'.length ns[i]), out ++ [ctl l' l'.length ns[i]], i + 1), ?_, ⟨hi, by simp; omega, by dsimp only; rw [rsS_len]; exact g2, okL_rs g3 hv, ?_⟩, by dsimp only; omega⟩
      · simp -implicitDefEqProofs only [sl_zero, sl_succ, bin_lss, hi', decide_true, Option.bind_some, ifD_B, if_true, el_ns hi, Option.map_some, ldD_ptr, takeD_f, chkV_v, hr, callK_ret, tpL0, tpC, un_not, Bool.not_true, Bool.false_eq_true, if_false, tab_one, hap, hre, bin_add, wI (show i ≤ 1000000 by omega)]
      · rw [g4, Option.map_map]
        congr 1
        funext r
        simp
  · right
    have hi' : ¬ (i : Int) < (ns.length : Int) := by omega
    have he : ns.drop i = [] := by simp; omega
    rw [he] at g4
    have hrl : rus l ns = some out := by rw [g4]; simp [rus]
    refine ⟨_, ?_, ?_, rfl⟩
    · rw [hrl]
      simp -implicitDefEqProofs only [sl_zero, sl_succ, bin_lss, hi', decide_false, Option.bind_some, ifD_B, Bool.false_eq_true, if_false]
    · rw [hrl]
      rfl
end Go.Proofs.YtoocdnbkiejihaaDoor
/-
  Stocks: RulesOf, both.
-/
namespace Go.Proofs.YtoocdnbkiejihaaDoor
open Go Go.V
set_option linter.unusedSimpArgs false

def in4 (n : Int) : Bool := decide (1 ≤ n ∧ n ≤ 400)
def rlA (l : List Slp) (xs : List Int) : Bool := goodS l && decide (xs.length ≤ 6) && xs.all in4
def rlN (xs : List Int) : List Nat := xs.map Int.toNat
def rlB (l : List Slp) (xs : List Int) : Bool := rlA l xs && (rus l (rlN xs)).isSome
def rlR (l : List Slp) (xs : List Int) : List (List Int) := if rlB l xs = true then ruX l (rlN xs) else []
theorem rlN_I {xs : List Int} (h : xs.all in4 = true) : nsI (rlN xs) = xs := by
  rw [nsI, rlN, List.map_map]
  conv => rhs; rw [← List.map_id xs]
  refine List.map_congr_left fun x hx => ?_
  have := List.all_eq_true.1 h x hx
  simp only [in4, decide_eq_true_eq] at this
  show ((x.toNat : Nat) : Int) = x
  omega
theorem rlN_le {xs : List Int} (h : xs.all in4 = true) : ∀ n ∈ rlN xs, n ≤ 400 := by
  intro n hn
  obtain ⟨x, hx, rfl⟩ := List.mem_map.1 hn
  have := List.all_eq_true.1 h x hx
  simp only [in4, decide_eq_true_eq] at this
  omega
theorem e_spec_RulesOf (l : List Slp) (xs : List Int) (h : l.length ≤ 1000) (hx : xs.length ≤ 1000) : F_spec_RulesOf [sls l, intsL xs] = some (.ret [tabD (rlR l xs), B (rlB l xs)] []) := by
  rw [t_spec_RulesOf]
  unfold rlR
  cases h1 : goodS l
  · have hj : rlB l xs = false := by simp only [rlB, rlA, h1, Bool.false_and]
    rw [hj]
    simp -implicitDefEqProofs only [e_spec_ruGood l (by omega), h1, callK_ret, sl_zero, un_not, Bool.not_false, Option.bind_some, gate_f, if_true, gateC_f, pickD_B, ifD_B, Bool.false_eq_true, if_false]
    rfl
  by_cases h2 : xs.length ≤ 6
  case neg =>
    have hj : rlB l xs = false := by simp only [rlB, rlA, h2, decide_false, Bool.and_false, Bool.false_and]
    have h2' : (6 : Int) < (xs.length : Int) := by omega
    rw [hj]
    simp -implicitDefEqProofs only [e_spec_ruGood l (by omega), h1, callK_ret, sl_zero, un_not, Bool.not_true, Option.bind_some, gate_f, lenD_arr, List.length_map, bin_gtr, h2', decide_true, if_true, gateC_f, pickD_B, ifD_B, Bool.false_eq_true, if_false]
    rfl
  have h2' : ¬ (6 : Int) < (xs.length : Int) := by omega
  have ha := e_spec_l1All xs 1 400 (by omega)
  have e : (xs.all fun x => decide (1 ≤ x ∧ x ≤ 400)) = xs.all in4 := rfl
  rw [e] at ha
  cases h3 : xs.all in4
  · have hj : rlB l xs = false := by simp only [rlB, rlA, h3, Bool.and_false, Bool.false_and]
    rw [hj]
    rw [h3] at ha
    simp -implicitDefEqProofs only [e_spec_ruGood l (by omega), h1, callK_ret, sl_zero, un_not, Bool.not_true, Bool.not_false, Option.bind_some, gate_f, lenD_arr, List.length_map, bin_gtr, h2', decide_false, ha, nrmK_some, if_true, gateC_f, pickD_B, ifD_B, Bool.false_eq_true, if_false]
    rfl
  rw [h3] at ha
  have hr := e_spec_ruRules l (rlN xs) (goodS_len h1) (goodS_ok h1) (rlN_le h3) (by simp [rlN]; omega)
  rw [rlN_I h3] at hr
  have hj : rlB l xs = (rus l (rlN xs)).isSome := by simp only [rlB, rlA, h1, h2, h3, decide_true, Bool.true_and]
  rw [hj]
  have tp : ∀ (v : List (List Int)) (ds : List D), tupAt (.tup (tabD v :: ds)) 0 = some (tabD v) := fun _ _ => rfl
  simp -implicitDefEqProofs only [e_spec_ruGood l (by omega), h1, callK_ret, sl_zero, un_not, Bool.not_true, Option.bind_some, gate_f, lenD_arr, List.length_map, bin_gtr, h2', decide_false, ha, nrmK_some, gateC_f, pickD_B, ifD_B, Bool.false_eq_true, if_false, hr, tp, tpC]
  cases hu : rus l (rlN xs) with
  | none => simp [ruX, hu]
  | some r => simp
end Go.Proofs.YtoocdnbkiejihaaDoor
/-
  Stocks: impl's RulesOf.
-/
namespace Go.Proofs.YtoocdnbkiejihaaDoor
open Go Go.V
set_option linter.unusedSimpArgs false

theorem e_impl_isRuleLength (n : Int) : F_impl_isRuleLength [I n] = some (.ret [B (in4 n)] []) := by
  rw [t_impl_isRuleLength]
  simp -implicitDefEqProofs only [e_impl_within, callK_ret, sl_zero, in4]
theorem binN_nil : binN .eql (.v (.slice none 0 0)) = some (B true) := rfl
theorem binN_ints {l : List Int} (h : 0 < l.length) : binN .eql (intsL l) = some (B false) := by
  cases l with
  | nil => simp at h
  | cons x l => rfl
theorem e_impl_RulesOf (l : List Slp) (xs : List Int) (h : l.length ≤ 1000) (hx : xs.length ≤ 1000) : F_impl_RulesOf [sls l, intsL xs] = some (.ret [tabD (rlR l xs), B (rlB l xs)] []) := by
  rw [t_impl_RulesOf]
  cases h1 : goodS l
  · have hj : rlB l xs = false := by simp only [rlB, rlA, h1, Bool.false_and]
    unfold rlR
    rw [hj]
    simp -implicitDefEqProofs only [e_impl_IsStock l (by omega), h1, callK_ret, sl_zero, un_not, Bool.not_false, Option.bind_some, gate_f, if_true, pickD_B, ifD_B, mkArr_nil, Bool.false_eq_true, if_false]
    rfl
  by_cases h2 : xs.length ≤ 6
  case neg =>
    have hj : rlB l xs = false := by simp only [rlB, rlA, h2, decide_false, Bool.and_false, Bool.false_and]
    have h2' : (6 : Int) < (xs.length : Int) := by omega
    unfold rlR
    rw [hj]
    simp -implicitDefEqProofs only [e_impl_IsStock l (by omega), h1, callK_ret, sl_zero, un_not, Bool.not_true, Option.bind_some, gate_f, lenD_arr, List.length_map, bin_gtr, h2', decide_true, if_true, pickD_B, ifD_B, mkArr_nil, Bool.false_eq_true, if_false]
    rfl
  have h2' : ¬ (6 : Int) < (xs.length : Int) := by omega
  simp -implicitDefEqProofs only [e_impl_IsStock l (by omega), h1, callK_ret, sl_zero, un_not, Bool.not_true, Option.bind_some, gate_f, lenD_arr, List.length_map, bin_gtr, h2', decide_false, pickD_B, ifD_B, Bool.false_eq_true, if_false]
  refine loop_bind _ (loop_all xs (fun i => [sls l, intsL xs, intsL xs, I xs.length, I i]) (fun _ x => in4 x) (.ret [.arr 1 [], B false] []) (.ext 0 [sls l, intsL xs]) (fun i hi => ?_) ?_ rfl rfl rfl) ?_
  · have hi' : (i : Int) < (xs.length : Int) := by omega
    cases hq : in4 xs[i]
    · simp -implicitDefEqProofs only [sl_zero, sl_succ, bin_lss, hi', decide_true, Option.bind_some, ifD_B, if_true, el_ints hi, Option.map_some, ldD_ptr, takeD_f, chkV_v, e_impl_isRuleLength, hq, callK_ret, un_not, Bool.not_false, mkArr_nil, Bool.false_eq_true, if_false]
    · simp -implicitDefEqProofs only [sl_zero, sl_succ, bin_lss, hi', decide_true, Option.bind_some, ifD_B, if_true, el_ints hi, Option.map_some, ldD_ptr, takeD_f, chkV_v, e_impl_isRuleLength, hq, callK_ret, un_not, Bool.not_true, Bool.false_eq_true, if_false, bin_add, wI (show i ≤ 1000000 by omega)]
  · simp
  have hall : allI (fun _ x => in4 x) 0 xs = xs.all in4 := by
    have key : ∀ (m : List Int) (i : Nat), allI (fun _ x => in4 x) i m = m.all in4 := by
      intro m
      induction m with
      | nil => intro i; rfl
      | cons x m ih => intro i; simp only [allI, ih, List.all_cons]
    exact key xs 0
  rw [hall]
  cases h3 : xs.all in4
  · have hj : rlB l xs = false := by simp only [rlB, rlA, h3, Bool.and_false, Bool.false_and]
    unfold rlR
    rw [hj]
    rfl
  have hnI := rlN_I h3
  have hle := rlN_le h3
  have hge : ∀ n ∈ rlN xs, 1 ≤ n := by
    intro n hn
    obtain ⟨x, hx, rfl⟩ := List.mem_map.1 hn
    have := List.all_eq_true.1 h3 x hx
    simp only [in4, decide_eq_true_eq] at this
    omega
  have hlenN : (rlN xs).length = xs.length := by simp [rlN]
  have hj : rlB l xs = (rus l (rlN xs)).isSome := by simp only [rlB, rlA, h1, h2, h3, decide_true, Bool.true_and]
  unfold rlR
  rw [hj]
  rw [← hnI]
  rw [hnI]
  simp -implicitDefEqProofs only [if_true, outK_ext, Nat.beq_refl, ifN_B, sl_zero, sl_succ, mkArr_nil, lenD_arr, List.length_map, Option.bind_some]
  generalize hns : rlN xs = ns at *
  have hxl : (xs.length : Int) = (ns.length : Int) := by omega
  rw [hxl, ← hnI]
  refine loop_wf_bind (fun r => r = _) (fun (a : List Slp × List (List Int) × Nat) => [sls a.1, tabD a.2.1, intsL (nsI ns), I ns.length, I (a.2.2 : Int)]) (fun a => a.2.2 ≤ ns.length ∧ a.2.1.length ≤ a.2.2 ∧ a.1.length ≤ 8 ∧ okL a.1 ∧ rus l ns = (rus a.1 (ns.drop a.2.2)).map (a.2.1 ++ ·)) (fun a => ns.length - a.2.2)
    (fun o => o = match rus l ns with
      | none => .ret [.arr 1 [], B false] []
      | some r => .ext 2 [tabD r]) ?_ (l, [], 0) ⟨Nat.zero_le _, Nat.le_refl _, goodS_len h1, goodS_ok h1, by simp⟩ rfl ?_
  case refine_2 =>
    rintro o rfl
    unfold ruX
    cases rus l ns with
    | none => rfl
    | some r => rfl
  rintro ⟨l', out, i⟩ ⟨g1, g5, g2, g3, g4⟩
  dsimp only at g1 g2 g3 g4 g5
  by_cases hi : i < ns.length
  · have hi' : (i : Int) < (ns.length : Int) := by omega
    have hni := hle ns[i] (List.getElem_mem hi)
    have hn1 := hge ns[i] (List.getElem_mem hi)
    have hr := e_impl_ruleOf l' ns[i] g2 hni g3
    rw [rus_step hi] at g4
    unfold ruO at hr
    cases hv : (rowF l' ns[i]).isSome with
    | false =>
      right
      rw [hv] at g4 hr
      simp only [Bool.false_eq_true, if_false] at hr
      have hrl : rus l ns = none := by rw [g4]; rfl
      refine ⟨_, ?_, ?_, rfl⟩
      · rw [hrl]
        simp -implicitDefEqProofs only [sl_zero, sl_succ, bin_lss, hi', decide_true, Option.bind_some, ifD_B, if_true, el_ns hi, Option.map_some, ldD_ptr, takeD_f, chkV_v, hr, callK_ret, binN_nil, mkArr_nil]
      · rw [hrl]
        rfl
    | true =>
      left
      rw [hv, if_pos rfl] at hr
      rw [hv, if_pos rfl] at g4
      have hpos : 0 < (ctl l' l'.length ns[i]).length := by
        rw [ctl_len]
        cases l' with
        | nil =>
          have : rowF [] ns[i] = none := by
            show row0 ns[i] = none
            unfold row0
            rw [if_neg (by omega)]
          rw [this] at hv
          cases hv
        | cons x l' => simp
      have hap := tab_app (l := out) (m := [ctl l' l'.length ns[i]]) (by simp; omega)
      have hre := e_impl_rest l' (ctl l' l'.length ns[i]) (by omega) (ctl_len _ _ _)
      refine ⟨(rsS l' (ctl l' l'.length ns[i]), out ++ [ctl l' l'.length ns[i]], i + 1), ?_, ⟨hi, by simp; omega, by dsimp only; rw [rsS_len]; exact g2, okL_rs g3 hv, ?_⟩, by dsimp only; omega⟩
      · simp -implicitDefEqProofs only [sl_zero, sl_succ, bin_lss, hi', decide_true, Option.bind_some, ifD_B, if_true, el_ns hi, Option.map_some, ldD_ptr, takeD_f, chkV_v, hr, callK_ret, binN_ints hpos, Bool.false_eq_true, if_false, tab_one, hap, hre, bin_add, wI (show i ≤ 1000000 by omega)]
      · rw [g4, Option.map_map]
        congr 1
        funext r
        simp
  · right
    have hi' : ¬ (i : Int) < (ns.length : Int) := by omega
    have he : ns.drop i = [] := by simp; omega
    rw [he] at g4
    have hrl : rus l ns = some out := by rw [g4]; simp [rus]
    refine ⟨_, ?_, ?_, rfl⟩
    · rw [hrl]
      simp -implicitDefEqProofs only [sl_zero, sl_succ, bin_lss, hi', decide_false, Option.bind_some, ifD_B, Bool.false_eq_true, if_false]
    · rw [hrl]
      rfl
end Go.Proofs.YtoocdnbkiejihaaDoor
/-
  Stocks: frames, lists held side by side.
-/
namespace Go.Proofs.YtoocdnbkiejihaaDoor
open Go Go.V
set_option linter.unusedSimpArgs false

theorem e_laws_sameLists (ll : List (List Int)) (h : ll.length ≤ 1000) (hs : ∀ l ∈ ll, l.length ≤ 1000) : F_laws_sameLists [tabD ll, tabD ll] = some (.ret [B true] []) := by
  rw [t_laws_sameLists]
  simp -implicitDefEqProofs only [lenD_arr, List.length_map, Option.bind_some, bin_neq, decide_true, Bool.not_true, ifD_B, Bool.false_eq_true, if_false]
  refine loop_bind (.ext 0 []) (loop_for ll.length (fun i => [tabD ll, tabD ll, I ll.length, I i]) _ (fun i hi => ?_) ?_ rfl rfl) ?_
  · have hi' : (i : Int) < (ll.length : Int) := by omega
    have hq := e_laws_sameInts ll[i] (by have := hs ll[i] (List.getElem_mem hi); omega)
    simp -implicitDefEqProofs only [sl_zero, sl_succ, bin_lss, hi', decide_true, Option.bind_some, ifD_B, if_true, el_tab hi, Option.map_some, ldD_ptr, takeD_f, hq, callK_ret, un_not, Bool.not_true, Bool.false_eq_true, if_false, bin_add, wI (show i ≤ 1000000 by omega)]
  · simp
  · simp
def frL (wide high corner : Int) : List Int := [IntKind.i64.wrap (wide - 2 * corner), IntKind.i64.wrap (wide - 2 * corner), IntKind.i64.wrap (high - 2 * corner), IntKind.i64.wrap (high - 2 * corner)]
def frA (wide high corner : Int) : Bool := decide (wide ≤ 400) && decide (high ≤ 400) && decide (0 ≤ corner ∧ corner ≤ 50)
def frB (l : List Slp) (wide high corner : Int) : Bool := frA wide high corner && rlB l (frL wide high corner)
def frR (l : List Slp) (wide high corner : Int) : List (List Int) := if frB l wide high corner = true then rlR l (frL wide high corner) else []
theorem tpT (v : List (List Int)) (ds : List D) : tupAt (.tup (tabD v :: ds)) 0 = some (tabD v) := rfl
theorem e_impl_FrameOf (l : List Slp) (wide high corner : Int) (h : l.length ≤ 1000) : F_impl_FrameOf [sls l, I wide, I high, I corner] = some (.ret [tabD (frR l wide high corner), B (frB l wide high corner)] []) := by
  rw [t_impl_FrameOf]
  unfold frR
  by_cases h1 : wide ≤ 400
  case neg =>
    have hj : frB l wide high corner = false := by simp only [frB, frA, h1, decide_false, Bool.false_and]
    have h1' : (400 : Int) < wide := by omega
    rw [hj]
    simp -implicitDefEqProofs only [bin_gtr, h1', decide_true, Option.bind_some, gate_f, if_true, pickD_B, gateC_f, ifD_B, mkArr_nil, Bool.false_eq_true, if_false]
    rfl
  have h1' : ¬ (400 : Int) < wide := by omega
  by_cases h2 : high ≤ 400
  case neg =>
    have hj : frB l wide high corner = false := by simp only [frB, frA, h2, decide_false, Bool.and_false, Bool.false_and]
    have h2' : (400 : Int) < high := by omega
    rw [hj]
    simp -implicitDefEqProofs only [bin_gtr, h1', h2', decide_true, decide_false, Option.bind_some, gate_f, if_true, pickD_B, gateC_f, ifD_B, mkArr_nil, Bool.false_eq_true, if_false]
    rfl
  have h2' : ¬ (400 : Int) < high := by omega
  by_cases h3 : 0 ≤ corner ∧ corner ≤ 50
  case neg =>
    have hj : frB l wide high corner = false := by simp only [frB, frA, h3, decide_false, Bool.and_false, Bool.false_and]
    rw [hj]
    simp -implicitDefEqProofs only [bin_gtr, h1', h2', decide_false, Option.bind_some, gate_f, if_true, pickD_B, gateC_f, e_impl_within, h3, callK_ret, sl_zero, nrmK_some, un_not, Bool.not_false, ifD_B, mkArr_nil, Bool.false_eq_true, if_false]
    rfl
  have hj : frB l wide high corner = rlB l (frL wide high corner) := by simp only [frB, frA, h1, h2, h3, and_self, decide_true, Bool.true_and]
  have w1 : IntKind.i64.wrap (2 * corner) = 2 * corner := wrap_id (by omega) (by omega)
  have hm := mkInts (l := frL wide high corner)
  have hr := e_impl_RulesOf l (frL wide high corner) h (by simp [frL])
  simp only [frL, List.map_cons, List.map_nil] at hm
  have hq : intsD (frL wide high corner) = intsL (frL wide high corner) := rfl
  simp only [frL] at hq
  rw [hj]
  have hrr : (if rlB l (frL wide high corner) = true then rlR l (frL wide high corner) else []) = rlR l (frL wide high corner) := by
    unfold rlR
    cases rlB l (frL wide high corner) <;> rfl
  rw [hrr]
  simp only [frL] at hr ⊢
  simp -implicitDefEqProofs only [bin_gtr, h1', h2', decide_false, Option.bind_some, gate_f, pickD_B, gateC_f, e_impl_within, h3, and_self, decide_true, callK_ret, sl_zero, nrmK_some, un_not, Bool.not_true, ifD_B, Bool.false_eq_true, if_false, bin_mul, w1, bin_sub, hm, hq, hr, tpT, tpC]
end Go.Proofs.YtoocdnbkiejihaaDoor
/-
  Stocks: spec's frames.
-/
namespace Go.Proofs.YtoocdnbkiejihaaDoor
open Go Go.V
set_option linter.unusedSimpArgs false

theorem e_spec_ruLength (n : Int) : F_spec_ruLength [I n] = some (.ret [B (in4 n)] []) := by
  rw [t_spec_ruLength]
  simp -implicitDefEqProofs only [e_spec_l1In, callK_ret, sl_zero, in4]
/-- What is no length is none without its corners. -/
theorem in4_sub {w c : Int} (h0 : -9223372036854775808 ≤ w) (h1 : w ≤ 400) (hc : 0 ≤ c ∧ c ≤ 50) (h : in4 (IntKind.i64.wrap (w - 2 * c)) = true) : in4 w = true ∧ IntKind.i64.wrap (w - 2 * c) = w - 2 * c := by
  simp only [in4, decide_eq_true_eq, IntKind.wrap_i64] at h ⊢
  omega
theorem frB_facts {l : List Slp} {wide high corner : Int} (hw : -9223372036854775808 ≤ wide) (hh : -9223372036854775808 ≤ high) (h : frB l wide high corner = true) :
    goodS l = true ∧ in4 wide = true ∧ in4 high = true ∧ (0 ≤ corner ∧ corner ≤ 50) ∧ in4 (wide - 2 * corner) = true ∧ in4 (high - 2 * corner) = true := by
  simp only [frB, frA, rlB, rlA, frL, List.all_cons, List.all_nil, Bool.and_true, Bool.and_eq_true, decide_eq_true_eq] at h
  obtain ⟨⟨⟨h1, h2⟩, h3⟩, ⟨⟨h4, -⟩, h5, -, h6, -⟩, -⟩ := h
  obtain ⟨a1, a2⟩ := in4_sub hw h1 h3 h5
  obtain ⟨b1, b2⟩ := in4_sub hh h2 h3 h6
  rw [a2] at h5
  rw [b2] at h6
  exact ⟨h4, a1, b1, h3, h5, h6⟩
theorem e_spec_FrameOf (l : List Slp) (wide high corner : Int) (h : l.length ≤ 1000) (hw : -9223372036854775808 ≤ wide) (hh : -9223372036854775808 ≤ high) :
    F_spec_FrameOf [sls l, I wide, I high, I corner] = some (.ret [tabD (frR l wide high corner), B (frB l wide high corner)] []) := by
  rw [t_spec_FrameOf]
  unfold frR
  have neg : ¬ (goodS l = true ∧ in4 wide = true ∧ in4 high = true ∧ (0 ≤ corner ∧ corner ≤ 50) ∧ in4 (wide - 2 * corner) = true ∧ in4 (high - 2 * corner) = true) → frB l wide high corner = false := fun hn => by
    cases hf : frB l wide high corner
    · rfl
    · exact absurd (frB_facts hw hh hf) hn
  cases h1 : goodS l
  · rw [neg (fun g => by rw [h1] at g; exact absurd g.1 (by decide))]
    simp -implicitDefEqProofs only [e_spec_ruGood l (by omega), h1, callK_ret, sl_zero, un_not, Bool.not_false, Option.bind_some, gate_f, if_true, gateC_f, pickD_B, ifD_B, Bool.false_eq_true, if_false]
    rfl
  cases h2 : in4 wide
  · rw [neg (fun g => by rw [h2] at g; exact absurd g.2.1 (by decide))]
    simp -implicitDefEqProofs only [e_spec_ruGood l (by omega), h1, callK_ret, sl_zero, un_not, Bool.not_true, Bool.not_false, Option.bind_some, gate_f, if_true, gateC_f, e_spec_ruLength, h2, nrmK_some, pickD_B, ifD_B, Bool.false_eq_true, if_false]
    rfl
  cases h3 : in4 high
  · rw [neg (fun g => by rw [h3] at g; exact absurd g.2.2.1 (by decide))]
    simp -implicitDefEqProofs only [e_spec_ruGood l (by omega), h1, callK_ret, sl_zero, un_not, Bool.not_true, Bool.not_false, Option.bind_some, gate_f, if_true, gateC_f, e_spec_ruLength, h2, h3, nrmK_some, pickD_B, ifD_B, Bool.false_eq_true, if_false]
    rfl
  by_cases h4 : 0 ≤ corner ∧ corner ≤ 50
  case neg =>
    rw [neg (fun g => h4 g.2.2.2.1)]
    simp -implicitDefEqProofs only [e_spec_ruGood l (by omega), h1, callK_ret, sl_zero, un_not, Bool.not_true, Bool.not_false, Option.bind_some, gate_f, if_true, gateC_f, e_spec_ruLength, h2, h3, e_spec_l1In, h4, decide_false, nrmK_some, pickD_B, ifD_B, Bool.false_eq_true, if_false]
    rfl
  have b2 := h2
  have b3 := h3
  simp only [in4, decide_eq_true_eq] at b2 b3
  have w1 : IntKind.i64.wrap (2 * corner) = 2 * corner := wrap_id (by omega) (by omega)
  have w2 : IntKind.i64.wrap (wide - 2 * corner) = wide - 2 * corner := wrap_id (by omega) (by omega)
  have w3 : IntKind.i64.wrap (high - 2 * corner) = high - 2 * corner := wrap_id (by omega) (by omega)
  by_cases h5 : wide - 2 * corner < 1
  · rw [neg (fun g => by have := g.2.2.2.2.1; simp only [in4, decide_eq_true_eq] at this; omega)]
    simp -implicitDefEqProofs only [e_spec_ruGood l (by omega), h1, callK_ret, sl_zero, un_not, Bool.not_true, Option.bind_some, gate_f, if_true, gateC_f, e_spec_ruLength, h2, h3, e_spec_l1In, h4, and_self, decide_true, nrmK_some, pickD_B, ifD_B, Bool.false_eq_true, if_false, bin_mul, w1, bin_sub, w2, w3, bin_lss, h5]
    rfl
  by_cases h6 : high - 2 * corner < 1
  · rw [neg (fun g => by have := g.2.2.2.2.2; simp only [in4, decide_eq_true_eq] at this; omega)]
    simp -implicitDefEqProofs only [e_spec_ruGood l (by omega), h1, callK_ret, sl_zero, un_not, Bool.not_true, Option.bind_some, gate_f, if_true, gateC_f, e_spec_ruLength, h2, h3, e_spec_l1In, h4, and_self, decide_true, decide_false, nrmK_some, pickD_B, ifD_B, Bool.false_eq_true, if_false, bin_mul, w1, bin_sub, w2, w3, bin_lss, h5, h6]
    rfl
  have hfl : frL wide high corner = [wide - 2 * corner, wide - 2 * corner, high - 2 * corner, high - 2 * corner] := by simp only [frL, w2, w3]
  have ha : (frL wide high corner).all in4 = true := by
    rw [hfl]
    have e1 : in4 (wide - 2 * corner) = true := by simp only [in4, decide_eq_true_eq]; omega
    have e2 : in4 (high - 2 * corner) = true := by simp only [in4, decide_eq_true_eq]; omega
    simp only [List.all_cons, List.all_nil, e1, e2, Bool.and_self]
  have hr := e_spec_ruRules l (rlN (frL wide high corner)) (goodS_len h1) (goodS_ok h1) (rlN_le ha) (by simp [rlN, frL])
  rw [rlN_I ha] at hr
  have hj : frB l wide high corner = (rus l (rlN (frL wide high corner))).isSome := by
    have e1 : decide (wide ≤ 400) = true := decide_eq_true b2.2
    have e2 : decide (high ≤ 400) = true := decide_eq_true b3.2
    have e3 : decide ((frL wide high corner).length ≤ 6) = true := rfl
    simp only [frB, frA, rlB, rlA, h1, ha, e1, e2, e3, h4, and_self, decide_true, Bool.true_and]
  have hrl : rlB l (frL wide high corner) = (rus l (rlN (frL wide high corner))).isSome := by
    have e3 : decide ((frL wide high corner).length ≤ 6) = true := rfl
    simp only [rlB, rlA, h1, ha, e3, Bool.true_and]
  have hR : (if frB l wide high corner = true then rlR l (frL wide high corner) else []) = ruX l (rlN (frL wide high corner)) := by
    unfold rlR
    rw [hj, hrl]
    unfold ruX
    cases rus l (rlN (frL wide high corner)) <;> rfl
  rw [hR, hj]
  have hm := mkInts (l := frL wide high corner)
  have hq : intsD (frL wide high corner) = intsL (frL wide high corner) := rfl
  rw [hq] at hm
  rw [hfl] at hm hr ⊢
  simp only [List.map_cons, List.map_nil] at hm
  simp -implicitDefEqProofs only [e_spec_ruGood l (by omega), h1, callK_ret, sl_zero, un_not, Bool.not_true, Option.bind_some, gate_f, gateC_f, e_spec_ruLength, h2, h3, e_spec_l1In, h4, and_self, decide_true, decide_false, nrmK_some, pickD_B, ifD_B, Bool.false_eq_true, if_false, bin_mul, w1, bin_sub, w2, w3, bin_lss, h5, h6, hm, hr, tpT, tpC]
end Go.Proofs.YtoocdnbkiejihaaDoor
/-
  Stocks: rules make up their lengths; pieces are kept.
-/
namespace Go.Proofs.YtoocdnbkiejihaaDoor
open Go Go.V
set_option linter.unusedSimpArgs false

/-- The length of some counts. -/
def dotS : List Slp → List Int → Int
  | x :: l, k :: cs => k * x.1 + dotS l cs
  | _, _ => 0
theorem dotS_snoc : ∀ (l : List Slp) (cs : List Int) (k : Int) (h : cs.length < l.length), dotS l (cs ++ [k]) = dotS l cs + k * l[cs.length].1
  | x :: l, [], k, _ => by
    cases l <;> simp [dotS]
  | x :: l, c :: cs, k, h => by
    have := dotS_snoc l cs k (by simpa using h)
    simp only [List.cons_append, dotS, List.length_cons, List.getElem_cons_succ]
    rw [this]
    omega
theorem ctl_dot {l : List Slp} (hk : okL l) : ∀ {i n v : Nat}, i ≤ l.length → rowF (l.take i) n = some v → dotS l (ctl l i n) = (n : Int)
  | 0, n, v, _, h => by
    have h0 : row0 n = some v := by
      simpa [rowF] using h
    unfold row0 at h0
    split at h0
    · subst_vars
      cases l <;> rfl
    · cases h0
  | i + 1, n, v, hi, h => by
    obtain ⟨u, p1, _, p3⟩ := pk_facts hi h
    have ih := ctl_dot hk (Nat.le_of_succ_le hi) p1
    have hlen := ctl_len l i (n - pk l i n * slW l i)
    have ho := hk l[i] (List.getElem_mem hi)
    have hW := slW_at hi (by omega)
    have hpm : pk l i n * slW l i ≤ n := by
      have : pk l i n ≤ n / slW l i := by unfold mx at p3; omega
      exact (Nat.le_div_iff_mul_le (by omega)).1 this
    have e := dotS_snoc l (ctl l i (n - pk l i n * slW l i)) (pk l i n : Int) (by omega)
    show dotS l (ctl l i (n - pk l i n * slW l i) ++ [(pk l i n : Int)]) = (n : Int)
    rw [e, ih]
    have hg : l[(ctl l i (n - pk l i n * slW l i)).length]'(by omega) = l[i] := by simp only [hlen]
    rw [hg, ← hW]
    have : (pk l i n : Int) * ((slW l i : Nat) : Int) = ((pk l i n * slW l i : Nat) : Int) := by rw [Int.natCast_mul]
    rw [this]
    omega
theorem dotS_rs : ∀ (l : List Slp) (ks cs : List Int), dotS (rsS l ks) cs = dotS l cs
  | [], _, _ => by simp [rsS]
  | _ :: _, [], _ => by simp [rsS]
  | x :: l, k :: ks, [] => by simp [rsS, dotS]
  | x :: l, k :: ks, c :: cs => by
    simp only [rsS, dotS]
    rw [dotS_rs l ks cs]
/-- Each rule makes up its length. -/
theorem rus_dot : ∀ (ns : List Nat) (l : List Slp), okL l → ∀ r, rus l ns = some r → r.length = ns.length ∧ ∀ k (h1 : k < r.length) (h2 : k < ns.length), dotS l r[k] = (ns[k] : Int) ∧ r[k].length = l.length ∧ ∀ x ∈ r[k], 0 ≤ x ∧ x ≤ 20
  | [], l, _, r, h => by
    cases h
    exact ⟨rfl, fun k h1 => absurd h1 (Nat.not_lt_zero _)⟩
  | n :: ns, l, hk, r, h => by
    unfold rus at h
    split at h
    case isFalse => cases h
    rename_i hv
    obtain ⟨r', h1, rfl⟩ := Option.map_eq_some_iff.1 h
    obtain ⟨g1, g2⟩ := rus_dot ns _ (okL_rs hk hv) r' h1
    refine ⟨by simp [g1], fun k a1 a2 => ?_⟩
    cases k with
    | zero =>
      obtain ⟨v, hv'⟩ := Option.isSome_iff_exists.1 hv
      have hd := ctl_dot hk (i := l.length) (n := n) (v := v) (Nat.le_refl _) (by rw [List.take_length]; exact hv')
      refine ⟨hd, ctl_len _ _ _, fun x hx => ?_⟩
      obtain ⟨j, hj, rfl⟩ := List.getElem_of_mem hx
      have hj' : j < l.length := by simpa [ctl_len] using hj
      have hb := ctl_b (l := l) (i := l.length) (n := n) (v := v) (Nat.le_refl _) (by rw [List.take_length]; exact hv') j hj'
      have ho := hk l[j] (List.getElem_mem hj')
      have hC := slC_at hj' ho.2.1
      have e : (ctl l l.length n).getD j 0 = (ctl l l.length n)[j]'(by rw [ctl_len]; exact hj') := by
        rw [List.getD_eq_getElem?_getD, List.getElem?_eq_getElem (by rw [ctl_len]; exact hj'), Option.getD_some]
      rw [e] at hb
      simp only [List.getElem_cons_zero]
      omega
    | succ k =>
      have := g2 k (by simpa using a1) (by simpa using a2)
      rw [dotS_rs, rsS_len] at this
      exact this
end Go.Proofs.YtoocdnbkiejihaaDoor
/-
  Stocks: lengths are kept by cuts and joins.
-/
namespace Go.Proofs.YtoocdnbkiejihaaDoor
open Go Go.V
set_option linter.unusedSimpArgs false

theorem lenS_cons (x : Slp) (l : List Slp) : lenS (x :: l) = x.1 * x.2 + lenS l := by simp [lenS]
theorem lenS_set : ∀ (l : List Slp) (i : Nat) (y : Slp) (h : i < l.length), lenS (l.set i y) = lenS l - l[i].1 * l[i].2 + y.1 * y.2
  | x :: l, 0, y, _ => by
    simp only [List.set_cons_zero, lenS_cons, List.getElem_cons_zero]
    omega
  | x :: l, i + 1, y, h => by
    have := lenS_set l i y (by simpa using h)
    simp only [List.set_cons_succ, lenS_cons, List.getElem_cons_succ, this]
    omega
theorem lenS_put {l : List Slp} {len cnt k : Int} (h : ∀ x ∈ l, 0 ≤ x.2 ∧ x.2 ≤ k) (hk : k ≤ 1000000) (hc : 0 ≤ cnt ∧ cnt ≤ 1000000) : lenS (putS l len cnt) = lenS l + len * cnt ∧ ∀ x ∈ putS l len cnt, 0 ≤ x.2 ∧ x.2 ≤ max k 0 + cnt := by
  unfold putS
  split
  · rename_i hp
    obtain ⟨h1, h2⟩ := hp
    have eg : l.getD (findS len l) (0, 0) = l[findS len l] := by simp [List.getD_eq_getElem?_getD, h2]
    rw [eg] at h1 ⊢
    have hb := h l[findS len l] (List.getElem_mem h2)
    have hw : IntKind.i64.wrap (l[findS len l].2 + cnt) = l[findS len l].2 + cnt := wrap_id (by omega) (by omega)
    rw [hw]
    constructor
    · rw [lenS_set l _ _ h2]
      dsimp only
      rw [h1, Int.mul_add]
      omega
    · intro x hx
      rcases List.mem_or_eq_of_mem_set hx with hx | rfl
      · have := h x hx
        omega
      · dsimp only
        omega
  · constructor
    · rw [lenS_app, lenS_app, lenS_one]
      have : lenS l = lenS (l.take (findS len l)) + lenS (l.drop (findS len l)) := by rw [← lenS_app, List.take_append_drop]
      rw [this]
      dsimp only
      omega
    · intro x hx
      rcases List.mem_append.1 hx with hx | hx
      · rcases List.mem_append.1 hx with hx | hx
        · have := h x (List.mem_of_mem_take hx)
          omega
        · rw [List.mem_singleton.1 hx]
          dsimp only
          omega
      · have := h x (List.mem_of_mem_drop hx)
        omega
end Go.Proofs.YtoocdnbkiejihaaDoor
/-
  Stocks: what the law asks of cuts, joins and rules.
-/
namespace Go.Proofs.YtoocdnbkiejihaaDoor
open Go Go.V
set_option linter.unusedSimpArgs false

theorem jn_len : ∀ (b a : List Slp) (k : Int), (∀ x ∈ a, 0 ≤ x.2 ∧ x.2 ≤ k) → 0 ≤ k → (∀ x ∈ b, 0 ≤ x.2 ∧ x.2 ≤ 20) → k + 20 * (b.length : Int) ≤ 1000000 → lenS (jnS a b) = lenS a + lenS b
  | [], a, k, _, _, _, _ => by simp [jnS, lenS]
  | x :: b, a, k, ha, hk, hb, hl => by
    have e : jnS a (x :: b) = jnS (putS a x.1 x.2) b := rfl
    have hx := hb x (by simp)
    rw [List.length_cons] at hl
    obtain ⟨p1, p2⟩ := lenS_put (len := x.1) ha (by omega) (show 0 ≤ x.2 ∧ x.2 ≤ 1000000 by omega)
    rw [e, jn_len b (putS a x.1 x.2) (k + 20) (fun y hy => by have := p2 y hy; omega) (by omega) (fun y hy => hb y (by simp [hy])) (by omega), p1, lenS_cons]
    omega
theorem jn_facts {a b : List Slp} (h : jnB a b = true) : goodS a = true ∧ goodS b = true ∧ goodS (jnS a b) = true ∧ jnR a b = jnS a b ∧ lenS (jnS a b) = lenS a + lenS b := by
  have h0 := h
  simp only [jnB, Bool.and_eq_true] at h
  obtain ⟨⟨h1, h2⟩, h3⟩ := h
  have hb := goodS_len h2
  refine ⟨h1, h2, h3, by simp only [jnR, h0, if_true], jn_len b a 20 (fun x hx => (goodS_ok h1 x hx).2) (by omega) (fun x hx => (goodS_ok h2 x hx).2) (by omega)⟩
theorem cu_facts {l : List Slp} {i len : Int} (h : cuB l i len = true) : goodS l = true ∧ goodS (cuK l i.toNat len) = true ∧ cuR l i len = cuK l i.toNat len ∧ lenS (cuK l i.toNat len) = lenS l := by
  have h0 := h
  simp only [cuB, cuA, Bool.and_eq_true, decide_eq_true_eq, Bool.not_eq_true', decide_eq_false_iff_not] at h
  obtain ⟨⟨⟨⟨h1, h2⟩, h3⟩, h4⟩, h5⟩ := h
  refine ⟨h1, h5, by simp only [cuR, h0, if_true], ?_⟩
  have hu : i.toNat < l.length := by omega
  have eg : l.getD i.toNat (0, 0) = l[i.toNat] := by simp [List.getD_eq_getElem?_getD, hu]
  rw [eg] at h3 h4
  have hok := goodS_ok h1 l[i.toNat] (List.getElem_mem hu)
  have hc : ∀ x ∈ l.set i.toNat (l[i.toNat].1, l[i.toNat].2 - 1), 0 ≤ x.2 ∧ x.2 ≤ 20 := by
    intro x hx
    rcases List.mem_or_eq_of_mem_set hx with hx | rfl
    · exact (goodS_ok h1 x hx).2
    · dsimp only
      omega
  obtain ⟨p1, p2⟩ := lenS_put (len := len) hc (by omega) (show (0 : Int) ≤ 1 ∧ (1 : Int) ≤ 1000000 by omega)
  obtain ⟨q1, -⟩ := lenS_put (len := l[i.toNat].1 - len) (k := 21) (fun x hx => by have := p2 x hx; omega) (by omega) (show (0 : Int) ≤ 1 ∧ (1 : Int) ≤ 1000000 by omega)
  have e := lenS_set l i.toNat (l[i.toNat].1, l[i.toNat].2 - 1) hu
  dsimp only at e
  rw [Int.mul_sub] at e
  unfold cuK
  rw [eg, q1, p1, e]
  omega
/-- The rules of a stock. -/
theorem rl_facts {l : List Slp} {xs : List Int} (h : rlB l xs = true) : goodS l = true ∧ xs.length ≤ 6 ∧ (rlR l xs).length = xs.length ∧ ∀ k (h1 : k < (rlR l xs).length) (h2 : k < xs.length), dotS l (rlR l xs)[k] = xs[k] ∧ (rlR l xs)[k].length = l.length ∧ ∀ x ∈ (rlR l xs)[k], 0 ≤ x ∧ x ≤ 20 := by
  have h0 := h
  simp only [rlB, rlA, Bool.and_eq_true, decide_eq_true_eq] at h
  obtain ⟨⟨⟨h1, h2⟩, h3⟩, h4⟩ := h
  obtain ⟨r, hr⟩ := Option.isSome_iff_exists.1 h4
  have e : rlR l xs = r := by simp only [rlR, h0, if_true, ruX, hr, Option.getD_some]
  obtain ⟨g1, g2⟩ := rus_dot (rlN xs) l (goodS_ok h1) r hr
  have hl : (rlN xs).length = xs.length := by simp [rlN]
  rw [e]
  refine ⟨h1, h2, by rw [g1, hl], fun k k1 k2 => ?_⟩
  obtain ⟨a1, a2, a3⟩ := g2 k k1 (by rw [hl]; exact k2)
  refine ⟨?_, a2, a3⟩
  rw [a1]
  have hx := List.all_eq_true.1 h3 xs[k] (List.getElem_mem k2)
  simp only [in4, decide_eq_true_eq] at hx
  simp only [rlN, List.getElem_map]
  omega
theorem rl_small (l : List Slp) (xs : List Int) : (rlR l xs).length ≤ 1000 ∧ ∀ r ∈ rlR l xs, r.length ≤ 1000 := by
  cases h : rlB l xs
  · have : rlR l xs = [] := by simp only [rlR, h, Bool.false_eq_true, if_false]
    rw [this]
    simp
  · obtain ⟨g0, g1, g2, g3⟩ := rl_facts h
    refine ⟨by omega, fun r hr => ?_⟩
    obtain ⟨k, hk, rfl⟩ := List.getElem_of_mem hr
    have := (g3 k hk (by omega)).2.1
    have := goodS_len g0
    omega
theorem fr_small (l : List Slp) (w h c : Int) : (frR l w h c).length ≤ 1000 ∧ ∀ r ∈ frR l w h c, r.length ≤ 1000 := by
  unfold frR
  split
  · exact rl_small _ _
  · simp
theorem fr_four {l : List Slp} {w h c : Int} (hf : frB l w h c = true) : (frR l w h c).length = 4 := by
  have e : frR l w h c = rlR l (frL w h c) := by simp only [frR, hf, if_true]
  simp only [frB, Bool.and_eq_true] at hf
  rw [e, (rl_facts hf.2).2.2.1]
  rfl
theorem dotS_take : ∀ (l : List Slp) (cs : List Int) (n : Nat) (h1 : n < cs.length) (h2 : n < l.length), dotS l (cs.take (n + 1)) = dotS l (cs.take n) + cs[n] * l[n].1
  | x :: l, c :: cs, 0, _, _ => by
    cases l <;> simp [dotS]
  | x :: l, c :: cs, n + 1, h1, h2 => by
    have := dotS_take l cs n (by simpa using h1) (by simpa using h2)
    simp only [List.take_succ_cons, dotS, List.getElem_cons_succ, this]
    omega
theorem dotS_b : ∀ (l : List Slp) (cs : List Int), (∀ x ∈ l, 1 ≤ x.1 ∧ x.1 ≤ 200) → (∀ c ∈ cs, 0 ≤ c ∧ c ≤ 20) → 0 ≤ dotS l cs ∧ dotS l cs ≤ 4000 * (l.length : Int)
  | [], cs, _, _ => by cases cs <;> simp [dotS]
  | x :: l, [], _, _ => by simp [dotS]; omega
  | x :: l, c :: cs, h1, h2 => by
    have ih := dotS_b l cs (fun y hy => h1 y (by simp [hy])) (fun y hy => h2 y (by simp [hy]))
    have hx := h1 x (by simp)
    have hc := h2 c (by simp)
    have m1 : 0 ≤ c * x.1 := Int.mul_nonneg hc.1 (by omega)
    have m2 : c * x.1 ≤ 20 * 200 := Int.mul_le_mul hc.2 hx.2 (by omega) (by omega)
    simp only [dotS, List.length_cons]
    omega
end Go.Proofs.YtoocdnbkiejihaaDoor
/-
  Stocks: draws.
-/
namespace Go.Proofs.YtoocdnbkiejihaaDoor
open Go Go.V
set_option linter.unusedSimpArgs false

theorem tS' (l : List UInt8) : (D.v (Value.string { data := { toList := l } })) = T ⟨⟨l⟩⟩ := rfl
set_option maxHeartbeats 1000000 in
theorem d_stock (c : Cur) (B : Nat) (h : c.ok B) (hB : B ≤ 3000000) : ∃ (l : List Slp) (c' : Cur), F_spec_l1Cur_stock [curD c] = some (.ret [sls l] [curD c']) ∧ l.length ≤ 20 ∧ c'.ok (B + 60) := by
  obtain ⟨v, c1, e1, l1, u1, k1⟩ := d_pick c 5 B h (by omega) (by omega)
  obtain ⟨v, rfl⟩ := Int.eq_ofNat_of_zero_le l1
  rw [t_spec_l1Cur_stock]
  simp -implicitDefEqProofs only [sl_zero, sl_succ, liveD_agg, liveD_ref, liveD_arr, ref0_eq, Option.bind_some, Option.map_some, callK_ret, gate_t, gate_f, gate_s, gateC_t, gateC_f, gateC_s, nrmK_some, pickD_B, ifD_B, ifN_B, if_true, if_false, Bool.false_eq_true, un_not, Bool.not_true, Bool.not_false, decide_true, decide_false, and_self, outK_ext, Nat.beq_refl, bin_lss, bin_gtr, bin_leq, bin_geq, bin_eql, bin_neq, bin_add, bin_sub, bin_mul, lenD_arr, lenD_str, List.length_map, ldD_ptr, takeD_f, chkV_v, offD_ptr, List.drop_zero, List.drop_succ_cons, atD_agg, mkArr_nil, Int.reduceLT, Int.reduceLE, Int.reduceEq, e1]
  have m9 := mkInts (l := [3, 5, 6, 10, 12, 18, 30, 40, 200])
  have mA := mkInts (l := [200, 201, 1, 0])
  have mB := mkInts (l := [20, 21, -1, 1])
  have mC := mkInts (l := [20, 21, -1, 0])
  simp only [List.map_cons, List.map_nil] at m9 mA mB mC
  refine loop_wf_bind (fun X => ∃ (l : List Slp) (c' : Cur), X = some (.ret [sls l] [curD c']) ∧ l.length ≤ 20 ∧ c'.ok (B + 60)) (fun a : Cur × List Slp × Nat => [curD a.1, sls a.2.1, I (a.2.2 : Int)])
    (fun a => a.2.2 ≤ 5 ∧ a.1.ok (B + 2 + 4 * (5 - a.2.2)) ∧ a.2.1.length + a.2.2 ≤ 5) (fun a => a.2.2) (fun o => ∃ (l : List Slp) (c' : Cur), o = .ext 0 [curD c', sls l] ∧ l.length ≤ 5 ∧ c'.ok (B + 22)) ?_ (c1, [], v) ⟨by dsimp only; omega, k1.mono (by dsimp only; omega), by simp; omega⟩ rfl ?_
  · rintro ⟨ca, l, n⟩ ⟨h1, h2, h3⟩
    dsimp only at h1 h2 h3
    by_cases hn : 0 < n
    · have hn' : (0 : Int) < (n : Int) := by omega
      obtain ⟨v2, c2, e2, g2, k2⟩ := d_among ca [3, 5, 6, 10, 12, 18, 30, 40, 200] _ h2 (by omega) (by simp) (by simp)
      obtain ⟨v3, c3, e3, l3, u3, k3⟩ := d_pick c2 6 _ k2 (by omega) (by omega)
      have hw : IntKind.i64.wrap ((n : Int) - 1) = ((n - 1 : Nat) : Int) := by rw [wrap_id (by omega) (by omega)]; omega
      have hp := e_spec_ruPut l v2 v3 (by omega)
      have hz := putS_len l v2 v3
      refine .inl ⟨(c3, putS l v2 v3, n - 1), ?_, ⟨by dsimp only; omega, k3.mono (by dsimp only; omega), by dsimp only; omega⟩, by dsimp only; omega⟩
      simp -implicitDefEqProofs only [sl_zero, sl_succ, liveD_agg, liveD_ref, liveD_arr, ref0_eq, Option.bind_some, Option.map_some, callK_ret, gate_t, gate_f, gate_s, gateC_t, gateC_f, gateC_s, nrmK_some, pickD_B, ifD_B, ifN_B, if_true, if_false, Bool.false_eq_true, un_not, Bool.not_true, Bool.not_false, decide_true, decide_false, and_self, outK_ext, Nat.beq_refl, bin_lss, bin_gtr, bin_leq, bin_geq, bin_eql, bin_neq, bin_add, bin_sub, bin_mul, lenD_arr, lenD_str, List.length_map, ldD_ptr, takeD_f, chkV_v, offD_ptr, List.drop_zero, List.drop_succ_cons, atD_agg, mkArr_nil, Int.reduceLT, Int.reduceLE, Int.reduceEq, hn', m9, e2, e3, hp, hw]
    · have hn' : ¬ (0 : Int) < (n : Int) := by omega
      refine .inr ⟨_, ?_, rfl, l, ca, rfl, by omega, h2.mono (by omega)⟩
      simp -implicitDefEqProofs only [sl_zero, sl_succ, liveD_agg, liveD_ref, liveD_arr, ref0_eq, Option.bind_some, Option.map_some, callK_ret, gate_t, gate_f, gate_s, gateC_t, gateC_f, gateC_s, nrmK_some, pickD_B, ifD_B, ifN_B, if_true, if_false, Bool.false_eq_true, un_not, Bool.not_true, Bool.not_false, decide_true, decide_false, and_self, outK_ext, Nat.beq_refl, bin_lss, bin_gtr, bin_leq, bin_geq, bin_eql, bin_neq, bin_add, bin_sub, bin_mul, lenD_arr, lenD_str, List.length_map, ldD_ptr, takeD_f, chkV_v, offD_ptr, List.drop_zero, List.drop_succ_cons, atD_agg, mkArr_nil, Int.reduceLT, Int.reduceLE, Int.reduceEq, hn']
  · rintro o ⟨l, c2, rfl, g2, k2⟩
    obtain ⟨w, c3, e3, l3, u3, k3⟩ := d_pick c2 24 _ k2 (by omega) (by omega)
    by_cases h0 : w = 0
    · subst h0
      obtain ⟨x, c4, e4, l4, u4, k4⟩ := d_pick c3 2 _ k3 (by omega) (by omega)
      obtain ⟨x, rfl⟩ := Int.eq_ofNat_of_zero_le l4
      have hw : IntKind.i64.wrap (8 + (x : Int)) = ((8 + x : Nat) : Int) := by rw [wrap_id (by omega) (by omega)]; omega
      simp -implicitDefEqProofs only [sl_zero, sl_succ, liveD_agg, liveD_ref, liveD_arr, ref0_eq, Option.bind_some, Option.map_some, callK_ret, gate_t, gate_f, gate_s, gateC_t, gateC_f, gateC_s, nrmK_some, pickD_B, ifD_B, ifN_B, if_true, if_false, Bool.false_eq_true, un_not, Bool.not_true, Bool.not_false, decide_true, decide_false, and_self, outK_ext, Nat.beq_refl, bin_lss, bin_gtr, bin_leq, bin_geq, bin_eql, bin_neq, bin_add, bin_sub, bin_mul, lenD_arr, lenD_str, List.length_map, ldD_ptr, takeD_f, chkV_v, offD_ptr, List.drop_zero, List.drop_succ_cons, atD_agg, mkArr_nil, Int.reduceLT, Int.reduceLE, Int.reduceEq, e3, e4, hw]
      refine loop_wf_bind (fun X => ∃ (l : List Slp) (c' : Cur), X = some (.ret [sls l] [curD c']) ∧ l.length ≤ 20 ∧ c'.ok (B + 60)) (fun a : Cur × List Slp => [curD a.1, sls a.2, I ((8 + x : Nat) : Int)])
        (fun a => a.2.length ≤ 8 + x ∧ a.1.ok (B + 26 + 2 * a.2.length)) (fun a => 8 + x - a.2.length) (fun o => ∃ (l : List Slp) (c' : Cur), o = .ext 3 [curD c', sls l] ∧ l.length ≤ 20 ∧ c'.ok (B + 60)) ?_ (c4, []) ⟨by simp, k4.mono (by dsimp only; omega)⟩ rfl ?_
      · rintro ⟨ca, l⟩ ⟨h1, h2⟩
        dsimp only at h1 h2
        by_cases hn : l.length < 8 + x
        · have hn' : (l.length : Int) < ((8 + x : Nat) : Int) := by omega
          obtain ⟨y, c5, e5, l5, u5, k5⟩ := d_pick ca 4 _ h2 (by omega) (by omega)
          have ha := sls_app (l := l) (m := [(IntKind.i64.wrap (2 + IntKind.i64.wrap (3 * (l.length : Int))), y)]) (by simp; omega)
          refine .inl ⟨(c5, l ++ [(IntKind.i64.wrap (2 + IntKind.i64.wrap (3 * (l.length : Int))), y)]), ?_, ⟨by simp; omega, k5.mono (by simp; omega)⟩, by simp; omega⟩
          simp -implicitDefEqProofs only [sl_zero, sl_succ, liveD_agg, liveD_ref, liveD_arr, ref0_eq, Option.bind_some, Option.map_some, callK_ret, gate_t, gate_f, gate_s, gateC_t, gateC_f, gateC_s, nrmK_some, pickD_B, ifD_B, ifN_B, if_true, if_false, Bool.false_eq_true, un_not, Bool.not_true, Bool.not_false, decide_true, decide_false, and_self, outK_ext, Nat.beq_refl, bin_lss, bin_gtr, bin_leq, bin_geq, bin_eql, bin_neq, bin_add, bin_sub, bin_mul, lenD_arr, lenD_str, List.length_map, ldD_ptr, takeD_f, chkV_v, offD_ptr, List.drop_zero, List.drop_succ_cons, atD_agg, mkArr_nil, Int.reduceLT, Int.reduceLE, Int.reduceEq, hn', e5, bldS, sls_one, sls_chk, ha]
        · have hn' : ¬ (l.length : Int) < ((8 + x : Nat) : Int) := by omega
          refine .inr ⟨_, ?_, rfl, l, ca, rfl, by omega, h2.mono (by omega)⟩
          simp -implicitDefEqProofs only [sl_zero, sl_succ, liveD_agg, liveD_ref, liveD_arr, ref0_eq, Option.bind_some, Option.map_some, callK_ret, gate_t, gate_f, gate_s, gateC_t, gateC_f, gateC_s, nrmK_some, pickD_B, ifD_B, ifN_B, if_true, if_false, Bool.false_eq_true, un_not, Bool.not_true, Bool.not_false, decide_true, decide_false, and_self, outK_ext, Nat.beq_refl, bin_lss, bin_gtr, bin_leq, bin_geq, bin_eql, bin_neq, bin_add, bin_sub, bin_mul, lenD_arr, lenD_str, List.length_map, ldD_ptr, takeD_f, chkV_v, offD_ptr, List.drop_zero, List.drop_succ_cons, atD_agg, mkArr_nil, Int.reduceLT, Int.reduceLE, Int.reduceEq, hn']
      · rintro o ⟨l, c5, rfl, g5, k5⟩
        exact ⟨l, c5, by simp -implicitDefEqProofs only [sl_zero, sl_succ, liveD_agg, liveD_ref, liveD_arr, ref0_eq, Option.bind_some, Option.map_some, callK_ret, gate_t, gate_f, gate_s, gateC_t, gateC_f, gateC_s, nrmK_some, pickD_B, ifD_B, ifN_B, if_true, if_false, Bool.false_eq_true, un_not, Bool.not_true, Bool.not_false, decide_true, decide_false, and_self, outK_ext, Nat.beq_refl, bin_lss, bin_gtr, bin_leq, bin_geq, bin_eql, bin_neq, bin_add, bin_sub, bin_mul, lenD_arr, lenD_str, List.length_map, ldD_ptr, takeD_f, chkV_v, offD_ptr, List.drop_zero, List.drop_succ_cons, atD_agg, mkArr_nil, Int.reduceLT, Int.reduceLE, Int.reduceEq], g5, k5⟩
    by_cases h1 : w = 1
    · subst h1
      obtain ⟨v4, c4, e4, l4, k4⟩ := d_among c3 [200, 201, 1, 0] _ k3 (by omega) (by simp) (by simp)
      obtain ⟨v5, c5, e5, l5, k5⟩ := d_among c4 [20, 21, -1, 1] _ k4 (by omega) (by simp) (by simp)
      have ha := sls_app (l := l) (m := [(v4, v5)]) (by simp; omega)
      refine ⟨l ++ [(v4, v5)], c5, ?_, by simp; omega, k5.mono (by omega)⟩
      simp -implicitDefEqProofs only [sl_zero, sl_succ, liveD_agg, liveD_ref, liveD_arr, ref0_eq, Option.bind_some, Option.map_some, callK_ret, gate_t, gate_f, gate_s, gateC_t, gateC_f, gateC_s, nrmK_some, pickD_B, ifD_B, ifN_B, if_true, if_false, Bool.false_eq_true, un_not, Bool.not_true, Bool.not_false, decide_true, decide_false, and_self, outK_ext, Nat.beq_refl, bin_lss, bin_gtr, bin_leq, bin_geq, bin_eql, bin_neq, bin_add, bin_sub, bin_mul, lenD_arr, lenD_str, List.length_map, ldD_ptr, takeD_f, chkV_v, offD_ptr, List.drop_zero, List.drop_succ_cons, atD_agg, mkArr_nil, Int.reduceLT, Int.reduceLE, Int.reduceEq, e3, mA, e4, mB, e5, bldS, sls_one, sls_chk, ha]
    by_cases h2 : w = 2
    · subst h2
      by_cases hl : 0 < l.length
      · have hl' : (0 : Int) < (l.length : Int) := by omega
        obtain ⟨v4, c4, e4, l4, k4⟩ := d_among c3 [20, 21, -1, 0] _ k3 (by omega) (by simp) (by simp)
        have hr : refI 2 (sls l) (I 0) = some (.ref 0 0) := by
          have := refI_nat (z := 2) (k := .i64) (l := l.map slp) (i := 0)
          simpa [hl] using this
        have hs := sls_set l 0 v4 hl
        refine ⟨l.set 0 (l[0].1, v4), c4, ?_, by simp; omega, k4.mono (by omega)⟩
        simp -implicitDefEqProofs only [sl_zero, sl_succ, liveD_agg, liveD_ref, liveD_arr, ref0_eq, Option.bind_some, Option.map_some, callK_ret, gate_t, gate_f, gate_s, gateC_t, gateC_f, gateC_s, nrmK_some, pickD_B, ifD_B, ifN_B, if_true, if_false, Bool.false_eq_true, un_not, Bool.not_true, Bool.not_false, decide_true, decide_false, and_self, outK_ext, Nat.beq_refl, bin_lss, bin_gtr, bin_leq, bin_geq, bin_eql, bin_neq, bin_add, bin_sub, bin_mul, lenD_arr, lenD_str, List.length_map, ldD_ptr, takeD_f, chkV_v, offD_ptr, List.drop_zero, List.drop_succ_cons, atD_agg, mkArr_nil, Int.reduceLT, Int.reduceLE, Int.reduceEq, e3, hl', mC, e4, hr, refAdd_ref, Nat.zero_add, hs]
      · have hl' : ¬ (0 : Int) < (l.length : Int) := by omega
        refine ⟨l, c3, ?_, by omega, k3.mono (by omega)⟩
        simp -implicitDefEqProofs only [sl_zero, sl_succ, liveD_agg, liveD_ref, liveD_arr, ref0_eq, Option.bind_some, Option.map_some, callK_ret, gate_t, gate_f, gate_s, gateC_t, gateC_f, gateC_s, nrmK_some, pickD_B, ifD_B, ifN_B, if_true, if_false, Bool.false_eq_true, un_not, Bool.not_true, Bool.not_false, decide_true, decide_false, and_self, outK_ext, Nat.beq_refl, bin_lss, bin_gtr, bin_leq, bin_geq, bin_eql, bin_neq, bin_add, bin_sub, bin_mul, lenD_arr, lenD_str, List.length_map, ldD_ptr, takeD_f, chkV_v, offD_ptr, List.drop_zero, List.drop_succ_cons, atD_agg, mkArr_nil, Int.reduceLT, Int.reduceLE, Int.reduceEq, e3, hl']
    · refine ⟨l, c3, ?_, by omega, k3.mono (by omega)⟩
      simp -implicitDefEqProofs only [sl_zero, sl_succ, liveD_agg, liveD_ref, liveD_arr, ref0_eq, Option.bind_some, Option.map_some, callK_ret, gate_t, gate_f, gate_s, gateC_t, gateC_f, gateC_s, nrmK_some, pickD_B, ifD_B, ifN_B, if_true, if_false, Bool.false_eq_true, un_not, Bool.not_true, Bool.not_false, decide_true, decide_false, and_self, outK_ext, Nat.beq_refl, bin_lss, bin_gtr, bin_leq, bin_geq, bin_eql, bin_neq, bin_add, bin_sub, bin_mul, lenD_arr, lenD_str, List.length_map, ldD_ptr, takeD_f, chkV_v, offD_ptr, List.drop_zero, List.drop_succ_cons, atD_agg, mkArr_nil, Int.reduceLT, Int.reduceLE, Int.reduceEq, e3, h0, h1, h2]
theorem d_ruleLength (c : Cur) (B : Nat) (h : c.ok B) (hB : B ≤ 3000000) : ∃ (v : Int) (c' : Cur), F_spec_l1Cur_ruleLength [curD c] = some (.ret [I v] [curD c']) ∧ -9223372036854775808 ≤ v ∧ c'.ok (B + 10) := by
  obtain ⟨v1, c1, e1, l1, u1, k1⟩ := d_pick c 90 B h (by omega) (by omega)
  obtain ⟨v2, c2, e2, l2, u2, k2⟩ := d_pick c1 90 _ k1 (by omega) (by omega)
  obtain ⟨v3, c3, e3, l3, k3⟩ := d_among c2 [1, 400, 0, 401, -9223372036854775808] _ k2 (by omega) (by simp) (by simp)
  have w1 : IntKind.i64.wrap (1 + v1) = 1 + v1 := wrap_id (by omega) (by omega)
  have w2 : IntKind.i64.wrap (1 + v2) = 1 + v2 := wrap_id (by omega) (by omega)
  obtain ⟨v4, c4, e4, l4, k4⟩ := d_among c3 [12, 30, 54, 1 + v1, 1 + v2, v3] _ k3 (by omega) (by simp) (by simp)
  have m1 := mkInts (l := [1, 400, 0, 401, -9223372036854775808])
  have m2 := mkInts (l := [12, 30, 54, 1 + v1, 1 + v2, v3])
  simp only [List.map_cons, List.map_nil] at m1 m2
  have hv : -9223372036854775808 ≤ v4 := by
    simp only [List.mem_cons, List.not_mem_nil, or_false] at l3 l4
    omega
  rw [t_spec_l1Cur_ruleLength]
  exact ⟨v4, c4, by simp -implicitDefEqProofs only [sl_zero, sl_succ, liveD_agg, liveD_ref, liveD_arr, ref0_eq, Option.bind_some, Option.map_some, callK_ret, gate_t, gate_f, gate_s, gateC_t, gateC_f, gateC_s, nrmK_some, pickD_B, ifD_B, ifN_B, if_true, if_false, Bool.false_eq_true, un_not, Bool.not_true, Bool.not_false, decide_true, decide_false, and_self, outK_ext, Nat.beq_refl, bin_lss, bin_gtr, bin_leq, bin_geq, bin_eql, bin_neq, bin_add, bin_sub, bin_mul, lenD_arr, lenD_str, List.length_map, ldD_ptr, takeD_f, chkV_v, offD_ptr, List.drop_zero, List.drop_succ_cons, atD_agg, mkArr_nil, Int.reduceLT, Int.reduceLE, Int.reduceEq, e1, e2, w1, w2, m1, e3, m2, e4], hv, k4.mono (by omega)⟩
theorem d_DrawJoinStocks (l : List Int) (h : Bytes l) : ∃ a b : List Slp, F_spec_DrawJoinStocks [bytesD l] = some (.ret [sls a, sls b] []) ∧ a.length ≤ 20 ∧ b.length ≤ 20 := by
  obtain ⟨a, c1, e1, g1, k1⟩ := d_stock ⟨l, 0, 0⟩ 0 (cur0 h) (by omega)
  obtain ⟨b, c2, e2, g2, k2⟩ := d_stock c1 _ k1 (by omega)
  rw [← curZ_eq] at e1
  rw [t_spec_DrawJoinStocks]
  exact ⟨a, b, by simp -implicitDefEqProofs only [sl_zero, sl_succ, liveD_agg, liveD_ref, liveD_arr, ref0_eq, Option.bind_some, Option.map_some, callK_ret, gate_t, gate_f, gate_s, gateC_t, gateC_f, gateC_s, nrmK_some, pickD_B, ifD_B, ifN_B, if_true, if_false, Bool.false_eq_true, un_not, Bool.not_true, Bool.not_false, decide_true, decide_false, and_self, outK_ext, Nat.beq_refl, bin_lss, bin_gtr, bin_leq, bin_geq, bin_eql, bin_neq, bin_add, bin_sub, bin_mul, lenD_arr, lenD_str, List.length_map, ldD_ptr, takeD_f, chkV_v, offD_ptr, List.drop_zero, List.drop_succ_cons, atD_agg, mkArr_nil, Int.reduceLT, Int.reduceLE, Int.reduceEq, bldCur, box_cur, e1, e2], g1, g2⟩
theorem d_DrawCutSlip (l : List Int) (h : Bytes l) : ∃ (a : List Slp) (i len : Int), F_spec_DrawCutSlip [bytesD l] = some (.ret [sls a, I i, I len] []) ∧ a.length ≤ 20 := by
  obtain ⟨a, c1, e1, g1, k1⟩ := d_stock ⟨l, 0, 0⟩ 0 (cur0 h) (by omega)
  rw [← curZ_eq] at e1
  have w1 : IntKind.i64.wrap ((a.length : Int) + 1) = (a.length : Int) + 1 := wrap_id (by omega) (by omega)
  have w2 : IntKind.i64.wrap ((a.length : Int) - 1) = (a.length : Int) - 1 := wrap_id (by omega) (by omega)
  obtain ⟨v2, c2, e2, l2, u2, k2⟩ := d_pick c1 ((a.length : Int) + 1) _ k1 (by omega) (by omega)
  obtain ⟨v3, c3, e3, l3, k3⟩ := d_among c2 [(a.length : Int), -1] _ k2 (by omega) (by simp) (by simp)
  obtain ⟨v4, c4, e4, l4, k4⟩ := d_among c3 [0, v2, (a.length : Int) - 1, v3] _ k3 (by omega) (by simp) (by simp)
  obtain ⟨v5, c5, e5, l5, k5⟩ := d_among c4 [199, 200, 0, -9223372036854775808] _ k4 (by omega) (by simp) (by simp)
  obtain ⟨v6, c6, e6, l6, k6⟩ := d_among c5 [1, 3, 5, 6, 9, v5] _ k5 (by omega) (by simp) (by simp)
  have m1 := mkInts (l := [(a.length : Int), -1])
  have m2 := mkInts (l := [0, v2, (a.length : Int) - 1, v3])
  have m3 := mkInts (l := [199, 200, 0, -9223372036854775808])
  have m4 := mkInts (l := [1, 3, 5, 6, 9, v5])
  simp only [List.map_cons, List.map_nil] at m1 m2 m3 m4
  rw [t_spec_DrawCutSlip]
  exact ⟨a, v4, v6, by simp -implicitDefEqProofs only [sl_zero, sl_succ, liveD_agg, liveD_ref, liveD_arr, ref0_eq, Option.bind_some, Option.map_some, callK_ret, gate_t, gate_f, gate_s, gateC_t, gateC_f, gateC_s, nrmK_some, pickD_B, ifD_B, ifN_B, if_true, if_false, Bool.false_eq_true, un_not, Bool.not_true, Bool.not_false, decide_true, decide_false, and_self, outK_ext, Nat.beq_refl, bin_lss, bin_gtr, bin_leq, bin_geq, bin_eql, bin_neq, bin_add, bin_sub, bin_mul, lenD_arr, lenD_str, List.length_map, ldD_ptr, takeD_f, chkV_v, offD_ptr, List.drop_zero, List.drop_succ_cons, atD_agg, mkArr_nil, Int.reduceLT, Int.reduceLE, Int.reduceEq, bldCur, box_cur, e1, w1, w2, e2, m1, e3, m2, e4, m3, e5, m4, e6], g1⟩
theorem d_DrawRulesOf (l : List Int) (h : Bytes l) : ∃ (a : List Slp) (xs : List Int), F_spec_DrawRulesOf [bytesD l] = some (.ret [sls a, intsL xs] []) ∧ a.length ≤ 20 ∧ xs.length ≤ 1000 := by
  obtain ⟨a, c1, e1, g1, k1⟩ := d_stock ⟨l, 0, 0⟩ 0 (cur0 h) (by omega)
  rw [← curZ_eq] at e1
  obtain ⟨v, c2, e2, l2, u2, k2⟩ := d_pick c1 4 _ k1 (by omega) (by omega)
  obtain ⟨b, c3, e3, k3⟩ := d_one c2 12 _ k2 (by omega) (by omega)
  rw [t_spec_DrawRulesOf]
  have key : ∃ (n : Nat) (c4 : Cur), n ≤ 30 ∧ c4.ok 100 ∧ ((b = false ∧ v = n ∧ c4 = c3) ∨ (b = true ∧ ∃ v3, F_spec_l1Cur_pick [curD c3, I 2] = some (.ret [I v3] [curD c4]) ∧ IntKind.i64.wrap (6 + v3) = n)) := by
    cases b
    · exact ⟨v.toNat, c3, by omega, k3.mono (by omega), .inl ⟨rfl, by omega, rfl⟩⟩
    · obtain ⟨v3, c4, e4, l4, u4, k4⟩ := d_pick c3 2 _ k3 (by omega) (by omega)
      exact ⟨6 + v3.toNat, c4, by omega, k4.mono (by omega), .inr ⟨rfl, v3, e4, by rw [wrap_id (by omega) (by omega)]; omega⟩⟩
  obtain ⟨n, c4, n1, k4, hc⟩ := key
  rcases hc with ⟨rfl, rfl, rfl⟩ | ⟨rfl, v3, e4, hw0⟩
  case' inl => simp -implicitDefEqProofs only [sl_zero, sl_succ, liveD_agg, liveD_ref, liveD_arr, ref0_eq, Option.bind_some, Option.map_some, callK_ret, gate_t, gate_f, gate_s, gateC_t, gateC_f, gateC_s, nrmK_some, pickD_B, ifD_B, ifN_B, if_true, if_false, Bool.false_eq_true, un_not, Bool.not_true, Bool.not_false, decide_true, decide_false, and_self, outK_ext, Nat.beq_refl, bin_lss, bin_gtr, bin_leq, bin_geq, bin_eql, bin_neq, bin_add, bin_sub, bin_mul, lenD_arr, lenD_str, List.length_map, ldD_ptr, takeD_f, chkV_v, offD_ptr, List.drop_zero, List.drop_succ_cons, atD_agg, mkArr_nil, Int.reduceLT, Int.reduceLE, Int.reduceEq, bldCur, box_cur, e1, e2, e3]
  case' inr => simp -implicitDefEqProofs only [sl_zero, sl_succ, liveD_agg, liveD_ref, liveD_arr, ref0_eq, Option.bind_some, Option.map_some, callK_ret, gate_t, gate_f, gate_s, gateC_t, gateC_f, gateC_s, nrmK_some, pickD_B, ifD_B, ifN_B, if_true, if_false, Bool.false_eq_true, un_not, Bool.not_true, Bool.not_false, decide_true, decide_false, and_self, outK_ext, Nat.beq_refl, bin_lss, bin_gtr, bin_leq, bin_geq, bin_eql, bin_neq, bin_add, bin_sub, bin_mul, lenD_arr, lenD_str, List.length_map, ldD_ptr, takeD_f, chkV_v, offD_ptr, List.drop_zero, List.drop_succ_cons, atD_agg, mkArr_nil, Int.reduceLT, Int.reduceLE, Int.reduceEq, bldCur, box_cur, e1, e2, e3, e4, hw0]
  all_goals
    refine loop_wf_bind (fun r => ∃ (a : List Slp) (xs : List Int), r = some (.ret [sls a, intsL xs] []) ∧ a.length ≤ 20 ∧ xs.length ≤ 1000) (fun (s : List Int × Cur) => [.ref 0 0, sls a, intsL s.1, I (n : Int), curD s.2]) (fun s => s.1.length ≤ n ∧ s.2.ok (100 + 12 * s.1.length)) (fun s => n - s.1.length)
      (fun o => ∃ xs : List Int, o = .ext 0 [sls a, intsL xs] ∧ xs.length ≤ n) ?_ ([], c4) ⟨by simp, by simpa using k4⟩ rfl ?_
    · rintro ⟨xs, c⟩ ⟨q1, q2⟩
      dsimp only at q1 q2
      by_cases hlt : xs.length < n
      · have hlt' : (xs.length : Int) < (n : Int) := by omega
        obtain ⟨y, c5, e5, l5, k5⟩ := d_ruleLength c _ q2 (by omega)
        obtain ⟨z, c6, e6, l6, k6⟩ := d_among c5 [12, 10, 6, 3, 18, y] _ k5 (by omega) (by simp) (by simp)
        have m1 := mkInts (l := [12, 10, 6, 3, 18, y])
        simp only [List.map_cons, List.map_nil] at m1
        have ha := ints_app (l := xs) (n := z) (by omega)
        refine .inl ⟨(xs ++ [z], c6), ?_, ⟨by simp; omega, k6.mono (by simp; omega)⟩, by simp; omega⟩
        simp -implicitDefEqProofs only [sl_zero, sl_succ, liveD_agg, liveD_ref, liveD_arr, ref0_eq, Option.bind_some, Option.map_some, callK_ret, gate_t, gate_f, gate_s, gateC_t, gateC_f, gateC_s, nrmK_some, pickD_B, ifD_B, ifN_B, if_true, if_false, Bool.false_eq_true, un_not, Bool.not_true, Bool.not_false, decide_true, decide_false, and_self, outK_ext, Nat.beq_refl, bin_lss, bin_gtr, bin_leq, bin_geq, bin_eql, bin_neq, bin_add, bin_sub, bin_mul, lenD_arr, lenD_str, List.length_map, ldD_ptr, takeD_f, chkV_v, offD_ptr, List.drop_zero, List.drop_succ_cons, atD_agg, mkArr_nil, Int.reduceLT, Int.reduceLE, Int.reduceEq, hlt', e5, m1, e6, ints_one, ints_chk, ha]
      · have hlt' : ¬ (xs.length : Int) < (n : Int) := by omega
        refine .inr ⟨_, ?_, rfl, xs, rfl, q1⟩
        simp -implicitDefEqProofs only [sl_zero, sl_succ, liveD_agg, liveD_ref, liveD_arr, ref0_eq, Option.bind_some, Option.map_some, callK_ret, gate_t, gate_f, gate_s, gateC_t, gateC_f, gateC_s, nrmK_some, pickD_B, ifD_B, ifN_B, if_true, if_false, Bool.false_eq_true, un_not, Bool.not_true, Bool.not_false, decide_true, decide_false, and_self, outK_ext, Nat.beq_refl, bin_lss, bin_gtr, bin_leq, bin_geq, bin_eql, bin_neq, bin_add, bin_sub, bin_mul, lenD_arr, lenD_str, List.length_map, ldD_ptr, takeD_f, chkV_v, offD_ptr, List.drop_zero, List.drop_succ_cons, atD_agg, mkArr_nil, Int.reduceLT, Int.reduceLE, Int.reduceEq, hlt']
    · rintro o ⟨xs, rfl, hl⟩
      exact ⟨a, xs, by simp -implicitDefEqProofs only [sl_zero, sl_succ, liveD_agg, liveD_ref, liveD_arr, ref0_eq, Option.bind_some, Option.map_some, callK_ret, gate_t, gate_f, gate_s, gateC_t, gateC_f, gateC_s, nrmK_some, pickD_B, ifD_B, ifN_B, if_true, if_false, Bool.false_eq_true, un_not, Bool.not_true, Bool.not_false, decide_true, decide_false, and_self, outK_ext, Nat.beq_refl, bin_lss, bin_gtr, bin_leq, bin_geq, bin_eql, bin_neq, bin_add, bin_sub, bin_mul, lenD_arr, lenD_str, List.length_map, ldD_ptr, takeD_f, chkV_v, offD_ptr, List.drop_zero, List.drop_succ_cons, atD_agg, mkArr_nil, Int.reduceLT, Int.reduceLE, Int.reduceEq], g1, by omega⟩
set_option maxHeartbeats 1000000 in
theorem d_DrawFrameOf (l : List Int) (h : Bytes l) : ∃ (a : List Slp) (w hi c : Int), F_spec_DrawFrameOf [bytesD l] = some (.ret [sls a, I w, I hi, I c] []) ∧ a.length ≤ 20 ∧ -9223372036854775808 ≤ w ∧ -9223372036854775808 ≤ hi := by
  obtain ⟨a, c1, e1, g1, k1⟩ := d_stock ⟨l, 0, 0⟩ 0 (cur0 h) (by omega)
  rw [← curZ_eq] at e1
  obtain ⟨b, c2, e2, k2⟩ := d_one c1 2 _ k1 (by omega) (by omega)
  rw [t_spec_DrawFrameOf]
  have tail : ∀ (c : Cur), c.ok 200 → ∃ (y z v w x u : Int) (c3 c4 c5 c6 c7 c8 : Cur), F_spec_l1Cur_ruleLength [curD c] = some (.ret [I y] [curD c3]) ∧ F_spec_l1Cur_among [curD c3, intsD [30, 36, 24, y]] = some (.ret [I z] [curD c4]) ∧
      F_spec_l1Cur_ruleLength [curD c4] = some (.ret [I v] [curD c5]) ∧ F_spec_l1Cur_among [curD c5, intsD [30, 36, 22, v]] = some (.ret [I w] [curD c6]) ∧ F_spec_l1Cur_among [curD c6, intsD [50, -1, 51]] = some (.ret [I x] [curD c7]) ∧
      F_spec_l1Cur_among [curD c7, intsD [0, 3, 5, 12, x]] = some (.ret [I u] [curD c8]) ∧ -9223372036854775808 ≤ z ∧ -9223372036854775808 ≤ w := by
    intro c hc
    obtain ⟨y, c3, e3, l3, k3⟩ := d_ruleLength c _ hc (by omega)
    obtain ⟨z, c4, e4, l4, k4⟩ := d_among c3 [30, 36, 24, y] _ k3 (by omega) (by simp) (by simp)
    obtain ⟨v, c5, e5, l5, k5⟩ := d_ruleLength c4 _ k4 (by omega)
    obtain ⟨w, c6, e6, l6, k6⟩ := d_among c5 [30, 36, 22, v] _ k5 (by omega) (by simp) (by simp)
    obtain ⟨x, c7, e7, l7, k7⟩ := d_among c6 [50, -1, 51] _ k6 (by omega) (by simp) (by simp)
    obtain ⟨u, c8, e8, l8, k8⟩ := d_among c7 [0, 3, 5, 12, x] _ k7 (by omega) (by simp) (by simp)
    simp only [List.mem_cons, List.not_mem_nil, or_false] at l4 l6
    exact ⟨y, z, v, w, x, u, c3, c4, c5, c6, c7, c8, e3, e4, e5, e6, e7, e8, by omega, by omega⟩
  have n1 : ∀ y : Int, mkArr 1 [I 30, I 36, I 24, I y] = some (intsD [30, 36, 24, y]) := fun y => mkInts (l := [30, 36, 24, y])
  have n2 : ∀ y : Int, mkArr 1 [I 30, I 36, I 22, I y] = some (intsD [30, 36, 22, y]) := fun y => mkInts (l := [30, 36, 22, y])
  have n3 : mkArr 1 [I 50, I (-1), I 51] = some (intsD [50, -1, 51]) := mkInts (l := [50, -1, 51])
  have n4 : ∀ y : Int, mkArr 1 [I 0, I 3, I 5, I 12, I y] = some (intsD [0, 3, 5, 12, y]) := fun y => mkInts (l := [0, 3, 5, 12, y])
  cases b
  · obtain ⟨y, z, v, w, x, u, c3, c4, c5, c6, c7, c8, q1, q2, q3, q4, q5, q6, q7, q8⟩ := tail c2 (k2.mono (by omega))
    exact ⟨a, z, w, u, by simp -implicitDefEqProofs only [sl_zero, sl_succ, liveD_agg, liveD_ref, liveD_arr, ref0_eq, Option.bind_some, Option.map_some, callK_ret, gate_t, gate_f, gate_s, gateC_t, gateC_f, gateC_s, nrmK_some, pickD_B, ifD_B, ifN_B, if_true, if_false, Bool.false_eq_true, un_not, Bool.not_true, Bool.not_false, decide_true, decide_false, and_self, outK_ext, Nat.beq_refl, bin_lss, bin_gtr, bin_leq, bin_geq, bin_eql, bin_neq, bin_add, bin_sub, bin_mul, lenD_arr, lenD_str, List.length_map, ldD_ptr, takeD_f, chkV_v, offD_ptr, List.drop_zero, List.drop_succ_cons, atD_agg, mkArr_nil, Int.reduceLT, Int.reduceLE, Int.reduceEq, bldCur, box_cur, e1, e2, n1, n2, n3, n4, q1, q2, q3, q4, q5, q6], g1, q7, q8⟩
  · obtain ⟨x1, d1, f1, o1, p1, r1⟩ := d_pick c2 11 _ k2 (by omega) (by omega)
    obtain ⟨x2, d2, f2, o2, p2, r2⟩ := d_pick d1 9 _ r1 (by omega) (by omega)
    obtain ⟨x3, d3, f3, o3, p3, r3⟩ := d_pick d2 9 _ r2 (by omega) (by omega)
    obtain ⟨y, z, v, w, x, u, c3, c4, c5, c6, c7, c8, q1, q2, q3, q4, q5, q6, q7, q8⟩ := tail d3 (r3.mono (by omega))
    have m3 : ∀ a b c : Slp, mkArr 2 [slp a, slp b, slp c] = some (sls [a, b, c]) := fun a b c => by simp [mkArr, lenOkD]
    exact ⟨[(3, IntKind.i64.wrap (10 + x1)), (10, x2), (12, x3)], z, w, u, by simp -implicitDefEqProofs only [sl_zero, sl_succ, liveD_agg, liveD_ref, liveD_arr, ref0_eq, Option.bind_some, Option.map_some, callK_ret, gate_t, gate_f, gate_s, gateC_t, gateC_f, gateC_s, nrmK_some, pickD_B, ifD_B, ifN_B, if_true, if_false, Bool.false_eq_true, un_not, Bool.not_true, Bool.not_false, decide_true, decide_false, and_self, outK_ext, Nat.beq_refl, bin_lss, bin_gtr, bin_leq, bin_geq, bin_eql, bin_neq, bin_add, bin_sub, bin_mul, lenD_arr, lenD_str, List.length_map, ldD_ptr, takeD_f, chkV_v, offD_ptr, List.drop_zero, List.drop_succ_cons, atD_agg, mkArr_nil, Int.reduceLT, Int.reduceLE, Int.reduceEq, bldCur, box_cur, e1, e2, f1, f2, f3, bldS, m3, n1, n2, n3, n4, q1, q2, q3, q4, q5, q6], by simp, q7, q8⟩
end Go.Proofs.YtoocdnbkiejihaaDoor
/-
  Stocks: texts, read back in two ways.
-/
namespace Go.Proofs.YtoocdnbkiejihaaDoor
open Go Go.V
set_option linter.unusedSimpArgs false

def slT (x : Slp) : ByteArray := intT x.2 ++ ⟨⟨[120]⟩⟩ ++ intT x.1 ++ ⟨⟨[32]⟩⟩
def stT : List Slp → ByteArray
  | [] => ⟨⟨[]⟩⟩
  | x :: l => slT x ++ stT l
theorem sz1' (a : UInt8) : (⟨⟨[a]⟩⟩ : ByteArray).size = 1 := rfl
theorem slT_size {x : Slp} (h : (1 ≤ x.1 ∧ x.1 ≤ 200) ∧ 0 ≤ x.2 ∧ x.2 ≤ 20) : (intT x.1).size ≤ 3 ∧ (intT x.2).size ≤ 3 ∧ (slT x).size ≤ 8 := by
  have s1 := intT_size 2 (n := x.1) (by omega) (by omega)
  have s2 := intT_size 2 (n := x.2) (by omega) (by omega)
  simp only [slT, ByteArray.size_append, sz1']
  omega
theorem stT_app : ∀ (a b : List Slp), stT (a ++ b) = stT a ++ stT b
  | [], b => chars_inj (by simp [stT, chars])
  | x :: a, b => by simp only [List.cons_append, stT, stT_app a b, ByteArray.append_assoc]
theorem stT_one (x : Slp) : stT [x] = slT x := chars_inj (by simp [stT, chars])
theorem stT_take {l : List Slp} {i : Nat} (hi : i < l.length) : stT (l.take (i + 1)) = stT (l.take i) ++ slT l[i] := by
  rw [List.take_succ_eq_append_getElem hi, stT_app, stT_one]
theorem stT_size : ∀ (l : List Slp), (∀ x ∈ l, (1 ≤ x.1 ∧ x.1 ≤ 200) ∧ 0 ≤ x.2 ∧ x.2 ≤ 20) → (stT l).size ≤ 8 * l.length
  | [], _ => Nat.le_refl 0
  | x :: l, h => by
    have h1 := (slT_size (h x (by simp))).2.2
    have h2 := stT_size l fun y hy => h y (by simp [hy])
    simp only [stT, ByteArray.size_append, List.length_cons]
    omega
theorem ldS' (a b : Int) : (takeD true 2 [I a, I b]).bind chkV = some (slp (a, b)) := rfl
theorem e_spec_ruText (l : List Slp) (hl : l.length ≤ 1000) (hok : ∀ x ∈ l, (1 ≤ x.1 ∧ x.1 ≤ 200) ∧ 0 ≤ x.2 ∧ x.2 ≤ 20) : F_spec_ruText [sls l] = some (.ret [T (stT l)] []) := by
  rw [t_spec_ruText]
  simp -implicitDefEqProofs only [sl_zero, sl_succ, liveD_agg, liveD_ref, liveD_arr, ref0_eq, Option.bind_some, Option.map_some, callK_ret, gate_t, gate_f, gate_s, gateC_t, gateC_f, gateC_s, nrmK_some, pickD_B, ifD_B, ifN_B, if_true, if_false, Bool.false_eq_true, un_not, Bool.not_true, Bool.not_false, decide_true, decide_false, and_self, outK_ext, Nat.beq_refl, bin_lss, bin_gtr, bin_leq, bin_geq, bin_eql, bin_neq, bin_add, bin_sub, bin_mul, lenD_arr, lenD_str, List.length_map, ldD_ptr, takeD_f, chkV_v, offD_ptr, List.drop_zero, List.drop_succ_cons, atD_agg, mkArr_nil, Int.reduceLT, Int.reduceLE, Int.reduceEq]
  refine loop_bind (.ext 0 [T (stT l)]) (loop_for l.length (fun i => [T (stT (l.take i)), sls l, I l.length, I i]) _ (fun i hi => ?_) ?_ rfl rfl) ?_
  · have hi' : (i : Int) < (l.length : Int) := by omega
    have hw : IntKind.i64.wrap ((i : Int) + 1) = ((i + 1 : Nat) : Int) := by rw [wrap_id (by omega) (by omega)]; omega
    have ho := hok l[i] (List.getElem_mem hi)
    obtain ⟨z1, z2, z3⟩ := slT_size ho
    have z4 := stT_size (l.take i) fun x hx => hok x (List.mem_of_mem_take hx)
    have z5 : (l.take i).length ≤ 1000 := by rw [List.length_take]; omega
    have n1 := e_spec_l1Num (n := l[i].2) (by omega) (by omega)
    have n2 := e_spec_l1Num (n := l[i].1) (by omega) (by omega)
    have a1 := add_small (a := intT l[i].2) (b := ⟨⟨[120]⟩⟩) (by rw [sz1']; omega)
    have a2 := add_small (a := intT l[i].2 ++ ⟨⟨[120]⟩⟩) (b := intT l[i].1) (by rw [ByteArray.size_append, sz1']; omega)
    have a3 := add_small (a := intT l[i].2 ++ ⟨⟨[120]⟩⟩ ++ intT l[i].1) (b := ⟨⟨[32]⟩⟩) (by rw [ByteArray.size_append, ByteArray.size_append, sz1', sz1']; omega)
    have a4 := add_small (a := stT (l.take i)) (b := slT l[i]) (by omega)
    rw [← stT_take hi] at a4
    have e : intT l[i].2 ++ ⟨⟨[120]⟩⟩ ++ intT l[i].1 ++ ⟨⟨[32]⟩⟩ = slT l[i] := rfl
    rw [e] at a3
    simp -implicitDefEqProofs only [sl_zero, sl_succ, liveD_agg, liveD_ref, liveD_arr, ref0_eq, Option.bind_some, Option.map_some, callK_ret, gate_t, gate_f, gate_s, gateC_t, gateC_f, gateC_s, nrmK_some, pickD_B, ifD_B, ifN_B, if_true, if_false, Bool.false_eq_true, un_not, Bool.not_true, Bool.not_false, decide_true, decide_false, and_self, outK_ext, Nat.beq_refl, bin_lss, bin_gtr, bin_leq, bin_geq, bin_eql, bin_neq, bin_add, bin_sub, bin_mul, lenD_arr, lenD_str, List.length_map, ldD_ptr, takeD_f, chkV_v, offD_ptr, List.drop_zero, List.drop_succ_cons, atD_agg, mkArr_nil, Int.reduceLT, Int.reduceLE, Int.reduceEq, hi', elS hi, ldS', stSz, n1, n2, a1, a2, a3, a4, hw]
  · simp -implicitDefEqProofs only [sl_zero, sl_succ, liveD_agg, liveD_ref, liveD_arr, ref0_eq, Option.bind_some, Option.map_some, callK_ret, gate_t, gate_f, gate_s, gateC_t, gateC_f, gateC_s, nrmK_some, pickD_B, ifD_B, ifN_B, if_true, if_false, Bool.false_eq_true, un_not, Bool.not_true, Bool.not_false, decide_true, decide_false, and_self, outK_ext, Nat.beq_refl, bin_lss, bin_gtr, bin_leq, bin_geq, bin_eql, bin_neq, bin_add, bin_sub, bin_mul, lenD_arr, lenD_str, List.length_map, ldD_ptr, takeD_f, chkV_v, offD_ptr, List.drop_zero, List.drop_succ_cons, atD_agg, mkArr_nil, Int.reduceLT, Int.reduceLE, Int.reduceEq, Int.lt_irrefl, List.take_length]
  · simp -implicitDefEqProofs only [sl_zero, sl_succ, liveD_agg, liveD_ref, liveD_arr, ref0_eq, Option.bind_some, Option.map_some, callK_ret, gate_t, gate_f, gate_s, gateC_t, gateC_f, gateC_s, nrmK_some, pickD_B, ifD_B, ifN_B, if_true, if_false, Bool.false_eq_true, un_not, Bool.not_true, Bool.not_false, decide_true, decide_false, and_self, outK_ext, Nat.beq_refl, bin_lss, bin_gtr, bin_leq, bin_geq, bin_eql, bin_neq, bin_add, bin_sub, bin_mul, lenD_arr, lenD_str, List.length_map, ldD_ptr, takeD_f, chkV_v, offD_ptr, List.drop_zero, List.drop_succ_cons, atD_agg, mkArr_nil, Int.reduceLT, Int.reduceLE, Int.reduceEq]
theorem e_spec_StockText (l : List Slp) (h : l.length ≤ 1048576) : F_spec_StockText [sls l] = some (.ret [T (if goodS l = true then stT l else ⟨⟨[]⟩⟩), B (goodS l)] []) := by
  rw [t_spec_StockText]
  cases hg : goodS l
  · simp -implicitDefEqProofs only [sl_zero, sl_succ, liveD_agg, liveD_ref, liveD_arr, ref0_eq, Option.bind_some, Option.map_some, callK_ret, gate_t, gate_f, gate_s, gateC_t, gateC_f, gateC_s, nrmK_some, pickD_B, ifD_B, ifN_B, if_true, if_false, Bool.false_eq_true, un_not, Bool.not_true, Bool.not_false, decide_true, decide_false, and_self, outK_ext, Nat.beq_refl, bin_lss, bin_gtr, bin_leq, bin_geq, bin_eql, bin_neq, bin_add, bin_sub, bin_mul, lenD_arr, lenD_str, List.length_map, ldD_ptr, takeD_f, chkV_v, offD_ptr, List.drop_zero, List.drop_succ_cons, atD_agg, mkArr_nil, Int.reduceLT, Int.reduceLE, Int.reduceEq, e_spec_ruGood l h, hg]
  · have := e_spec_ruText l (by have := goodS_len hg; omega) (goodS_ok hg)
    simp -implicitDefEqProofs only [sl_zero, sl_succ, liveD_agg, liveD_ref, liveD_arr, ref0_eq, Option.bind_some, Option.map_some, callK_ret, gate_t, gate_f, gate_s, gateC_t, gateC_f, gateC_s, nrmK_some, pickD_B, ifD_B, ifN_B, if_true, if_false, Bool.false_eq_true, un_not, Bool.not_true, Bool.not_false, decide_true, decide_false, and_self, outK_ext, Nat.beq_refl, bin_lss, bin_gtr, bin_leq, bin_geq, bin_eql, bin_neq, bin_add, bin_sub, bin_mul, lenD_arr, lenD_str, List.length_map, ldD_ptr, takeD_f, chkV_v, offD_ptr, List.drop_zero, List.drop_succ_cons, atD_agg, mkArr_nil, Int.reduceLT, Int.reduceLE, Int.reduceEq, e_spec_ruGood l h, hg, this]

/-! ### read back -/
theorem ok_int {n : Int} (h0 : 0 ≤ n) : chars (intT n) ≠ [] ∧ (∀ b ∈ chars (intT n), dig b = true) ∧ (120 : UInt8) ∉ chars (intT n) ∧ (32 : UInt8) ∉ chars (intT n) := by
  obtain ⟨h1, h2⟩ := dig_int h0
  exact ⟨h1, h2, not_dig h2 (by decide), not_dig h2 (by decide)⟩
def prt (x : Slp) : List UInt8 := chars (intT x.2) ++ 120 :: chars (intT x.1)
theorem chars_one (b : UInt8) : chars ⟨⟨[b]⟩⟩ = [b] := rfl
theorem chars_slT (x : Slp) : chars (slT x) = prt x ++ [32] := by
  simp only [slT, prt, chars_append, chars_one]
  simp
theorem chars_stT (x : Slp) (l : List Slp) : chars (stT (x :: l)) = prt x ++ 32 :: chars (stT l) := by
  simp only [stT, chars_append, chars_slT]
  simp
def posS (l : List Slp) : Prop := ∀ x ∈ l, 0 ≤ x.1 ∧ 0 ≤ x.2
def flatS (l : List Slp) : List Int := l.flatMap fun x => [x.2, x.1]
def prS : List Int → List Slp
  | a :: b :: r => (b, a) :: prS r
  | _ => []
theorem prS_flat : ∀ l : List Slp, prS (flatS l) = l
  | [] => rfl
  | x :: l => by
    have := prS_flat l
    simp only [flatS, List.flatMap_cons, List.cons_append, List.nil_append, prS] at this ⊢
    rw [this]
theorem flds_stT : ∀ l : List Slp, posS l → flds none (chars (stT l)) = (flatS l).map fun n => chars (intT n)
  | [], _ => rfl
  | x :: l, h => by
    have hx := h x (by simp)
    obtain ⟨a1, a2, -, -⟩ := ok_int hx.1
    obtain ⟨b1, b2, -, -⟩ := ok_int hx.2
    rw [chars_stT, prt, List.append_assoc, List.cons_append, flds_word b1 b2 (by decide), flds_word a1 a2 (by decide), flds_stT l fun y hy => h y (by simp [hy])]
    rfl
theorem ascii_stT : ∀ l : List Slp, posS l → ∀ b ∈ chars (stT l), b.toNat < 128
  | [], _, b, hb => by cases hb
  | x :: l, h, b, hb => by
    have hx := h x (by simp)
    rw [chars_stT, prt, List.append_assoc, List.cons_append, List.mem_append, List.mem_cons, List.mem_append, List.mem_cons] at hb
    rcases hb with hb | rfl | hb | rfl | hb
    · exact dig_lt ((ok_int hx.2).2.1 b hb)
    · decide
    · exact dig_lt ((ok_int hx.1).2.1 b hb)
    · decide
    · exact ascii_stT l (fun y hy => h y (by simp [hy])) b hb
theorem goodS_pos {l : List Slp} (h : goodS l = true) : posS l := fun x hx => by have := goodS_ok h x hx; omega
theorem flatS_few {l : List Slp} (h : goodS l = true) : fewI (flatS l) := by
  intro n hn
  obtain ⟨x, hx, hn⟩ := List.mem_flatMap.1 hn
  have := goodS_ok h x hx
  simp only [List.mem_cons, List.not_mem_nil, or_false] at hn
  omega
theorem nums_stT {l : List Slp} (h : goodS l = true) : numsT (stT l) = flatS l := numsT_of' (ascii_stT l (goodS_pos h)) (flatS_few h) (flds_stT l (goodS_pos h))
theorem split_stT : ∀ l : List Slp, posS l → splitL 32 (chars (stT l)) = l.map prt ++ [[]]
  | [], _ => rfl
  | x :: l, h => by
    have hx := h x (by simp)
    have hn : (32 : UInt8) ∉ prt x := by
      intro hm
      rw [prt, List.mem_append, List.mem_cons] at hm
      rcases hm with hm | hm | hm
      · exact (ok_int hx.2).2.2.2 hm
      · exact absurd hm (by decide)
      · exact (ok_int hx.1).2.2.2 hm
    rw [chars_stT, splitL_hit hn, split_stT l fun y hy => h y (by simp [hy])]
    rfl
theorem split_prt {x : Slp} (h : 0 ≤ x.1 ∧ 0 ≤ x.2) : splitL 120 (prt x) = [chars (intT x.2), chars (intT x.1)] := by
  rw [prt, splitL_hit (ok_int h.2).2.2.1, splitL_miss (ok_int h.1).2.2.1]
theorem joinL_cons {c : UInt8} {a : List UInt8} {l : List (List UInt8)} (h : l ≠ []) : joinL c (a :: l) = a ++ c :: joinL c l := by
  cases l with
  | nil => exact absurd rfl h
  | cons b l => rfl
theorem join_prt : ∀ l : List Slp, joinL 32 (l.map prt ++ [[]]) = chars (stT l)
  | [] => rfl
  | x :: l => by
    rw [List.map_cons, List.cons_append, joinL_cons (by simp), join_prt l, chars_stT]
/-- One slip read. -/
def rdP (p : ByteArray) : Option Slp := match splitT 120 p with
  | [a, b] => some (readT b, readT a)
  | _ => none
def rdAll : List ByteArray → Option (List Slp)
  | [] => some []
  | p :: l => (rdP p).bind fun x => (rdAll l).map (x :: ·)
abbrev mkB (l : List UInt8) : ByteArray := ⟨l.toArray⟩
theorem rdP_prt {x : Slp} (h : (1 ≤ x.1 ∧ x.1 ≤ 200) ∧ 0 ≤ x.2 ∧ x.2 ≤ 20) : rdP (mkB (prt x)) = some x := by
  unfold rdP splitT
  rw [chars_mk, split_prt (by omega)]
  simp only [List.map_cons, List.map_nil]
  have e : ∀ s : ByteArray, (⟨(chars s).toArray⟩ : ByteArray) = s := mk_chars
  rw [e, e, readT_int (by omega) (by omega), readT_int (by omega) (by omega)]
theorem rdAll_prt : ∀ l : List Slp, (∀ x ∈ l, (1 ≤ x.1 ∧ x.1 ≤ 200) ∧ 0 ≤ x.2 ∧ x.2 ≤ 20) → rdAll ((l.map prt).map mkB) = some l
  | [], _ => rfl
  | x :: l, h => by
    simp only [List.map_cons, rdAll]
    rw [rdP_prt (h x (by simp)), rdAll_prt l fun y hy => h y (by simp [hy])]
    rfl
theorem rdP_some {p : List UInt8} {x : Slp} (h : rdP (mkB p) = some x) (h1 : 0 ≤ x.1) (h2 : 0 ≤ x.2) : p = prt x := by
  unfold rdP splitT at h
  rw [chars_mk] at h
  have hj := joinL_splitL 120 p
  generalize splitL 120 p = q at h hj
  match q, h with
  | [a, b], h =>
    simp only [List.map_cons, List.map_nil, Option.some.injEq] at h
    subst h
    have ea := congrArg chars (readT_canon (w := ⟨a.toArray⟩) rfl h2)
    have eb := congrArg chars (readT_canon (w := ⟨b.toArray⟩) rfl h1)
    rw [chars_mk] at ea eb
    rw [prt, ← ea, ← eb, ← hj]
    rfl
  | [], h => cases h
  | [_], h => cases h
  | _ :: _ :: _ :: _, h => cases h
theorem rdAll_some : ∀ (o : List (List UInt8)) (l : List Slp), rdAll (o.map mkB) = some l → posS l → o = l.map prt
  | [], l, h, _ => by cases h; rfl
  | p :: o, l, h, hp => by
    simp only [List.map_cons, rdAll, Option.bind_eq_some_iff, Option.map_eq_some_iff] at h
    obtain ⟨x, h1, m, h2, rfl⟩ := h
    have hx := hp x (by simp)
    rw [rdP_some h1 hx.1 hx.2, rdAll_some o m h2 fun y hy => hp y (by simp [hy])]
    rfl
/-- A stock out of a text: the program's way and the other one. -/
def pSt (s : ByteArray) : Option (List Slp) := if goodS (prS (numsT s)) = true ∧ stT (prS (numsT s)) = s then some (prS (numsT s)) else none
def sSt (s : ByteArray) : Option (List Slp) :=
  if (splitT 32 s).length ≤ 9 ∧ (splitT 32 s).getLast? = some ⟨⟨[]⟩⟩ then (rdAll (splitT 32 s).dropLast).bind fun l => if goodS l = true then some l else none else none
theorem pSt_T {l : List Slp} (h : goodS l = true) : pSt (stT l) = some l := by
  unfold pSt
  rw [nums_stT h, prS_flat, if_pos ⟨h, rfl⟩]
theorem sSt_T {l : List Slp} (h : goodS l = true) : sSt (stT l) = some l := by
  have e : splitT 32 (stT l) = (l.map prt).map mkB ++ [⟨⟨[]⟩⟩] := by
    unfold splitT
    rw [split_stT l (goodS_pos h), List.map_append]
    rfl
  have hl := goodS_len h
  unfold sSt
  rw [e, if_pos ⟨by simp; omega, by simp⟩, List.dropLast_concat, rdAll_prt l (goodS_ok h)]
  simp only [Option.bind_some, h, if_true]
theorem pSt_some {s : ByteArray} {l : List Slp} (h : pSt s = some l) : goodS l = true ∧ stT l = s := by
  unfold pSt at h
  split at h
  · rename_i hc
    cases h
    exact hc
  · cases h
theorem sSt_some {s : ByteArray} {l : List Slp} (h : sSt s = some l) : goodS l = true ∧ stT l = s := by
  unfold sSt at h
  split at h
  case isFalse => cases h
  rename_i hc
  obtain ⟨m, h1, h2⟩ := Option.bind_eq_some_iff.1 h
  split at h2
  case isFalse => cases h2
  rename_i hg
  cases h2
  refine ⟨hg, chars_inj ?_⟩
  have hj := joinL_splitL 32 (chars s)
  have hne := splitL_ne 32 (chars s)
  have hd := List.dropLast_concat_getLast hne
  have hL : (splitL 32 (chars s)).getLast hne = [] := by
    have := hc.2
    unfold splitT at this
    rw [List.getLast?_map, List.getLast?_eq_some_getLast hne, Option.map_some, Option.some.injEq] at this
    have := congrArg chars this
    rw [chars_mk] at this
    exact this
  have h1' : rdAll ((splitL 32 (chars s)).dropLast.map mkB) = some l := by
    rw [← h1]
    unfold splitT
    rw [← List.map_dropLast]
  have ho := rdAll_some _ l h1' (goodS_pos hg)
  rw [hL, ho] at hd
  rw [← hd, join_prt] at hj
  exact hj
theorem sSt_eq (s : ByteArray) : sSt s = pSt s := by
  cases h : pSt s with
  | some l =>
    obtain ⟨h1, rfl⟩ := pSt_some h
    exact sSt_T h1
  | none =>
    cases h' : sSt s with
    | none => rfl
    | some l =>
      obtain ⟨h1, rfl⟩ := sSt_some h'
      rw [pSt_T h1] at h
      cases h
def stO (o : Option (List Slp)) : List Slp := o.getD []
theorem e_spec_ParseStock (s : ByteArray) (h : s.size ≤ 1048576) : F_spec_ParseStock [T s] = some (.ret [sls (stO (pSt s)), B (pSt s).isSome] []) := by
  rw [t_spec_ParseStock, ← sSt_eq]
  have hsp := e_spec_l1Split s 32 (by omega)
  have h32 : U ((32 : UInt8).toNat : Int) = U 32 := rfl
  rw [h32] at hsp
  have hsz := splitT_size 32 s
  have hlen : (splitT 32 s).length ≤ 1048577 := by
    rw [splitT_length]
    have := splitL_length 32 (chars s)
    have := size_list s
    omega
  have hpos : 0 < (splitT 32 s).length := by
    rw [splitT_length]
    exact List.length_pos_iff.2 (splitL_ne _ _)
  have hdef : sSt s = if (splitT 32 s).length ≤ 9 ∧ (splitT 32 s).getLast? = some ⟨⟨[]⟩⟩ then (rdAll (splitT 32 s).dropLast).bind fun l => if goodS l = true then some l else none else none := rfl
  generalize splitT 32 s = ps at hsp hsz hlen hpos hdef
  by_cases h9 : ps.length ≤ 9
  case neg =>
    have h9' : (9 : Int) < (ps.length : Int) := by omega
    rw [hdef, if_neg (fun g => h9 g.1)]
    simp -implicitDefEqProofs only [sl_zero, sl_succ, liveD_agg, liveD_ref, liveD_arr, ref0_eq, Option.bind_some, Option.map_some, callK_ret, gate_t, gate_f, gate_s, gateC_t, gateC_f, gateC_s, nrmK_some, pickD_B, ifD_B, ifN_B, if_true, if_false, Bool.false_eq_true, un_not, Bool.not_true, Bool.not_false, decide_true, decide_false, and_self, outK_ext, Nat.beq_refl, bin_lss, bin_gtr, bin_leq, bin_geq, bin_eql, bin_neq, bin_add, bin_sub, bin_mul, lenD_arr, lenD_str, List.length_map, ldD_ptr, takeD_f, chkV_v, offD_ptr, List.drop_zero, List.drop_succ_cons, atD_agg, mkArr_nil, Int.reduceLT, Int.reduceLE, Int.reduceEq, hsp, h9']
    rfl
  have h9' : ¬ (9 : Int) < (ps.length : Int) := by omega
  have wl : IntKind.i64.wrap ((ps.length : Int) - 1) = ((ps.length - 1 : Nat) : Int) := by rw [wrap_id (by omega) (by omega)]; omega
  have hel : elemD 1 (txs ps) (I ((ps.length - 1 : Nat) : Int)) = some [T (ps[ps.length - 1]'(by omega))] := by
    have : ps.length - 1 < ps.length := by omega
    simp [this]
  have hlast : ps.getLast? = some (ps[ps.length - 1]'(by omega)) := by
    rw [List.getLast?_eq_getElem?, List.getElem?_eq_getElem (by omega)]
  by_cases hl : ps[ps.length - 1]'(by omega) = ⟨⟨[]⟩⟩
  case neg =>
    rw [hdef, if_neg (fun g => hl (by have := hlast.symm.trans g.2; exact Option.some.inj this))]
    simp -implicitDefEqProofs only [sl_zero, sl_succ, liveD_agg, liveD_ref, liveD_arr, ref0_eq, Option.bind_some, Option.map_some, callK_ret, gate_t, gate_f, gate_s, gateC_t, gateC_f, gateC_s, nrmK_some, pickD_B, ifD_B, ifN_B, if_true, if_false, Bool.false_eq_true, un_not, Bool.not_true, Bool.not_false, decide_true, decide_false, and_self, outK_ext, Nat.beq_refl, bin_lss, bin_gtr, bin_leq, bin_geq, bin_eql, bin_neq, bin_add, bin_sub, bin_mul, lenD_arr, lenD_str, List.length_map, ldD_ptr, takeD_f, chkV_v, offD_ptr, List.drop_zero, List.drop_succ_cons, atD_agg, mkArr_nil, Int.reduceLT, Int.reduceLE, Int.reduceEq, hsp, h9', wl, hel, bin_neqS, hl]
    rfl
  have hs : sliceD false 1 (txs ps) (I 0) (I ((ps.length - 1 : Nat) : Int)) = some (txs ps.dropLast) := by
    have := sliceD_nat (z := 1) (k := .i64) (k' := .i64) (l := ps.map T) (i := 0) (j := ps.length - 1) (by omega) (by simp)
    rw [List.drop_zero, ← List.map_take, ← List.dropLast_eq_take] at this
    exact this
  rw [if_pos ⟨h9, by rw [hlast, hl]⟩] at hdef
  simp -implicitDefEqProofs only [sl_zero, sl_succ, liveD_agg, liveD_ref, liveD_arr, ref0_eq, Option.bind_some, Option.map_some, callK_ret, gate_t, gate_f, gate_s, gateC_t, gateC_f, gateC_s, nrmK_some, pickD_B, ifD_B, ifN_B, if_true, if_false, Bool.false_eq_true, un_not, Bool.not_true, Bool.not_false, decide_true, decide_false, and_self, outK_ext, Nat.beq_refl, bin_lss, bin_gtr, bin_leq, bin_geq, bin_eql, bin_neq, bin_add, bin_sub, bin_mul, lenD_arr, lenD_str, List.length_map, ldD_ptr, takeD_f, chkV_v, offD_ptr, List.drop_zero, List.drop_succ_cons, atD_agg, mkArr_nil, Int.reduceLT, Int.reduceLE, Int.reduceEq, hsp, h9', wl, hel, bin_neqS, hl, hs]
  have hq : ∀ w ∈ ps.dropLast, w.size ≤ 1048576 := fun w hw => Nat.le_trans (hsz w ((List.dropLast_sublist ps).subset hw)) h
  have hq8 : ps.dropLast.length ≤ 8 := by rw [List.length_dropLast]; omega
  generalize ps.dropLast = q at hdef hq hq8
  refine loop_wf_bind (fun r => r = _) (fun (a : List Slp × Nat) => [sls a.1, txs q, I q.length, I (a.2 : Int)]) (fun a => a.2 ≤ q.length ∧ a.1.length ≤ a.2 ∧ rdAll q = (rdAll (q.drop a.2)).map (a.1 ++ ·)) (fun a => q.length - a.2)
    (fun o => o = match rdAll q with
      | none => .ret [.arr 2 [], B false] []
      | some r => .ext 0 [sls r]) ?_ ([], 0) ⟨Nat.zero_le _, Nat.le_refl _, by simp⟩ rfl ?_
  · rintro ⟨acc, i⟩ ⟨g1, g2, g3⟩
    dsimp only at g1 g2 g3
    by_cases hi : i < q.length
    · have hi' : (i : Int) < (q.length : Int) := by omega
      have hw : IntKind.i64.wrap ((i : Int) + 1) = ((i + 1 : Nat) : Int) := by rw [wrap_id (by omega) (by omega)]; omega
      have eq : elemD 1 (txs q) (I (i : Int)) = some [T q[i]] := by simp [hi]
      have hz := hq q[i] (List.getElem_mem hi)
      have h2 := e_spec_l1Split q[i] 120 (by omega)
      have h120 : U ((120 : UInt8).toNat : Int) = U 120 := rfl
      rw [h120] at h2
      have hz2 := splitT_size 120 q[i]
      rw [List.drop_eq_getElem_cons hi] at g3
      simp only [rdAll, rdP] at g3
      generalize splitT 120 q[i] = w at h2 hz2 g3
      match w, h2, hz2, g3 with
      | [a, b], h2, hz2, g3 =>
        have ra := e_spec_l1Read a (by have := hz2 a (by simp); omega)
        have rb := e_spec_l1Read b (by have := hz2 b (by simp); omega)
        have e0 : elemD 1 (txs [a, b]) (I 0) = some [T a] := rfl
        have e1 : elemD 1 (txs [a, b]) (I 1) = some [T b] := rfl
        have ha := sls_app (l := acc) (m := [(readT b, readT a)]) (by simp; omega)
        have hl2 : ((List.length [a, b] : Nat) : Int) = 2 := rfl
        refine .inl ⟨(acc ++ [(readT b, readT a)], i + 1), ?_, ⟨hi, by simp; omega, ?_⟩, by dsimp only; omega⟩
        · simp -implicitDefEqProofs only [sl_zero, sl_succ, liveD_agg, liveD_ref, liveD_arr, ref0_eq, Option.bind_some, Option.map_some, callK_ret, gate_t, gate_f, gate_s, gateC_t, gateC_f, gateC_s, nrmK_some, pickD_B, ifD_B, ifN_B, if_true, if_false, Bool.false_eq_true, un_not, Bool.not_true, Bool.not_false, decide_true, decide_false, and_self, outK_ext, Nat.beq_refl, bin_lss, bin_gtr, bin_leq, bin_geq, bin_eql, bin_neq, bin_add, bin_sub, bin_mul, lenD_arr, lenD_str, List.length_map, ldD_ptr, takeD_f, chkV_v, offD_ptr, List.drop_zero, List.drop_succ_cons, atD_agg, mkArr_nil, Int.reduceLT, Int.reduceLE, Int.reduceEq, hi', eq, h2, hl2, e0, e1, ra, rb, bldS, sls_one, sls_chk, ha, hw]
        · rw [g3]
          simp only [Option.bind_some, Option.map_map]
          congr 1
          funext r
          simp
      | [], h2, hz2, g3 =>
        refine .inr ⟨.ret [.arr 2 [], B false] [], ?_, rfl, ?_⟩
        · simp -implicitDefEqProofs only [sl_zero, sl_succ, liveD_agg, liveD_ref, liveD_arr, ref0_eq, Option.bind_some, Option.map_some, callK_ret, gate_t, gate_f, gate_s, gateC_t, gateC_f, gateC_s, nrmK_some, pickD_B, ifD_B, ifN_B, if_true, if_false, Bool.false_eq_true, un_not, Bool.not_true, Bool.not_false, decide_true, decide_false, and_self, outK_ext, Nat.beq_refl, bin_lss, bin_gtr, bin_leq, bin_geq, bin_eql, bin_neq, bin_add, bin_sub, bin_mul, lenD_arr, lenD_str, List.length_map, ldD_ptr, takeD_f, chkV_v, offD_ptr, List.drop_zero, List.drop_succ_cons, atD_agg, mkArr_nil, Int.reduceLT, Int.reduceLE, Int.reduceEq, hi', eq, h2, List.length_nil, Int.natCast_zero, show ((0 : Nat) : Int) = 0 from rfl]
        · rw [g3]; rfl
      | [a], h2, hz2, g3 =>
        refine .inr ⟨.ret [.arr 2 [], B false] [], ?_, rfl, ?_⟩
        · have hl2 : ((List.length [a] : Nat) : Int) = 1 := rfl
          simp -implicitDefEqProofs only [sl_zero, sl_succ, liveD_agg, liveD_ref, liveD_arr, ref0_eq, Option.bind_some, Option.map_some, callK_ret, gate_t, gate_f, gate_s, gateC_t, gateC_f, gateC_s, nrmK_some, pickD_B, ifD_B, ifN_B, if_true, if_false, Bool.false_eq_true, un_not, Bool.not_true, Bool.not_false, decide_true, decide_false, and_self, outK_ext, Nat.beq_refl, bin_lss, bin_gtr, bin_leq, bin_geq, bin_eql, bin_neq, bin_add, bin_sub, bin_mul, lenD_arr, lenD_str, List.length_map, ldD_ptr, takeD_f, chkV_v, offD_ptr, List.drop_zero, List.drop_succ_cons, atD_agg, mkArr_nil, Int.reduceLT, Int.reduceLE, Int.reduceEq, hi', eq, h2, hl2]
        · rw [g3]; rfl
      | a :: b :: c :: t, h2, hz2, g3 =>
        have hl2 : ¬ ((List.length (a :: b :: c :: t) : Nat) : Int) = 2 := by simp only [List.length_cons]; omega
        refine .inr ⟨.ret [.arr 2 [], B false] [], ?_, rfl, ?_⟩
        · simp -implicitDefEqProofs only [sl_zero, sl_succ, liveD_agg, liveD_ref, liveD_arr, ref0_eq, Option.bind_some, Option.map_some, callK_ret, gate_t, gate_f, gate_s, gateC_t, gateC_f, gateC_s, nrmK_some, pickD_B, ifD_B, ifN_B, if_true, if_false, Bool.false_eq_true, un_not, Bool.not_true, Bool.not_false, decide_true, decide_false, and_self, outK_ext, Nat.beq_refl, bin_lss, bin_gtr, bin_leq, bin_geq, bin_eql, bin_neq, bin_add, bin_sub, bin_mul, lenD_arr, lenD_str, List.length_map, ldD_ptr, takeD_f, chkV_v, offD_ptr, List.drop_zero, List.drop_succ_cons, atD_agg, mkArr_nil, Int.reduceLT, Int.reduceLE, Int.reduceEq, hi', eq, h2, hl2]
        · rw [g3]; rfl
    · have hi' : ¬ (i : Int) < (q.length : Int) := by omega
      rw [List.drop_eq_nil_of_le (by omega)] at g3
      refine .inr ⟨.ext 0 [sls acc], ?_, rfl, ?_⟩
      · simp -implicitDefEqProofs only [sl_zero, sl_succ, liveD_agg, liveD_ref, liveD_arr, ref0_eq, Option.bind_some, Option.map_some, callK_ret, gate_t, gate_f, gate_s, gateC_t, gateC_f, gateC_s, nrmK_some, pickD_B, ifD_B, ifN_B, if_true, if_false, Bool.false_eq_true, un_not, Bool.not_true, Bool.not_false, decide_true, decide_false, and_self, outK_ext, Nat.beq_refl, bin_lss, bin_gtr, bin_leq, bin_geq, bin_eql, bin_neq, bin_add, bin_sub, bin_mul, lenD_arr, lenD_str, List.length_map, ldD_ptr, takeD_f, chkV_v, offD_ptr, List.drop_zero, List.drop_succ_cons, atD_agg, mkArr_nil, Int.reduceLT, Int.reduceLE, Int.reduceEq, hi']
      · rw [g3]
        simp [rdAll]
  · rintro o rfl
    rw [hdef]
    cases hr : rdAll q with
    | none => rfl
    | some r =>
      have hlr : r.length ≤ 1048576 := by
        have key : ∀ (q : List ByteArray) (r : List Slp), rdAll q = some r → r.length = q.length := by
          intro q
          induction q with
          | nil => intro r h; cases h; rfl
          | cons p q ih =>
            intro r h
            simp only [rdAll, Option.bind_eq_some_iff, Option.map_eq_some_iff] at h
            obtain ⟨x, _, m, h2, rfl⟩ := h
            simp [ih m h2]
        rw [key q r hr]
        omega
      simp -implicitDefEqProofs only [sl_zero, sl_succ, liveD_agg, liveD_ref, liveD_arr, ref0_eq, Option.bind_some, Option.map_some, callK_ret, gate_t, gate_f, gate_s, gateC_t, gateC_f, gateC_s, nrmK_some, pickD_B, ifD_B, ifN_B, if_true, if_false, Bool.false_eq_true, un_not, Bool.not_true, Bool.not_false, decide_true, decide_false, and_self, outK_ext, Nat.beq_refl, bin_lss, bin_gtr, bin_leq, bin_geq, bin_eql, bin_neq, bin_add, bin_sub, bin_mul, lenD_arr, lenD_str, List.length_map, ldD_ptr, takeD_f, chkV_v, offD_ptr, List.drop_zero, List.drop_succ_cons, atD_agg, mkArr_nil, Int.reduceLT, Int.reduceLE, Int.reduceEq, e_spec_ruIf r hlr, tpSl, tpSv]
      unfold ckS stO
      cases goodS r <;> rfl
def exSt : List ByteArray := [⟨⟨[]⟩⟩, ⟨⟨[32]⟩⟩, ⟨⟨[49, 120, 49]⟩⟩, ⟨⟨[49, 120, 49, 32]⟩⟩, ⟨⟨[50, 49, 120, 53, 32]⟩⟩, ⟨⟨[48, 120, 53, 32]⟩⟩, ⟨⟨[49, 120, 50, 48, 49, 32]⟩⟩, ⟨⟨[49, 120, 53, 32, 49, 120, 53, 32]⟩⟩, ⟨⟨[48, 49, 120, 53, 32]⟩⟩, ⟨⟨[49, 120, 120, 53, 32]⟩⟩]
theorem exSt_mk : mkArr 1 [T ⟨⟨[]⟩⟩, T ⟨⟨[32]⟩⟩, T ⟨⟨[49, 120, 49]⟩⟩, T ⟨⟨[49, 120, 49, 32]⟩⟩, T ⟨⟨[50, 49, 120, 53, 32]⟩⟩, T ⟨⟨[48, 120, 53, 32]⟩⟩, T ⟨⟨[49, 120, 50, 48, 49, 32]⟩⟩, T ⟨⟨[49, 120, 53, 32, 49, 120, 53, 32]⟩⟩, T ⟨⟨[48, 49, 120, 53, 32]⟩⟩, T ⟨⟨[49, 120, 120, 53, 32]⟩⟩] = some (txs exSt) := mkTxs (l := exSt)
theorem exSt_size : ∀ s ∈ exSt, s.size ≤ 20 := by decide
set_option maxHeartbeats 1000000 in
theorem d_DrawParseStock (l : List Int) (h : Bytes l) : ∃ s : ByteArray, F_spec_DrawParseStock [bytesD l] = some (.ret [T s] []) ∧ s.size ≤ 1000 := by
  obtain ⟨a, c1, e1, g1, k1⟩ := d_stock ⟨l, 0, 0⟩ 0 (cur0 h) (by omega)
  rw [← curZ_eq] at e1
  obtain ⟨v2, c2, e2, l2, u2, k2⟩ := d_pick c1 5 _ k1 (by omega) (by omega)
  have hG := e_spec_ruGood a (by omega)
  have key : ∃ s : ByteArray, s.size ≤ 100 ∧ ((goodS a = true ∧ F_spec_ruText [sls a] = some (.ret [T s] [])) ∨ (goodS a = false ∧ s = ⟨⟨[51, 120, 49, 50, 32, 50, 120, 51, 48, 32, 49, 120, 52, 48, 32]⟩⟩)) := by
    cases hg : goodS a
    · exact ⟨_, by decide, .inr ⟨rfl, rfl⟩⟩
    · have h8 := goodS_len hg
      have hz := stT_size a (goodS_ok hg)
      exact ⟨stT a, by omega, .inl ⟨rfl, e_spec_ruText a (by omega) (goodS_ok hg)⟩⟩
  obtain ⟨s, hz, hs⟩ := key
  rw [t_spec_DrawParseStock]
  have hfin : ∃ t : ByteArray, t.size ≤ 1000 ∧ ((v2 = 0 ∧ ∃ c3, F_spec_l1Cur_spoilt [curD c2, T s, T ⟨⟨[120, 32, 45, 48, 49, 50]⟩⟩] = some (.ret [T t] [curD c3])) ∨ (v2 = 1 ∧ ∃ c3, F_spec_l1Cur_of [curD c2, txs exSt] = some (.ret [T t] [curD c3])) ∨ (v2 ≠ 0 ∧ v2 ≠ 1 ∧ t = s)) := by
    by_cases h0 : v2 = 0
    · obtain ⟨t, c3, e3, g3, k3⟩ := d_spoilt c2 s ⟨⟨[120, 32, 45, 48, 49, 50]⟩⟩ _ k2 (by omega) (by omega) ⟨by decide, by decide⟩
      exact ⟨t, by omega, .inl ⟨h0, c3, e3⟩⟩
    by_cases h1 : v2 = 1
    · obtain ⟨t, c3, e3, g3, k3⟩ := d_of c2 exSt _ k2 (by omega) (by decide) (by decide)
      exact ⟨t, by have := exSt_size t g3; omega, .inr (.inl ⟨h1, c3, e3⟩)⟩
    · exact ⟨s, by omega, .inr (.inr ⟨h0, h1, rfl⟩)⟩
  obtain ⟨t, ht, hf⟩ := hfin
  refine ⟨t, ?_, ht⟩
  rcases hs with ⟨hg, hs⟩ | ⟨hg, rfl⟩
  · rcases hf with ⟨rfl, c3, e3⟩ | ⟨rfl, c3, e3⟩ | ⟨h0, h1, rfl⟩
    · simp -implicitDefEqProofs only [sl_zero, sl_succ, liveD_agg, liveD_ref, liveD_arr, ref0_eq, Option.bind_some, Option.map_some, callK_ret, gate_t, gate_f, gate_s, gateC_t, gateC_f, gateC_s, nrmK_some, pickD_B, ifD_B, ifN_B, if_true, if_false, Bool.false_eq_true, un_not, Bool.not_true, Bool.not_false, decide_true, decide_false, and_self, outK_ext, Nat.beq_refl, bin_lss, bin_gtr, bin_leq, bin_geq, bin_eql, bin_neq, bin_add, bin_sub, bin_mul, lenD_arr, lenD_str, List.length_map, ldD_ptr, takeD_f, chkV_v, offD_ptr, List.drop_zero, List.drop_succ_cons, atD_agg, mkArr_nil, Int.reduceLT, Int.reduceLE, Int.reduceEq, bldCur, box_cur, e1, hG, hg, hs, e2, e3]
    · simp -implicitDefEqProofs only [sl_zero, sl_succ, liveD_agg, liveD_ref, liveD_arr, ref0_eq, Option.bind_some, Option.map_some, callK_ret, gate_t, gate_f, gate_s, gateC_t, gateC_f, gateC_s, nrmK_some, pickD_B, ifD_B, ifN_B, if_true, if_false, Bool.false_eq_true, un_not, Bool.not_true, Bool.not_false, decide_true, decide_false, and_self, outK_ext, Nat.beq_refl, bin_lss, bin_gtr, bin_leq, bin_geq, bin_eql, bin_neq, bin_add, bin_sub, bin_mul, lenD_arr, lenD_str, List.length_map, ldD_ptr, takeD_f, chkV_v, offD_ptr, List.drop_zero, List.drop_succ_cons, atD_agg, mkArr_nil, Int.reduceLT, Int.reduceLE, Int.reduceEq, bldCur, box_cur, e1, hG, hg, hs, e2, exSt_mk, e3]
    · simp -implicitDefEqProofs only [sl_zero, sl_succ, liveD_agg, liveD_ref, liveD_arr, ref0_eq, Option.bind_some, Option.map_some, callK_ret, gate_t, gate_f, gate_s, gateC_t, gateC_f, gateC_s, nrmK_some, pickD_B, ifD_B, ifN_B, if_true, if_false, Bool.false_eq_true, un_not, Bool.not_true, Bool.not_false, decide_true, decide_false, and_self, outK_ext, Nat.beq_refl, bin_lss, bin_gtr, bin_leq, bin_geq, bin_eql, bin_neq, bin_add, bin_sub, bin_mul, lenD_arr, lenD_str, List.length_map, ldD_ptr, takeD_f, chkV_v, offD_ptr, List.drop_zero, List.drop_succ_cons, atD_agg, mkArr_nil, Int.reduceLT, Int.reduceLE, Int.reduceEq, bldCur, box_cur, e1, hG, hg, hs, e2, h0, h1]
  · rcases hf with ⟨rfl, c3, e3⟩ | ⟨rfl, c3, e3⟩ | ⟨h0, h1, rfl⟩
    · simp -implicitDefEqProofs only [sl_zero, sl_succ, liveD_agg, liveD_ref, liveD_arr, ref0_eq, Option.bind_some, Option.map_some, callK_ret, gate_t, gate_f, gate_s, gateC_t, gateC_f, gateC_s, nrmK_some, pickD_B, ifD_B, ifN_B, if_true, if_false, Bool.false_eq_true, un_not, Bool.not_true, Bool.not_false, decide_true, decide_false, and_self, outK_ext, Nat.beq_refl, bin_lss, bin_gtr, bin_leq, bin_geq, bin_eql, bin_neq, bin_add, bin_sub, bin_mul, lenD_arr, lenD_str, List.length_map, ldD_ptr, takeD_f, chkV_v, offD_ptr, List.drop_zero, List.drop_succ_cons, atD_agg, mkArr_nil, Int.reduceLT, Int.reduceLE, Int.reduceEq, bldCur, box_cur, e1, hG, hg, e2, e3]
    · simp -implicitDefEqProofs only [sl_zero, sl_succ, liveD_agg, liveD_ref, liveD_arr, ref0_eq, Option.bind_some, Option.map_some, callK_ret, gate_t, gate_f, gate_s, gateC_t, gateC_f, gateC_s, nrmK_some, pickD_B, ifD_B, ifN_B, if_true, if_false, Bool.false_eq_true, un_not, Bool.not_true, Bool.not_false, decide_true, decide_false, and_self, outK_ext, Nat.beq_refl, bin_lss, bin_gtr, bin_leq, bin_geq, bin_eql, bin_neq, bin_add, bin_sub, bin_mul, lenD_arr, lenD_str, List.length_map, ldD_ptr, takeD_f, chkV_v, offD_ptr, List.drop_zero, List.drop_succ_cons, atD_agg, mkArr_nil, Int.reduceLT, Int.reduceLE, Int.reduceEq, bldCur, box_cur, e1, hG, hg, e2, exSt_mk, e3]
    · simp -implicitDefEqProofs only [sl_zero, sl_succ, liveD_agg, liveD_ref, liveD_arr, ref0_eq, Option.bind_some, Option.map_some, callK_ret, gate_t, gate_f, gate_s, gateC_t, gateC_f, gateC_s, nrmK_some, pickD_B, ifD_B, ifN_B, if_true, if_false, Bool.false_eq_true, un_not, Bool.not_true, Bool.not_false, decide_true, decide_false, and_self, outK_ext, Nat.beq_refl, bin_lss, bin_gtr, bin_leq, bin_geq, bin_eql, bin_neq, bin_add, bin_sub, bin_mul, lenD_arr, lenD_str, List.length_map, ldD_ptr, takeD_f, chkV_v, offD_ptr, List.drop_zero, List.drop_succ_cons, atD_agg, mkArr_nil, Int.reduceLT, Int.reduceLE, Int.reduceEq, bldCur, box_cur, e1, hG, hg, e2, h0, h1]
end Go.Proofs.YtoocdnbkiejihaaDoor
/-
  The program's text of a stock: walked by hand, for it writes into a builder.
-/
namespace Go.Proofs.YtoocdnbkiejihaaDoor
open Go Go.V Go.RowKit Go.Shelf
set_option linter.unusedSimpArgs false

theorem builder_kept {T e B b : Nat} {bs : List Value} {w w' : World} (h : Lib.IsBuilderF T e B b bs w) (hB : Below w.heap.size w w') : Lib.IsBuilderF T e B b bs w' := by
  have key : ∀ p, Lib.BuilderAtF T e B b p bs w → Lib.BuilderAtF T e B b p bs w' := by
    rintro p h
    have hlt := h.lt
    obtain ⟨h1, v, h2, ⟨h3, h4⟩, h5⟩ := h
    refine ⟨h1, v, (hB.block b hlt).trans h2, ⟨h3, ?_⟩, h5⟩
    rcases h4 with h4 | ⟨g, cap, cur, fz, g1, g2, g3, g4⟩
    · exact .inl h4
    · exact .inr ⟨g, cap, cur, fz, g1, g2, (hB.block g (Array.getElem?_eq_some_iff.1 g3).1).trans g3, g4⟩
  exact h.elim (fun h => .inl (key _ h)) (fun h => .inr (key _ h))
/-- A call that hands one scalar back, of a function whose contract is said of data. -/
theorem calls_flat1 {P : Program} {G : List (Nat × (Obj → Prop))} {f : FuncId} {S : FS} (he : ∀ args w, (callFunc f args).run P w = .ok (.enter f args) w) (hm : Meets G P f S) {ds : List D} {y : Value} (f' : List D → Option Out) (hf' : S.f = f') (hd : f' ds = some (.ret [.v y] [])) (hrm : S.rm = [.dat 0]) {args : Array Value} {w : World} {F : Nat → Prop}
    (hgl : gOk G w F) (ha : ArgsOk w F (fun _ => none) 0 S.pm ds args.toList) (hF : ∀ b, F b → b < w.heap.size) : Calls P f args w fun e w' => e = .returned y ∧ Below w.heap.size w w' := by
  refine (calls_of_meets' he hm (hf' ▸ hd) hgl ha (fun b hb => ⟨hF b hb, rfl⟩) (fun b i h => by cases h)).mono ?_
  rintro e w' ⟨v, rfl, F', R, vs, rfl, hpost⟩
  have hl := hpost.len
  rw [hrm] at hl
  obtain ⟨u, rfl⟩ := List.length_eq_one_iff.1 hl
  have h0 := hpost.res 0
  rw [hrm] at h0
  simp only [nthK, nth, List.getD_cons_zero] at h0
  rcases h0 with h0 | h0
  · cases h0
  exact ⟨by rw [resV, (RepV_v.1 h0).1], ⟨hpost.os, hpost.tape, hpost.output, hpost.size, fun b hb => hpost.keep b hb rfl⟩⟩
set_option maxRecDepth 100000 in
theorem call_Itoa {w : World} {F : Nat → Prop} (hF : ∀ b, F b → b < w.heap.size) (hgl : gOk gl1 w F) {n : Int} (h0 : -9223372036854775808 ≤ n) (h1 : n ≤ 9223372036854775807) :
    Calls Tryd.prog 86 #[.int .i64 n] w fun e w' => e = .returned (.string (intT n)) ∧ Below w.heap.size w w' :=
  calls_flat1 (Go.Proofs.enters_of Tryd.func86 (by kernel_rfl) rfl) M_strconv_Itoa fItoa rfl (e_Itoa h0 h1) rfl hgl (show ArgOk w F _ (.dat 0) (I n) (.int .i64 n) ∧ True from ⟨.inr (RepV_v.2 ⟨rfl, rfl⟩), trivial⟩) hF
theorem call_write (B b : Nat) (bs : List Value) (s : ByteArray) (w : World) (h : Lib.IsBuilderF 100 5 B b bs w) (hlen : bs.length + s.size ≤ 140737488355328) (hBw : B ≤ w.heap.size) :
    Calls Tryd.prog 85 #[.pointer (some ⟨b, 0, none⟩), .string s] w fun e w' => e = .returned (.tuple #[.int .i64 s.size, .nilIface]) ∧ (Lib.BuilderAtF 100 5 B b (.pointer (some ⟨b, 0, none⟩)) (bs ++ Lib.strCells s) w' ∧ Below B w w' ∧ Lib.OthersKept 5 (some b) w w') :=
  Any.Builder_WriteString_k (ρ := Tryd.lays156_ren) { Tryd.lays156 with } Tryd.Builder_Extra_156 B b bs s w h hlen hBw
theorem call_string (B b : Nat) (l : List UInt8) (w : World) (h : Lib.IsBuilderF 100 5 B b (Lib.byteCells l) w) (hBw : B ≤ w.heap.size) :
    Calls Tryd.prog 87 #[.pointer (some ⟨b, 0, none⟩)] w fun e w' => e = .returned (.string ⟨l.toArray⟩) ∧ (Lib.IsBuilderF 100 5 B b (Lib.byteCells l) w' ∧ Below B w w' ∧ Lib.OthersKept 5 (some b) w w') :=
  Any.Builder_String_any_k (ρ := Tryd.lays156_ren) { Tryd.lays156 with } Tryd.Builder_Extra_156 B b l w h hBw


def cellsS (x : Slp) : List Value := [.int .i64 x.1, .int .i64 x.2]
theorem rep_sls {w : World} {F : Nat → Prop} : ∀ (l : List Slp) (us : List Value), RepL w F (l.map slp) us → us = l.flatMap cellsS
  | [], us, h => RepL_nil.1 h
  | x :: l, us, h => by
    obtain ⟨v1, v2, rfl, h1, h2⟩ := RepL_cons.1 h
    rw [rep_sls l v2 h2]
    simp only [RepC] at h1
    obtain ⟨u1, r1, rfl, g1, h1⟩ := RepL_cons.1 h1.1
    obtain ⟨u2, r2, rfl, g2, h1⟩ := RepL_cons.1 h1
    simp only [RepC] at g1 g2
    rw [g1.1, g2.1, RepL_nil.1 h1]
    rfl
theorem cells_sls {w : World} {b : Nat} : ∀ (l : List Slp) (o : Nat), CellsAt w b o (l.flatMap cellsS) → ∀ (i : Nat) (x : Slp), l[i]? = some x → CellsAt w b (o + i * 2) (cellsS x)
  | [], _, _, i, x, hx => by simp at hx
  | y :: l, o, h, 0, x, hx => by
    simp only [List.getElem?_cons_zero, Option.some.injEq] at hx
    subst hx
    intro j u hu
    have := h j u (by rw [List.flatMap_cons, List.getElem?_append_left (List.getElem?_eq_some_iff.1 hu).1]; exact hu)
    simpa using this
  | y :: l, o, h, i + 1, x, hx => by
    have := cells_sls l (o + 2) (by
      have := h.drop 2
      exact this) i x (by simpa using hx)
    rw [show o + (i + 1) * 2 = o + 2 + i * 2 by omega]
    exact this

set_option maxHeartbeats 4000000 in
set_option maxRecDepth 1000000 in
theorem stockText_walk (l : List Slp) (hg : ∀ x ∈ l, (1 ≤ x.1 ∧ x.1 ≤ 200) ∧ 0 ≤ x.2 ∧ x.2 ≤ 20) (hl : l.length ≤ 1048576) (A : Option Addr) (c : Nat) (_hc : l.length ≤ c) (w : World) (F : Nat → Prop) (hF : ∀ b, F b → b < w.heap.size) (hgl : gOk gl1 w F)
    (hA : l ≠ [] → ∃ b o, A = some ⟨b, o, none⟩ ∧ F b ∧ ∀ (i : Nat) (x : Slp), l[i]? = some x → CellsAt w b (o + i * 2) (cellsS x)) :
    Calls Tryd.prog 63 #[.slice A l.length c] w fun e w' => e = .returned (.string (stT l)) ∧ Below w.heap.size w w' := by
  have hIt : ∀ n : Int, 0 ≤ n → n ≤ 200 → ∀ W, Below w.heap.size w W → Calls Tryd.prog 86 #[.int .i64 n] W fun e w' => e = .returned (.string (intT n)) ∧ Below W.heap.size W w' := fun n h0 h1 W hW =>
    call_Itoa (F := F) (fun b hb => Nat.lt_of_lt_of_le (hF b hb) hW.size) (gOk_mono (fun _ h => h) (fun b hb => hW.block b (hF b hb)) hgl) (by omega) (by omega)
  go_enter Tryd.func63, Tryd.ntmps63
  go_wp2
  go_loopw [8] (fun v8 wr => ∃ (i : Nat) (acc : List UInt8), v8 = .int .i64 i ∧ i ≤ l.length ∧ Lib.IsBuilderF 100 5 w.heap.size w.heap.size (Lib.byteCells acc) wr ∧ Below w.heap.size w wr ∧ acc ++ chars (stT (l.drop i)) = chars (stT l) ∧ acc.length ≤ 8 * i) (fun v8 wr => l.length - (match v8 with | .int _ n => n.toNat | _ => 0))
  case atStart =>
    exact ⟨0, [], rfl, Nat.zero_le _, Lib.IsBuilderF.of (Lib.fresh_isBuilder 100 5 w), (Below.refl _ w).alloc (Nat.le_refl _) _, rfl, Nat.le_refl _⟩
  case round =>
    obtain ⟨i, acc, rfl, hi, hI, hbw, hacc, hal⟩ := hrel
    by_cases hp : i < l.length
    · have hpi : (i : Int) < (l.length : Int) := by omega
      obtain ⟨b, o, rfl, hb, hcell⟩ := hA (fun h => by rw [h] at hp; exact absurd hp (Nat.not_lt_zero _))
      have hcl := hcell i l[i] (List.getElem?_eq_getElem hp)
      have hbw0 : wr.heap[b]? = w.heap[b]? := hbw.block b (hF b hb)
      have c0 : wr.cell? ⟨b, o + i * 2, none⟩ = some (.int .i64 l[i].1) := (World.cell?_of_block hbw0).trans (hcl 0 _ rfl)
      have c1 : wr.cell? ⟨b, o + i * 2 + 1, none⟩ = some (.int .i64 l[i].2) := (World.cell?_of_block hbw0).trans (hcl 1 _ rfl)
      have hx := hg _ (List.getElem_mem hp)
      have hItC := hIt l[i].2 (by omega) (by omega)
      have hItL := hIt l[i].1 (by omega) (by omega)
      obtain ⟨z1, z2, z3⟩ := slT_size hx
      have s1 : (intT l[i].2 ++ ⟨⟨[120]⟩⟩ : ByteArray).size = (intT l[i].2).size + 1 := by rw [ByteArray.size_append, sz1']
      have s2 : (intT l[i].2 ++ ⟨⟨[120]⟩⟩ ++ intT l[i].1 : ByteArray).size = (intT l[i].2).size + 1 + (intT l[i].1).size := by rw [ByteArray.size_append, s1]
      generalize hO0 : (Obj.cells #[.int .i64 l[i].1, .int .i64 l[i].2] 44) = O0 at *
      have hIs := builder_kept (hI.alloc O0) ((Below.refl _ _).drew)
      have hBl := (hbw.alloc hbw.size O0).drew
      have hk : (wr.alloc O0).drew.heap[wr.heap.size]? = some O0 := Array.getElem?_push_size
      have d0 : (wr.alloc O0).drew.cell? ⟨wr.heap.size, 0, none⟩ = some (.int .i64 l[i].1) := by rw [← hO0] at hk ⊢; rw [Lib.cell_of_heap hk]; rfl
      have d1 : (wr.alloc O0).drew.cell? ⟨wr.heap.size, 1, none⟩ = some (.int .i64 l[i].2) := by rw [← hO0] at hk ⊢; rw [Lib.cell_of_heap hk]; rfl
      have hlt : w.heap.size < wr.heap.size := hI.elim (fun h => h.lt) (fun h => h.lt)
      have hne : ∀ c fz, O0 ≠ .cells c 5 fz := fun c fz h => by
        rw [← hO0] at h
        injection h with _ h _
        exact absurd h (by decide)
      have hWr : ∀ W, Lib.IsBuilderF 100 5 w.heap.size w.heap.size (Lib.byteCells acc) W → w.heap.size ≤ W.heap.size → W.heap[wr.heap.size]? = some O0 →
          Calls Tryd.prog 85 #[.pointer (some ⟨w.heap.size, 0, none⟩), .string (intT l[i].2 ++ ⟨#[120]⟩ ++ intT l[i].1 ++ ⟨#[32]⟩)] W fun e w' => e = .returned (.tuple #[.int .i64 (slT l[i]).size, .nilIface]) ∧
            Lib.BuilderAtF 100 5 w.heap.size w.heap.size (.pointer (some ⟨w.heap.size, 0, none⟩)) (Lib.byteCells acc ++ Lib.strCells (slT l[i])) w' ∧ Below w.heap.size W w' ∧ w'.heap[wr.heap.size]? = some O0 := by
        intro W hW1 hW2 hW3
        refine (call_write w.heap.size w.heap.size _ (slT l[i]) W hW1 (by rw [Lib.byteCells_length]; omega) hW2).mono ?_
        rintro e w' ⟨q1, q2, q3, q4⟩
        refine ⟨q1, q2, q3, q4 _ _ hW3 (fun h => ?_) hne⟩
        have := Option.some.inj h
        omega
      go_upto_region 5 with fail
      go_region_held (fun w' => w'.cell? ⟨wr.heap.size, 0, none⟩ = some (.int .i64 l[i].1) ∧ w'.cell? ⟨wr.heap.size, 1, none⟩ = some (.int .i64 l[i].2)) (first | exact ⟨d0, d1⟩ | go_keep)
        (first
          | (go_at_call 86; first
              | (refine (hItC _ hBl).mono ?_; rintro e W1 ⟨rfl, b1⟩
                 have hk := (b1.block _ (Array.getElem?_eq_some_iff.1 hk).1).trans hk
                 have hIs := builder_kept hIs b1
                 have hBl := hBl.trans (b1.mono hBl.size)
                 have d0 : W1.cell? ⟨wr.heap.size, 0, none⟩ = some (.int .i64 l[i].1) := by rw [← hO0] at hk; rw [Lib.cell_of_heap hk]; rfl
                 have d1 : W1.cell? ⟨wr.heap.size, 1, none⟩ = some (.int .i64 l[i].2) := by rw [← hO0] at hk; rw [Lib.cell_of_heap hk]; rfl)
              | (refine (hItL _ hBl).mono ?_; rintro e W1 ⟨rfl, b1⟩
                 have hk := (b1.block _ (Array.getElem?_eq_some_iff.1 hk).1).trans hk
                 have hIs := builder_kept hIs b1
                 have hBl := hBl.trans (b1.mono hBl.size)
                 have d0 : W1.cell? ⟨wr.heap.size, 0, none⟩ = some (.int .i64 l[i].1) := by rw [← hO0] at hk; rw [Lib.cell_of_heap hk]; rfl
                 have d1 : W1.cell? ⟨wr.heap.size, 1, none⟩ = some (.int .i64 l[i].2) := by rw [← hO0] at hk; rw [Lib.cell_of_heap hk]; rfl))
          | (go_at_call 85
             refine (hWr _ hIs hBl.size hk).mono ?_
             rintro e W3 ⟨rfl, hI3, b3, hk⟩
             have d0 : W3.cell? ⟨wr.heap.size, 0, none⟩ = some (.int .i64 l[i].1) := by rw [← hO0] at hk; rw [Lib.cell_of_heap hk]; rfl
             have d1 : W3.cell? ⟨wr.heap.size, 1, none⟩ = some (.int .i64 l[i].2) := by rw [← hO0] at hk; rw [Lib.cell_of_heap hk]; rfl))
      all_goals
        go_wp2
        have hdr : chars (stT (l.drop i)) = chars (slT l[i]) ++ chars (stT (l.drop (i + 1))) := by
          rw [List.drop_eq_getElem_cons hp]
          simp only [stT, chars_append]
        have hsz : (chars (slT l[i])).length ≤ 8 := z3
        refine ⟨⟨i + 1, acc ++ chars (slT l[i]), congrArg (Value.int .i64) (by omega), by omega, ?_, hBl.trans b3, ?_, ?_⟩, ?_⟩
        · rw [Lib.byteCells_append]
          exact Or.inr hI3
        · rw [← hacc, hdr, List.append_assoc]
        · rw [List.length_append]
          omega
        · show l.length - ((i : Int) + 1).toNat < l.length - (i : Int).toNat
          omega
    · have hpi : ¬ (i : Int) < (l.length : Int) := by omega
      have hcall4 := call_string w.heap.size w.heap.size acc _ hI hbw.size
      go_wp2_with (go_at_call 87; refine hcall4.mono ?_)
      intro e W1 he h1 b1 k1
      subst he
      go_wp2
      go_ret
      rw [List.drop_eq_nil_of_le (by omega)] at hacc
      refine ⟨?_, hbw.trans b1⟩
      have : acc = chars (stT l) := by rw [← hacc]; simp [stT, chars]
      rw [this, mk_chars]
      rfl
/-- Slips out of data. -/
def slpOf : D → Option Slp
  | .agg [.v (.int .i64 a), .v (.int .i64 b)] => some (a, b)
  | _ => none
theorem slpOf_some {d : D} {x : Slp} (h : slpOf d = some x) : d = slp x := by
  unfold slpOf at h
  split at h
  · cases h; rfl
  · cases h
def slsOf : List D → Option (List Slp)
  | [] => some []
  | d :: l => (slpOf d).bind fun x => (slsOf l).map (x :: ·)
theorem slsOf_some : ∀ (ds : List D) (l : List Slp), slsOf ds = some l → ds = l.map slp
  | [], l, h => by cases h; rfl
  | d :: ds, l, h => by
    simp only [slsOf, Option.bind_eq_some_iff, Option.map_eq_some_iff] at h
    obtain ⟨x, h1, m, h2, rfl⟩ := h
    rw [slpOf_some h1, slsOf_some ds m h2]
    rfl
theorem slsOf_map : ∀ (l : List Slp), slsOf (l.map slp) = some l
  | [] => rfl
  | x :: l => by
    simp only [List.map_cons, slsOf, slsOf_map l]
    rfl
def fStock : List D → Option Out
  | [.arr _ ds] => (slsOf ds).bind fun l => if (∀ x ∈ l, (1 ≤ x.1 ∧ x.1 ≤ 200) ∧ 0 ≤ x.2 ∧ x.2 ≤ 20) ∧ l.length ≤ 1048576 then some (.ret [T (stT l)] []) else none
  | _ => none
theorem e_fStock {l : List Slp} (h : goodS l = true) : fStock [sls l] = some (.ret [T (stT l)] []) := by
  have h8 := goodS_len h
  simp only [fStock, slsOf_map, Option.bind_some]
  rw [if_pos ⟨goodS_ok h, by omega⟩]
@[reducible] def S_impl_stockText : FS := { pm := [.dat 2], rm := [.dat 0], f := fStock }
set_option maxRecDepth 100000 in
theorem M_impl_stockText : Meets gl1 Tryd.prog 63 S_impl_stockText := by
  have he : ∀ args w, (callFunc 63 args).run Tryd.prog w = .ok (.enter 63 args) w := Go.Proofs.enters_of Tryd.func63 (by kernel_rfl) rfl
  refine meets_of_calls he fun ds rs us hd args w F ow hg ha hF _ => ?_
  obtain ⟨d, y, rfl, h2, h3⟩ := args_one ha
  replace hd : fStock [d] = some (.ret rs us) := hd
  unfold fStock at hd
  split at hd
  case h_2 => cases hd
  rename_i z ds e
  cases e
  obtain ⟨l, hl, hd⟩ := Option.bind_eq_some_iff.1 hd
  split at hd
  case isFalse => cases hd
  rename_i hz
  cases hd
  obtain rfl := slsOf_some _ _ hl
  rcases h3 with h3 | h3
  · cases h3
  simp only [RepV, RepC] at h3
  obtain ⟨A, c, us, hy, hc, hr, _, hA⟩ := h3
  simp only [List.cons.injEq, and_true] at hy
  subst hy
  rw [rep_sls l us hr] at hA
  rw [size1 h2]
  rw [List.length_map] at hc ⊢
  refine (stockText_walk l hz.1 hz.2 A c hc w F (fun b hb => (hF b hb).1) hg (fun hne => ?_)).mono ?_
  · obtain ⟨b, o, rfl, h5, h6⟩ := hA (by simpa using hne)
    exact ⟨b, o, rfl, h5, cells_sls l o h6⟩
  · rintro e w' ⟨rfl, hB⟩
    refine ⟨_, rfl, F, _, [_], rfl, post_flat hB hF rfl rfl [_] [_] rfl rfl fun j d hj => ?_⟩
    match j, hj with
    | 0, hj =>
      simp only [List.getElem?_cons_zero, Option.some.injEq] at hj
      subst hj
      exact ⟨_, rfl, RepV_v.2 ⟨rfl, rfl⟩⟩
end Go.Proofs.YtoocdnbkiejihaaDoor
