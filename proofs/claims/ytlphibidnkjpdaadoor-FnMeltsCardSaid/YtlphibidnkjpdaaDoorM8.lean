/-
  Strikes: what the functions compute.
-/
import Derived.Test.YtlphibidnkjpdaaDoorRows
import Derived.Test.YtlphibidnkjpdaaDoorTie
import Derived.Test.YtlphibidnkjpdaaDoorCards
import Derived.Test.YtlphibidnkjpdaaDoorM7
namespace Go.Proofs.YtlphibidnkjpdaaDoor
open Go Go.V
set_option linter.unusedSimpArgs false

/-! ### numbers of 64 bits joined by a byte -/
def i64s (l : List Int) : Prop := ∀ n ∈ l, -9223372036854775808 ≤ n ∧ n ≤ 9223372036854775807
theorem intT_any {n : Int} (h0 : -9223372036854775808 ≤ n) (h1 : n ≤ 9223372036854775807) : (intT n).size ≤ 20 := by
  by_cases h : 0 ≤ n
  · have := intT_size 18 (n := n) h (by omega)
    omega
  · have e : intT n = ⟨#[45]⟩ ++ intT (-n) := by
      obtain ⟨u, hu⟩ := Int.eq_ofNat_of_zero_le (show 0 ≤ -n by omega)
      have hn : n = -(u : Int) := by omega
      apply chars_inj
      rw [chars_append, hn, Int.neg_neg]
      unfold intT
      rw [chars_mk, chars_mk, Lib.itoa_neg u (by omega), Lib.itoa_nonneg]
      rfl
    have := intT_size 18 (n := -n) (by omega) (by omega)
    rw [e, ByteArray.size_append]
    have : (⟨#[45]⟩ : ByteArray).size = 1 := rfl
    omega
theorem numsJ_any {c : UInt8} {ns : List Int} (h : i64s ns) : (numsJ c ns).size ≤ ns.length * 21 := by
  have : (numsJ c ns).size = (joinL c (ns.map fun n => chars (intT n))).length := by rw [size_list, chars_numsJ]
  rw [this]
  have := joinL_len (c := c) (m := 20) (ns.map fun n => chars (intT n)) fun w hw => by
    obtain ⟨n, hn, rfl⟩ := List.mem_map.1 hw
    exact intT_any (h n hn).1 (h n hn).2
  rwa [List.length_map] at this
theorem e_impl_joinA (ns : List Int) (c : UInt8) (h : i64s ns) (hl : ns.length ≤ 1000000) : F_impl_join [intsL ns, T ⟨#[c]⟩] = some (.ret [T (numsJ c ns)] []) := by
  rw [t_impl_join]
  simp only [mkArr_nil, lenD_arr, List.length_map, Option.bind_some]
  refine loop_bind _ (loop_for ns.length (fun i => [T ⟨#[c]⟩, txs ((ns.take i).map intT), intsL ns, I ns.length, I i]) (.ext 0 [T ⟨#[c]⟩, txs (ns.map intT)]) (fun i hi => ?_) ?_ rfl rfl) ?_
  · have hi' : (i : Int) < (ns.length : Int) := by omega
    have hw : IntKind.i64.wrap ((i : Int) + 1) = ((i + 1 : Nat) : Int) := by rw [wrap_id (by omega) (by omega)]; omega
    have hx := h ns[i] (List.getElem_mem hi)
    have hel : elemD 1 (intsL ns) (I (i : Int)) = some [I ns[i]] := by simp [hi]
    have hit := e_Itoa (n := ns[i]) hx.1 hx.2
    have hap := txs_app (l := (ns.take i).map intT) (m := [intT ns[i]]) (by simp; omega)
    have htk : (ns.take (i + 1)).map intT = (ns.take i).map intT ++ [intT ns[i]] := by rw [List.take_succ_eq_append_getElem hi, List.map_append]; rfl
    rw [← htk] at hap
    have hck : chkA (.arr 1 [T (intT ns[i])]) = some (txs [intT ns[i]]) := chkA_texts [intT ns[i]]
    show _ = some (Out.nrm [T ⟨#[c]⟩, txs ((ns.take (i + 1)).map intT), intsL ns, I ns.length, I ((i + 1 : Nat) : Int)])
    simp -implicitDefEqProofs only [sl_zero, sl_succ, bin_lss, hi', decide_true, Option.bind_some, ifD_B, if_true, hel, Option.map_some, ldD_ptr, takeD_f, chkV_v, hit, callK_ret, one_text, hck, hap, bin_add, hw]
  · simp
  · have hz := numsJ_any (c := c) h
    have hj : fJoin [txs (ns.map intT), T ⟨#[c]⟩] = some (.ret [T (numsJ c ns)] []) := by
      simp only [fJoin, textsOf_T, Option.bind_some, joinOf_J]
      rw [if_pos ⟨by rw [List.length_map]; omega, by omega⟩]
    simp -implicitDefEqProofs only [outK_ext, Nat.beq_refl, ifN_B, if_true, sl_zero, sl_succ, liveD_arr, liveD_ref, Option.bind_some, hj, callK_ret]
theorem numsG_any : ∀ (l : List ByteArray) (acc : List Int), i64s acc → i64s (numsG l acc)
  | [], acc, h => h
  | w :: l, acc, h => by
    unfold numsG
    cases hw : Lib.atoiAll (chars w) with
    | ok v =>
      refine numsG_any l _ fun n hn => ?_
      rcases List.mem_append.1 hn with hn | hn
      · exact h n hn
      · rw [List.mem_singleton.1 hn]
        exact Lib.atoiAll_bounds hw
    | _ => intro n hn; simp at hn
theorem numsT_any (s : ByteArray) : i64s (numsT s) := numsG_any _ _ fun n hn => by simp at hn

/-! ### strikes -/
abbrev Sk := Int × Int × Int × Int × Int
abbrev sk (s : Sk) : D := .agg [I s.1, I s.2.1, I s.2.2.1, I s.2.2.2.1, I s.2.2.2.2]
def skL (s : Sk) : List Int := [s.1, s.2.1, s.2.2.1, s.2.2.2.1, s.2.2.2.2]
def in1 (x : Int) : Bool := decide (1 ≤ x ∧ x ≤ 999)
def goodK (s : Sk) : Bool := (skL s).all in1
theorem goodK_iff {s : Sk} : goodK s = true ↔ (1 ≤ s.1 ∧ s.1 ≤ 999) ∧ (1 ≤ s.2.1 ∧ s.2.1 ≤ 999) ∧ (1 ≤ s.2.2.1 ∧ s.2.2.1 ≤ 999) ∧ (1 ≤ s.2.2.2.1 ∧ s.2.2.2.1 ≤ 999) ∧ (1 ≤ s.2.2.2.2 ∧ s.2.2.2.2 ≤ 999) := by
  simp only [goodK, skL, in1, List.all_cons, List.all_nil, Bool.and_true, Bool.and_eq_true, decide_eq_true_eq]
theorem goodK_in {s : Sk} (h : goodK s = true) : ∀ n ∈ skL s, 1 ≤ n ∧ n ≤ 999 := fun n hn => by simpa [in1] using List.all_eq_true.1 h n hn
theorem mk5 (a b c d e : Int) : mkArr 1 [I a, I b, I c, I d, I e] = some (intsL [a, b, c, d, e]) := mkInts (l := [a, b, c, d, e])
theorem box5 (s : Sk) : boxD 5 (sk s) = some (sk s) := by simp
theorem fld5 (s : Sk) : fldD true 5 0 (sk s) = some (sk s) := by simp
theorem st5 (s : Sk) : stD 5 (.agg [I 0, I 0, I 0, I 0, I 0]) (.ref 0 0) (sk s) = some (sk s) := by simp
theorem bld5 (a b c d e : Int) : bldD [(0, 1), (1, 1), (2, 1), (3, 1), (4, 1)] [I 0, I 0, I 0, I 0, I 0] [I a, I b, I c, I d, I e] = some (sk (a, b, c, d, e)) := by simp [bldD, fillD]
abbrev k0 : Sk := (0, 0, 0, 0, 0)
theorem bldk0 : bldD [] [I 0, I 0, I 0, I 0, I 0] [] = some (sk k0) := by simp [bldD, fillD]
theorem e_impl_parts (s : Sk) : F_impl_Strike_parts [sk s] = some (.ret [intsL (skL s)] []) := by
  rw [t_impl_Strike_parts]
  have := mk5 s.1 s.2.1 s.2.2.1 s.2.2.2.1 s.2.2.2.2
  simp -implicitDefEqProofs only [box5, Option.bind_some, liveD_agg, atD_agg, List.drop_zero, List.drop_succ_cons, takeD_f, this, skL]
theorem e_spec_parts (s : Sk) : F_spec_maParts [sk s] = some (.ret [intsL (skL s)] []) := by
  rw [t_spec_maParts]
  have := mk5 s.1 s.2.1 s.2.2.1 s.2.2.2.1 s.2.2.2.2
  simp -implicitDefEqProofs only [box5, Option.bind_some, liveD_agg, atD_agg, List.drop_zero, List.drop_succ_cons, takeD_f, this, skL]
theorem e_impl_IsStrike (s : Sk) : F_impl_IsStrike [sk s] = some (.ret [B (goodK s)] []) := by
  rw [t_impl_IsStrike]
  simp -implicitDefEqProofs only [box5, fld5, Option.bind_some, e_impl_parts, callK_ret, sl_zero, lenD_arr, List.length_map]
  have hl : (skL s).length = 5 := rfl
  refine loop_bind _ (loop_all (skL s) (fun i => [intsL (skL s), I (skL s).length, I i]) (fun _ x => in1 x) (.ret [B false] []) (.ext 0 []) (fun i hi => ?_) ?_ rfl rfl rfl) ?_
  · have hw : IntKind.i64.wrap ((i : Int) + 1) = (i : Int) + 1 := wrap_id (by omega) (by omega)
    by_cases h1 : 1 ≤ (skL s)[i] ∧ (skL s)[i] ≤ 999 <;> simp -implicitDefEqProofs [hi, hw, h1, e_impl_within, in1]
  · simp
  · have e : allI (fun _ x => in1 x) 0 (skL s) = goodK s := by
      have := allI_In (a := 1) (b := 999) (skL s) 0
      exact this
    rw [e]
    cases goodK s <;> rfl
theorem e_spec_maGood (s : Sk) : F_spec_maGood [sk s] = some (.ret [B (goodK s)] []) := by
  rw [t_spec_maGood]
  have ha := e_spec_l1All (skL s) 1 999 (by simp [skL])
  have e : ((skL s).all fun x => decide (1 ≤ x ∧ x ≤ 999)) = goodK s := rfl
  rw [e] at ha
  simp -implicitDefEqProofs only [box5, fld5, Option.bind_some, e_spec_parts, callK_ret, sl_zero, ha]

/-! ### filings -/
def difL (a b : List Int) : List Int := List.zipWith (fun x y => x - y) a b
def geL (a b : List Int) : Bool := (List.zipWith (fun x y => decide (y ≤ x)) a b).all id
def canK (s t : Sk) : Bool := geL (skL s) (skL t) && decide (s.2.2.1 = t.2.2.1)
theorem difL_take {a b : List Int} (h : a.length = b.length) {i : Nat} (hi : i < a.length) : (difL a b).take (i + 1) = (difL a b).take i ++ [a[i] - b[i]'(by omega)] := by
  have hl : i < (difL a b).length := by simp [difL]; omega
  rw [List.take_succ_eq_append_getElem hl]
  simp [difL]
theorem geL_take {a b : List Int} (h : a.length = b.length) {i : Nat} (hi : i < a.length) : geL (a.take (i + 1)) (b.take (i + 1)) = (geL (a.take i) (b.take i) && decide (b[i]'(by omega) ≤ a[i])) := by
  unfold geL
  rw [List.take_succ_eq_append_getElem hi, List.take_succ_eq_append_getElem (show i < b.length by omega), List.zipWith_append (by simp; omega), List.all_append]
  simp
theorem ints_app {l : List Int} {n : Int} (h : l.length ≤ 1048576) : appD 1 8 (intsL l) (intsL [n]) = some (intsL (l ++ [n])) := by
  rw [appD_eq, if_pos (by simp; omega)]
  simp
theorem ints_one (n : Int) : mkArr 1 [I n] = some (intsL [n]) := mkInts (l := [n])
theorem ints_chk (l : List Int) : chkA (intsL l) = some (intsL l) := chkA_map (fun _ => rfl)
theorem gate_bool (b : Bool) (r : Option D) : gate (.tup []) (B b) true r = if b = true then r else some (.tup []) := by cases b <;> rfl
theorem e_impl_filings {s t : Sk} (hs : goodK s = true) (ht : goodK t = true) : F_impl_Strike_filings [sk s, sk t] = some (.ret [intsL (difL (skL s) (skL t)), B (canK s t)] []) := by
  rw [t_impl_Strike_filings]
  have hl : (skL s).length = 5 := rfl
  have hl2 : (skL t).length = 5 := rfl
  have hll : (skL s).length = (skL t).length := rfl
  have hd : (difL (skL s) (skL t)).length = 5 := rfl
  have hs' := goodK_in hs
  have ht' := goodK_in ht
  simp -implicitDefEqProofs only [box5, fld5, mkArr_nil, Option.bind_some, e_impl_parts, callK_ret, sl_zero, liveD_agg, atD_agg, List.drop_succ_cons, List.drop_zero, takeD_f, bin_eql, lenD_arr, List.length_map]
  unfold canK
  clear hs ht
  generalize decide (s.2.2.1 = t.2.2.1) = q
  generalize skL s = a at *
  generalize skL t = b at *
  refine loop_bind (.ext 0 [intsL (difL a b), B (geL a b && q)]) (loop_for a.length (fun i => [intsL ((difL a b).take i), intsL b, B (geL (a.take i) (b.take i) && q), intsL a, I a.length, I i]) _ (fun i hi => ?_) ?_ rfl ?_) ?_
  · have hi' : (i : Int) < (a.length : Int) := by omega
    have hw : IntKind.i64.wrap ((i : Int) + 1) = ((i + 1 : Nat) : Int) := by rw [wrap_id (by omega) (by omega)]; omega
    have i2 : i < b.length := by omega
    have h1 := hs' a[i] (List.getElem_mem hi)
    have h2 := ht' b[i] (List.getElem_mem i2)
    have e1 : elemD 1 (intsL a) (I (i : Int)) = some [I a[i]] := by simp [hi]
    have e2 : elemD 1 (intsL b) (I (i : Int)) = some [I b[i]] := by simp [i2]
    have hv : IntKind.i64.wrap (a[i] - b[i]) = a[i] - b[i] := wrap_id (by omega) (by omega)
    have hap := ints_app (l := (difL a b).take i) (n := a[i] - b[i]) (by rw [List.length_take]; omega)
    rw [← difL_take hll hi] at hap
    rw [geL_take hll hi]
    cases hb : (geL (a.take i) (b.take i) && q)
    · have e3 : (geL (a.take i) (b.take i) && decide (b[i] ≤ a[i]) && q) = false := by
        rw [Bool.and_right_comm, hb, Bool.false_and]
      rw [e3]
      simp -implicitDefEqProofs only [sl_zero, sl_succ, bin_lss, hi', decide_true, Option.bind_some, ifD_B, if_true, e1, e2, Option.map_some, ldD_ptr, takeD_f, chkV_v, bin_sub, hv, ints_one, ints_chk, hap, gate_bool, Bool.false_eq_true, if_false, pickD_B, bin_add, hw]
    · have e3 : (geL (a.take i) (b.take i) && decide (b[i] ≤ a[i]) && q) = decide (b[i] ≤ a[i]) := by
        rw [Bool.and_right_comm, hb, Bool.true_and]
      rw [e3]
      simp -implicitDefEqProofs only [sl_zero, sl_succ, bin_lss, hi', decide_true, Option.bind_some, ifD_B, if_true, e1, e2, Option.map_some, ldD_ptr, takeD_f, chkV_v, bin_sub, hv, ints_one, ints_chk, hap, gate_bool, bin_geq, ge_iff_le, pickD_B, bin_add, hw]
  · have hn : ¬ (a.length : Int) < (a.length : Int) := by omega
    have e1 : (difL a b).take a.length = difL a b := List.take_of_length_le (by omega)
    have e2 : a.take a.length = a := List.take_of_length_le (by omega)
    have e3 : b.take a.length = b := List.take_of_length_le (by omega)
    simp -implicitDefEqProofs only [sl_zero, sl_succ, bin_lss, hn, decide_false, Option.bind_some, ifD_B, Bool.false_eq_true, if_false, e1, e2, e3]
  · simp only [List.take_zero, geL, List.zipWith_nil_left, List.all_nil, Bool.true_and, List.map_nil]
    rfl
  · simp -implicitDefEqProofs only [outK_ext, Nat.beq_refl, ifN_B, if_true, sl_zero, sl_succ]
end Go.Proofs.YtlphibidnkjpdaaDoor
/-
  Strikes: filings, casts, files, centres, texts.
-/
namespace Go.Proofs.YtlphibidnkjpdaaDoor
open Go Go.V
set_option linter.unusedSimpArgs false

theorem allI_id : ∀ (l : List Bool) (i : Nat), allI (fun _ x => x) i l = l.all id
  | [], _ => rfl
  | x :: l, i => by simp only [allI, allI_id l, List.all_cons, id]
theorem e_spec_maCan {s t : Sk} : F_spec_maCan [sk s, sk t] = some (.ret [B (canK s t)] []) := by
  rw [t_spec_maCan]
  have hl : (skL s).length = 5 := rfl
  have hl2 : (skL t).length = 5 := rfl
  simp -implicitDefEqProofs only [box5, fld5, Option.bind_some, e_spec_parts, callK_ret, sl_zero, lenD_arr, List.length_map]
  unfold canK geL
  have hz : (List.zipWith (fun x y => decide (y ≤ x)) (skL s) (skL t)).length = 5 := rfl
  generalize hA : skL s = a at *
  generalize hB : skL t = b at *
  generalize hC : List.zipWith (fun x y => decide (y ≤ x)) a b = z at *
  refine loop_bind _ (loop_all z (fun i => [sk s, sk t, intsL b, intsL a, I a.length, I i]) (fun _ x => x) (.ret [B false] []) (.ext 0 [sk s, sk t]) (fun i hi => ?_) ?_ rfl rfl ?_) ?_
  · have h1 : i < a.length := by omega
    have h2 : i < b.length := by omega
    have hi' : (i : Int) < (a.length : Int) := by omega
    have hw : IntKind.i64.wrap ((i : Int) + 1) = ((i + 1 : Nat) : Int) := by rw [wrap_id (by omega) (by omega)]; omega
    have e1 : elemD 1 (intsL a) (I (i : Int)) = some [I a[i]] := by simp [h1]
    have e2 : elemD 1 (intsL b) (I (i : Int)) = some [I b[i]] := by simp [h2]
    have e3 : z[i] = decide (b[i] ≤ a[i]) := by subst hC; simp
    rw [e3]
    by_cases h : b[i] ≤ a[i]
    · have hn : ¬ a[i] < b[i] := by omega
      simp -implicitDefEqProofs only [sl_zero, sl_succ, bin_lss, hi', decide_true, Option.bind_some, ifD_B, if_true, e1, e2, Option.map_some, ldD_ptr, takeD_f, chkV_v, hn, decide_false, Bool.false_eq_true, if_false, bin_add, hw, h]
    · have hn : a[i] < b[i] := by omega
      simp -implicitDefEqProofs only [sl_zero, sl_succ, bin_lss, hi', decide_true, Option.bind_some, ifD_B, if_true, e1, e2, Option.map_some, ldD_ptr, takeD_f, chkV_v, hn, h, decide_false, Bool.false_eq_true, if_false]
  · have hn : ¬ ((z.length : Nat) : Int) < (a.length : Int) := by omega
    simp -implicitDefEqProofs only [sl_zero, sl_succ, bin_lss, hn, decide_false, Option.bind_some, ifD_B, Bool.false_eq_true, if_false]
  · rfl
  · rw [allI_id]
    by_cases h : z.all id = true
    · rw [if_pos h, h, Bool.true_and]
      simp -implicitDefEqProofs only [outK_ext, Nat.beq_refl, ifN_B, if_true, sl_zero, sl_succ, liveD_agg, Option.bind_some, atD_agg, List.drop_succ_cons, List.drop_zero, takeD_f, bin_eql]
    · rw [if_neg h]
      rw [Bool.not_eq_true] at h
      rw [h]
      rfl
theorem e_spec_maFilings {s t : Sk} (hs : goodK s = true) (ht : goodK t = true) : F_spec_maFilings [sk s, sk t] = some (.ret [intsL (difL (skL s) (skL t))] []) := by
  rw [t_spec_maFilings]
  have hl : (skL s).length = 5 := rfl
  have hl2 : (skL t).length = 5 := rfl
  have hll : (skL s).length = (skL t).length := rfl
  have hd : (difL (skL s) (skL t)).length = 5 := rfl
  have hs' := goodK_in hs
  have ht' := goodK_in ht
  simp -implicitDefEqProofs only [box5, fld5, Option.bind_some, e_spec_parts, callK_ret, sl_zero, lenD_arr, List.length_map]
  clear hs ht
  generalize skL s = a at *
  generalize skL t = b at *
  refine loop_bind (.ext 0 [intsL (difL a b)]) (loop_for a.length (fun i => [intsL ((difL a b).take i), intsL b, intsL a, I a.length, I i]) _ (fun i hi => ?_) ?_ rfl rfl) ?_
  · have hi' : (i : Int) < (a.length : Int) := by omega
    have hw : IntKind.i64.wrap ((i : Int) + 1) = ((i + 1 : Nat) : Int) := by rw [wrap_id (by omega) (by omega)]; omega
    have i2 : i < b.length := by omega
    have h1 := hs' a[i] (List.getElem_mem hi)
    have h2 := ht' b[i] (List.getElem_mem i2)
    have e1 : elemD 1 (intsL a) (I (i : Int)) = some [I a[i]] := by simp [hi]
    have e2 : elemD 1 (intsL b) (I (i : Int)) = some [I b[i]] := by simp [i2]
    have hv : IntKind.i64.wrap (a[i] - b[i]) = a[i] - b[i] := wrap_id (by omega) (by omega)
    have hap := ints_app (l := (difL a b).take i) (n := a[i] - b[i]) (by rw [List.length_take]; omega)
    rw [← difL_take hll hi] at hap
    simp -implicitDefEqProofs only [sl_zero, sl_succ, bin_lss, hi', decide_true, Option.bind_some, ifD_B, if_true, e1, e2, Option.map_some, ldD_ptr, takeD_f, chkV_v, bin_sub, hv, ints_one, ints_chk, hap, bin_add, hw]
  · have hn : ¬ (a.length : Int) < (a.length : Int) := by omega
    have e1 : (difL a b).take a.length = difL a b := List.take_of_length_le (by omega)
    simp -implicitDefEqProofs only [sl_zero, sl_succ, bin_lss, hn, decide_false, Option.bind_some, ifD_B, Bool.false_eq_true, if_false, e1]
  · simp -implicitDefEqProofs only [outK_ext, Nat.beq_refl, ifN_B, if_true, sl_zero, sl_succ]
theorem tpL (l : List Int) (ds : List D) : tupAt (.tup (intsL l :: ds)) 0 = some (intsL l) := rfl
theorem tpC1 (a : D) (v : Value) (ds : List D) : tupAt (tupCut (.tup (a :: .v v :: ds)) 0) 1 = some (.v v) := rfl
def bothK (s t : Sk) : Bool := goodK s && goodK t
def filB (s t : Sk) : Bool := bothK s t && canK s t
def filR (s t : Sk) : List Int := if filB s t = true then difL (skL s) (skL t) else []
theorem e_impl_FilingsFor (s t : Sk) : F_impl_FilingsFor [sk s, sk t] = some (.ret [intsL (filR s t), B (filB s t)] []) := by
  rw [t_impl_FilingsFor]
  cases h1 : goodK s
  · simp -implicitDefEqProofs [e_impl_IsStrike, h1, filR, filB, bothK, mkArr_nil]
  cases h2 : goodK t
  · simp -implicitDefEqProofs [e_impl_IsStrike, h1, h2, filR, filB, bothK, mkArr_nil]
  have e := e_impl_filings h1 h2
  simp -implicitDefEqProofs only [box5, fld5, Option.bind_some, e_impl_IsStrike, h1, h2, callK_ret, sl_zero, un_not, Bool.not_true, gate_f, Bool.false_eq_true, if_false, gateC_f, nrmK_some, pickD_B, ifD_B, e, tpL, tpC1]
  cases h3 : canK s t <;> simp -implicitDefEqProofs [filR, filB, bothK, h1, h2, h3, mkArr_nil]
theorem e_spec_FilingsFor (s t : Sk) : F_spec_FilingsFor [sk s, sk t] = some (.ret [intsL (filR s t), B (filB s t)] []) := by
  rw [t_spec_FilingsFor]
  cases h1 : goodK s
  · simp -implicitDefEqProofs [e_spec_maGood, h1, filR, filB, bothK]
  cases h2 : goodK t
  · simp -implicitDefEqProofs [e_spec_maGood, h1, h2, filR, filB, bothK]
  have e := e_spec_maFilings h1 h2
  cases h3 : canK s t
  · simp -implicitDefEqProofs only [box5, fld5, Option.bind_some, e_spec_maGood, h1, h2, callK_ret, sl_zero, un_not, Bool.not_true, Bool.not_false, gate_f, Bool.false_eq_true, if_false, if_true, gateC_f, nrmK_some, pickD_B, ifD_B, e_spec_maCan, h3, filR, filB, bothK, Bool.and_false, Bool.and_self]
    rfl
  · simp -implicitDefEqProofs only [box5, fld5, Option.bind_some, e_spec_maGood, h1, h2, callK_ret, sl_zero, un_not, Bool.not_true, gate_f, Bool.false_eq_true, if_false, if_true, gateC_f, nrmK_some, pickD_B, ifD_B, e_spec_maCan, h3, e, filR, filB, bothK, Bool.and_self]
theorem e_impl_CanBeJustified (s t : Sk) : F_impl_CanBeJustified [sk s, sk t] = some (.ret [B (filB s t), B (bothK s t)] []) := by
  rw [t_impl_CanBeJustified]
  cases h1 : goodK s
  · simp -implicitDefEqProofs [e_impl_IsStrike, h1, filB, bothK]
  cases h2 : goodK t
  · simp -implicitDefEqProofs [e_impl_IsStrike, h1, h2, filB, bothK]
  have e := e_impl_filings h1 h2
  simp -implicitDefEqProofs only [box5, fld5, Option.bind_some, e_impl_IsStrike, h1, h2, callK_ret, sl_zero, un_not, Bool.not_true, gate_f, Bool.false_eq_true, if_false, gateC_f, nrmK_some, pickD_B, ifD_B, e, tpL, tpC1, filB, bothK, Bool.and_self, Bool.true_and]
theorem e_spec_CanBeJustified (s t : Sk) : F_spec_CanBeJustified [sk s, sk t] = some (.ret [B (filB s t), B (bothK s t)] []) := by
  rw [t_spec_CanBeJustified]
  cases h1 : goodK s
  · simp -implicitDefEqProofs [e_spec_maGood, h1, filB, bothK]
  cases h2 : goodK t
  · simp -implicitDefEqProofs [e_spec_maGood, h1, h2, filB, bothK]
  simp -implicitDefEqProofs only [box5, fld5, Option.bind_some, e_spec_maGood, h1, h2, callK_ret, sl_zero, un_not, Bool.not_true, gate_f, Bool.false_eq_true, if_false, gateC_f, nrmK_some, pickD_B, ifD_B, e_spec_maCan, filB, bothK, Bool.and_self, Bool.true_and]
theorem e_laws_sameInts (l : List Int) (h : l.length ≤ 1048576) : F_laws_sameInts [intsL l, intsL l] = some (.ret [B true] []) := by
  rw [t_laws_sameInts]
  simp only [lenD_arr, List.length_map, Option.bind_some, bin_neq, decide_true, Bool.not_true, ifD_B, Bool.false_eq_true, if_false]
  refine loop_bind (.ext 0 []) (loop_for l.length (fun i => [intsL l, intsL l, I l.length, I i]) _ (fun i hi => ?_) ?_ rfl rfl) ?_
  · have hw : IntKind.i64.wrap ((i : Int) + 1) = (i : Int) + 1 := wrap_id (by omega) (by omega)
    simp -implicitDefEqProofs [hi, hw]
  · simp
  · simp
/-! ### casts -/
theorem e_spec_l1Least (a b : Int) : F_spec_l1Least [I a, I b] = some (.ret [I (if a < b then a else b)] []) := by
  rw [t_spec_l1Least]
  by_cases h : a < b <;> simp [h]
def casB (u v : Sk) (m : Int) : Bool := bothK u v && decide (0 ≤ m ∧ m ≤ 999) && decide (u.1 - v.1 ≤ m)
def casX (u v : Sk) (m : Int) : Int := 1000 * (v.1 + m - u.1) + 999
def casN (u v : Sk) (m : Int) : Int := if casB u v m = true then (if casX u v m < 1000000 then casX u v m else 1000000) else 0
theorem minD_I (a b : Int) : minD (I a) (I b) = some (I (if b < a then b else a)) := rfl
theorem e_impl_CastsLeft (u v : Sk) (m : Int) : F_impl_CastsLeft [sk u, sk v, I m] = some (.ret [I (casN u v m), B (casB u v m)] []) := by
  rw [t_impl_CastsLeft]
  cases h1 : goodK u
  · simp -implicitDefEqProofs [e_impl_IsStrike, h1, casN, casB, bothK]
  cases h2 : goodK v
  · simp -implicitDefEqProofs [e_impl_IsStrike, h1, h2, casN, casB, bothK]
  by_cases h3 : 0 ≤ m ∧ m ≤ 999
  case neg => simp -implicitDefEqProofs [e_impl_IsStrike, e_impl_within, h1, h2, h3, casN, casB, bothK]
  have a1 := (goodK_iff.1 h1).1
  have a2 := (goodK_iff.1 h2).1
  have w1 : IntKind.i64.wrap (m + v.1) = m + v.1 := wrap_id (by omega) (by omega)
  have w2 : IntKind.i64.wrap (m + v.1 - u.1) = m + v.1 - u.1 := wrap_id (by omega) (by omega)
  have w3 : IntKind.i64.wrap (1000 * (m + v.1 - u.1)) = 1000 * (m + v.1 - u.1) := wrap_id (by omega) (by omega)
  have w4 : IntKind.i64.wrap (1000 * (m + v.1 - u.1) + 999) = casX u v m := by rw [wrap_id (by omega) (by omega)]; unfold casX; omega
  by_cases h4 : u.1 - v.1 ≤ m
  · have h5 : ¬ m + v.1 - u.1 < 0 := by omega
    have hb : casB u v m = true := by simp only [casB, bothK, h1, h2, h3, h4, and_self, decide_true, Bool.and_self]
    have hn : casN u v m = (if casX u v m < 1000000 then casX u v m else 1000000) := by simp only [casN, hb, if_true]
    rw [hb, hn]
    simp -implicitDefEqProofs only [box5, fld5, Option.bind_some, liveD_agg, atD_agg, List.drop_zero, takeD_f, bin_add, w1, bin_sub, w2, e_impl_IsStrike, h1, h2, callK_ret, sl_zero, un_not, Bool.not_true, gate_f, Bool.false_eq_true, if_false, gateC_f, nrmK_some, pickD_B, e_impl_within, h3, and_self, decide_true, bin_lss, h5, decide_false, ifD_B, bin_mul, w3, w4, minD_I]
  · have h5 : m + v.1 - u.1 < 0 := by omega
    have hb : casB u v m = false := by simp only [casB, h4, decide_false, Bool.and_false]
    have hn : casN u v m = 0 := by simp only [casN, hb, Bool.false_eq_true, if_false]
    rw [hb, hn]
    simp -implicitDefEqProofs only [box5, fld5, Option.bind_some, liveD_agg, atD_agg, List.drop_zero, takeD_f, bin_add, w1, bin_sub, w2, e_impl_IsStrike, h1, h2, callK_ret, sl_zero, un_not, Bool.not_true, gate_f, Bool.false_eq_true, if_false, if_true, gateC_f, nrmK_some, pickD_B, e_impl_within, h3, and_self, decide_true, bin_lss, h5, ifD_B]
theorem e_spec_CastsLeft (u v : Sk) (m : Int) : F_spec_CastsLeft [sk u, sk v, I m] = some (.ret [I (casN u v m), B (casB u v m)] []) := by
  rw [t_spec_CastsLeft]
  cases h1 : goodK u
  · simp -implicitDefEqProofs [e_spec_maGood, h1, casN, casB, bothK]
  cases h2 : goodK v
  · simp -implicitDefEqProofs [e_spec_maGood, h1, h2, casN, casB, bothK]
  by_cases h3 : 0 ≤ m ∧ m ≤ 999
  case neg => simp -implicitDefEqProofs [e_spec_maGood, e_spec_l1In, h1, h2, h3, casN, casB, bothK]
  have a1 := (goodK_iff.1 h1).1
  have a2 := (goodK_iff.1 h2).1
  have w0 : IntKind.i64.wrap (u.1 - v.1) = u.1 - v.1 := wrap_id (by omega) (by omega)
  have w1 : IntKind.i64.wrap (v.1 + m) = v.1 + m := wrap_id (by omega) (by omega)
  have w2 : IntKind.i64.wrap (v.1 + m - u.1) = v.1 + m - u.1 := wrap_id (by omega) (by omega)
  have w3 : IntKind.i64.wrap (1000 * (v.1 + m - u.1)) = 1000 * (v.1 + m - u.1) := wrap_id (by omega) (by omega)
  have w4 : IntKind.i64.wrap (1000 * (v.1 + m - u.1) + 999) = casX u v m := by rw [wrap_id (by omega) (by omega)]; rfl
  by_cases h4 : u.1 - v.1 ≤ m
  · have h5 : ¬ m < u.1 - v.1 := by omega
    have hb : casB u v m = true := by simp only [casB, bothK, h1, h2, h3, h4, and_self, decide_true, Bool.and_self]
    have hn : casN u v m = (if 1000000 < casX u v m then 1000000 else casX u v m) := by
      simp only [casN, hb, if_true]
      split <;> split <;> omega
    rw [hb, hn]
    simp -implicitDefEqProofs only [box5, fld5, Option.bind_some, liveD_agg, atD_agg, List.drop_zero, takeD_f, bin_add, w0, w1, bin_sub, w2, e_spec_maGood, h1, h2, callK_ret, sl_zero, un_not, Bool.not_true, gate_f, Bool.false_eq_true, if_false, gateC_f, nrmK_some, pickD_B, e_spec_l1In, h3, and_self, decide_true, bin_gtr, h5, decide_false, ifD_B, bin_mul, w3, w4, e_spec_l1Least]
  · have h5 : m < u.1 - v.1 := by omega
    have hb : casB u v m = false := by simp only [casB, h4, decide_false, Bool.and_false]
    have hn : casN u v m = 0 := by simp only [casN, hb, Bool.false_eq_true, if_false]
    rw [hb, hn]
    simp -implicitDefEqProofs only [box5, fld5, Option.bind_some, liveD_agg, atD_agg, List.drop_zero, takeD_f, w0, bin_sub, e_spec_maGood, h1, h2, callK_ret, sl_zero, un_not, Bool.not_true, gate_f, Bool.false_eq_true, if_false, if_true, gateC_f, nrmK_some, pickD_B, e_spec_l1In, h3, and_self, decide_true, bin_gtr, h5, ifD_B]
def depB (s : Sk) (n : Int) : Bool := goodK s && decide (0 ≤ n ∧ n ≤ 1000000)
theorem e_impl_DepthAfter (s : Sk) (n : Int) : F_impl_DepthAfter [sk s, I n] = some (.ret [I (if depB s n = true then s.1 + n.tdiv 1000 else 0), B (depB s n)] []) := by
  rw [t_impl_DepthAfter]
  cases h1 : goodK s
  · simp -implicitDefEqProofs [e_impl_IsStrike, h1, depB]
  by_cases h3 : 0 ≤ n ∧ n ≤ 1000000
  case neg => simp -implicitDefEqProofs [e_impl_IsStrike, e_impl_within, h1, h3, depB]
  have a1 := (goodK_iff.1 h1).1
  have hq : 0 ≤ n.tdiv 1000 ∧ n.tdiv 1000 ≤ 1000 := by rw [Int.tdiv_eq_ediv_of_nonneg h3.1]; omega
  have w1 : IntKind.i64.wrap (n.tdiv 1000) = n.tdiv 1000 := wrap_id (by omega) (by omega)
  have w2 : IntKind.i64.wrap (s.1 + n.tdiv 1000) = s.1 + n.tdiv 1000 := wrap_id (by omega) (by omega)
  simp -implicitDefEqProofs [e_impl_IsStrike, e_impl_within, h1, h3, depB, w1, w2]
/-! ### files, centres -/
def ofL (l : List Int) : Sk := (l.getD 0 0, l.getD 1 0, l.getD 2 0, l.getD 3 0, l.getD 4 0)
theorem e_impl_strikeOf (a b c d e : Int) : F_impl_strikeOf [intsL [a, b, c, d, e]] = some (.ret [sk (a, b, c, d, e)] []) := by
  rw [t_impl_strikeOf]
  have e0 : elemD 1 (intsL [a, b, c, d, e]) (I 0) = some [I a] := rfl
  have e1 : elemD 1 (intsL [a, b, c, d, e]) (I 1) = some [I b] := rfl
  have e2 : elemD 1 (intsL [a, b, c, d, e]) (I 2) = some [I c] := rfl
  have e3 : elemD 1 (intsL [a, b, c, d, e]) (I 3) = some [I d] := rfl
  have e4 : elemD 1 (intsL [a, b, c, d, e]) (I 4) = some [I e] := rfl
  simp -implicitDefEqProofs only [e0, e1, e2, e3, e4, Option.map_some, Option.bind_some, ldD_ptr, takeD_f, chkV_v, bld5, st5, fld5]
theorem e_spec_maOf (a b c d e : Int) : F_spec_maOf [intsL [a, b, c, d, e]] = some (.ret [sk (a, b, c, d, e)] []) := by
  rw [t_spec_maOf]
  have e0 : elemD 1 (intsL [a, b, c, d, e]) (I 0) = some [I a] := rfl
  have e1 : elemD 1 (intsL [a, b, c, d, e]) (I 1) = some [I b] := rfl
  have e2 : elemD 1 (intsL [a, b, c, d, e]) (I 2) = some [I c] := rfl
  have e3 : elemD 1 (intsL [a, b, c, d, e]) (I 3) = some [I d] := rfl
  have e4 : elemD 1 (intsL [a, b, c, d, e]) (I 4) = some [I e] := rfl
  simp -implicitDefEqProofs only [e0, e1, e2, e3, e4, Option.map_some, Option.bind_some, ldD_ptr, takeD_f, chkV_v, bld5, st5, fld5]
def fiK (s : Sk) (p b : Int) : Sk := ofL ((skL s).set p.toNat ((skL s).getD p.toNat 0 - b))
def fiB (s : Sk) (p b : Int) : Bool := goodK s && decide (0 ≤ p ∧ p ≤ 4) && !decide (p = 2) && decide (1 ≤ b ∧ b ≤ 999) && goodK (fiK s p b)
def fiR (s : Sk) (p b : Int) : Sk := if fiB s p b = true then fiK s p b else k0
theorem fi_run (s : Sk) (h1 : goodK s = true) (p b : Int) (h2 : 0 ≤ p ∧ p ≤ 4) (h4 : 1 ≤ b ∧ b ≤ 999) : ∃ x v : Int, ∃ m : List Int,
    refI 1 (intsL (skL s)) (I p) = some (.ref p.toNat 0) ∧ ((atD (intsL (skL s)) (.ref p.toNat 0)).bind (takeD false 1)) = some (I x) ∧ IntKind.i64.wrap (x - b) = v ∧ stD 1 (intsL (skL s)) (.ref p.toNat 0) (I v) = some (intsL m) ∧
    F_impl_strikeOf [intsL m] = some (.ret [sk (fiK s p b)] []) ∧ F_spec_maOf [intsL m] = some (.ret [sk (fiK s p b)] []) := by
  obtain ⟨g1, g2, g3, g4, g5⟩ := goodK_iff.1 h1
  have hp : p = 0 ∨ p = 1 ∨ p = 2 ∨ p = 3 ∨ p = 4 := by omega
  rcases hp with rfl | rfl | rfl | rfl | rfl
  · exact ⟨s.1, s.1 - b, [s.1 - b, s.2.1, s.2.2.1, s.2.2.2.1, s.2.2.2.2], rfl, rfl, wrap_id (by omega) (by omega), rfl, e_impl_strikeOf _ _ _ _ _, e_spec_maOf _ _ _ _ _⟩
  · exact ⟨s.2.1, s.2.1 - b, [s.1, s.2.1 - b, s.2.2.1, s.2.2.2.1, s.2.2.2.2], rfl, rfl, wrap_id (by omega) (by omega), rfl, e_impl_strikeOf _ _ _ _ _, e_spec_maOf _ _ _ _ _⟩
  · exact ⟨s.2.2.1, s.2.2.1 - b, [s.1, s.2.1, s.2.2.1 - b, s.2.2.2.1, s.2.2.2.2], rfl, rfl, wrap_id (by omega) (by omega), rfl, e_impl_strikeOf _ _ _ _ _, e_spec_maOf _ _ _ _ _⟩
  · exact ⟨s.2.2.2.1, s.2.2.2.1 - b, [s.1, s.2.1, s.2.2.1, s.2.2.2.1 - b, s.2.2.2.2], rfl, rfl, wrap_id (by omega) (by omega), rfl, e_impl_strikeOf _ _ _ _ _, e_spec_maOf _ _ _ _ _⟩
  · exact ⟨s.2.2.2.2, s.2.2.2.2 - b, [s.1, s.2.1, s.2.2.1, s.2.2.2.1, s.2.2.2.2 - b], rfl, rfl, wrap_id (by omega) (by omega), rfl, e_impl_strikeOf _ _ _ _ _, e_spec_maOf _ _ _ _ _⟩
theorem e_impl_FileStrike (s : Sk) (p b : Int) : F_impl_FileStrike [sk s, I p, I b] = some (.ret [sk (fiR s p b), B (fiB s p b)] []) := by
  rw [t_impl_FileStrike]
  cases h1 : goodK s
  · simp -implicitDefEqProofs [e_impl_IsStrike, h1, fiR, fiB, bldk0]
  by_cases h2 : 0 ≤ p ∧ p ≤ 4
  case neg => simp -implicitDefEqProofs [e_impl_IsStrike, e_impl_within, h1, h2, fiR, fiB, bldk0]
  by_cases h3 : p = 2
  · subst h3
    simp -implicitDefEqProofs [e_impl_IsStrike, e_impl_within, h1, fiR, fiB, bldk0]
  by_cases h4 : 1 ≤ b ∧ b ≤ 999
  case neg => simp -implicitDefEqProofs [e_impl_IsStrike, e_impl_within, h1, h2, h3, h4, fiR, fiB, bldk0]
  obtain ⟨x, v, m, r1, r2, r3, r4, r5, _⟩ := fi_run s h1 p b h2 h4
  have hb : fiB s p b = goodK (fiK s p b) := by simp only [fiB, h1, h2, h3, h4, and_self, decide_true, decide_false, Bool.not_false, Bool.and_self, Bool.true_and]
  have hr : fiR s p b = if goodK (fiK s p b) = true then fiK s p b else k0 := by simp only [fiR, hb]
  rw [hb, hr]
  simp -implicitDefEqProofs only [box5, fld5, Option.bind_some, e_impl_IsStrike, h1, callK_ret, sl_zero, un_not, Bool.not_true, gate_f, Bool.false_eq_true, if_false, gateC_f, nrmK_some, pickD_B, e_impl_within, h2, h4, and_self, decide_true, bin_eql, h3, decide_false, ifD_B, e_impl_parts, liveD_arr, liveD_ref, r1, r2, bin_sub, r3, r4, r5, st5]
  cases goodK (fiK s p b) <;> simp -implicitDefEqProofs [bldk0]
theorem e_spec_FileStrike (s : Sk) (p b : Int) : F_spec_FileStrike [sk s, I p, I b] = some (.ret [sk (fiR s p b), B (fiB s p b)] []) := by
  rw [t_spec_FileStrike]
  cases h1 : goodK s
  · simp -implicitDefEqProofs [e_spec_maGood, h1, fiR, fiB, bldk0]
  by_cases h2 : 0 ≤ p ∧ p ≤ 4
  case neg => simp -implicitDefEqProofs [e_spec_maGood, e_spec_l1In, h1, h2, fiR, fiB, bldk0]
  by_cases h3 : p = 2
  · subst h3
    simp -implicitDefEqProofs [e_spec_maGood, e_spec_l1In, h1, fiR, fiB, bldk0]
  by_cases h4 : 1 ≤ b ∧ b ≤ 999
  case neg => simp -implicitDefEqProofs [e_spec_maGood, e_spec_l1In, h1, h2, h3, h4, fiR, fiB, bldk0]
  obtain ⟨x, v, m, r1, r2, r3, r4, _, r5⟩ := fi_run s h1 p b h2 h4
  have hb : fiB s p b = goodK (fiK s p b) := by simp only [fiB, h1, h2, h3, h4, and_self, decide_true, decide_false, Bool.not_false, Bool.and_self, Bool.true_and]
  have hr : fiR s p b = if goodK (fiK s p b) = true then fiK s p b else k0 := by simp only [fiR, hb]
  rw [hb, hr]
  simp -implicitDefEqProofs only [box5, fld5, Option.bind_some, e_spec_maGood, h1, callK_ret, sl_zero, un_not, Bool.not_true, gate_f, Bool.false_eq_true, if_false, gateC_f, nrmK_some, pickD_B, e_spec_l1In, h2, h4, and_self, decide_true, bin_eql, h3, decide_false, ifD_B, e_spec_parts, liveD_arr, liveD_ref, r1, r2, bin_sub, r3, r4, r5, st5]
  cases goodK (fiK s p b) <;> simp -implicitDefEqProofs [bldk0]
def ceK (s : Sk) : Sk := (s.1, (if s.2.2.2.1 < s.2.1 then s.2.2.2.1 else s.2.1), s.2.2.1, (if s.2.2.2.1 < s.2.1 then s.2.2.2.1 else s.2.1), s.2.2.2.2)
def ceR (s : Sk) : Sk := if goodK s = true then ceK s else k0
theorem e_impl_CentreStrike (s : Sk) : F_impl_CentreStrike [sk s] = some (.ret [sk (ceR s), B (goodK s)] []) := by
  rw [t_impl_CentreStrike]
  cases h1 : goodK s
  · simp -implicitDefEqProofs [e_impl_IsStrike, h1, ceR, bldk0]
  · simp -implicitDefEqProofs [e_impl_IsStrike, h1, ceR, ceK, minD_I]
theorem e_spec_CentreStrike (s : Sk) : F_spec_CentreStrike [sk s] = some (.ret [sk (ceR s), B (goodK s)] []) := by
  rw [t_spec_CentreStrike]
  cases h1 : goodK s
  · simp -implicitDefEqProofs [e_spec_maGood, h1, ceR, bldk0]
  · have e : (if s.2.1 < s.2.2.2.1 then s.2.1 else s.2.2.2.1) = (if s.2.2.2.1 < s.2.1 then s.2.2.2.1 else s.2.1) := by split <;> split <;> omega
    simp -implicitDefEqProofs [e_spec_maGood, h1, ceR, ceK, e_spec_l1Least, e]
theorem e_impl_WidthOfStrike (s : Sk) : F_impl_WidthOfStrike [sk s] = some (.ret [I (if goodK s = true then s.2.1 + s.2.2.1 + s.2.2.2.1 else 0), B (goodK s)] []) := by
  rw [t_impl_WidthOfStrike]
  cases h1 : goodK s
  · simp -implicitDefEqProofs [e_impl_IsStrike, h1]
  · obtain ⟨g1, g2, g3, g4, g5⟩ := goodK_iff.1 h1
    have w1 : IntKind.i64.wrap (s.2.1 + s.2.2.1) = s.2.1 + s.2.2.1 := wrap_id (by omega) (by omega)
    have w2 : IntKind.i64.wrap (s.2.1 + s.2.2.1 + s.2.2.2.1) = s.2.1 + s.2.2.1 + s.2.2.2.1 := wrap_id (by omega) (by omega)
    simp -implicitDefEqProofs [e_impl_IsStrike, h1, w1, w2]
end Go.Proofs.YtlphibidnkjpdaaDoor
/-
  Strikes: texts, draws.
-/
namespace Go.Proofs.YtlphibidnkjpdaaDoor
open Go Go.V
set_option linter.unusedSimpArgs false

theorem joinL_snoc (c : UInt8) (w : List UInt8) : ∀ (ws : List (List UInt8)), ws ≠ [] → joinL c (ws ++ [w]) = joinL c ws ++ c :: w
  | [], h => absurd rfl h
  | [a], _ => rfl
  | a :: b :: l, _ => by
    have ih := joinL_snoc c w (b :: l) (by simp)
    have h1 : joinL c ((a :: b :: l) ++ [w]) = a ++ c :: joinL c ((b :: l) ++ [w]) := rfl
    have h2 : joinL c (a :: b :: l) = a ++ c :: joinL c (b :: l) := rfl
    rw [h1, h2, ih]
    simp
theorem numsJ_one (c : UInt8) (n : Int) : numsJ c [n] = intT n := chars_inj (by rw [chars_numsJ]; rfl)
theorem numsJ_snoc (c : UInt8) (ns : List Int) (n : Int) (h : ns ≠ []) : numsJ c (ns ++ [n]) = numsJ c ns ++ ⟨#[c]⟩ ++ intT n := by
  apply chars_inj
  rw [chars_numsJ, List.map_append, List.map_cons, List.map_nil, joinL_snoc _ _ _ (by simpa using h), chars_append, chars_append, chars_numsJ, show chars ⟨#[c]⟩ = [c] from rfl]
  simp
def skT (s : Sk) : ByteArray := numsJ 47 (skL s)
theorem skL_in {s : Sk} (h : goodK s = true) : ∀ n ∈ skL s, 0 ≤ n ∧ n < 1000000 := fun n hn => by have := goodK_in h n hn; omega
theorem skT_size {s : Sk} (h : goodK s = true) : (skT s).size ≤ 100 := by
  have := numsJ_size (c := 47) (ns := skL s) fun n hn => by have := skL_in h n hn; omega
  exact Nat.le_trans this (by simp [skL])
theorem e_impl_StrikeText (s : Sk) : F_impl_StrikeText [sk s] = some (.ret [T (if goodK s = true then skT s else ⟨#[]⟩), B (goodK s)] []) := by
  rw [t_impl_StrikeText]
  cases hg : goodK s
  · simp -implicitDefEqProofs [e_impl_IsStrike, hg]
  · have hj := e_impl_join (skL s) 47 (fun n hn => by have := skL_in hg n hn; omega) (by simp [skL])
    have e : (D.v (Value.string { data := { toList := [47] } })) = T ⟨#[47]⟩ := rfl
    simp -implicitDefEqProofs only [box5, fld5, Option.bind_some, e_impl_IsStrike, hg, callK_ret, sl_zero, un_not, Bool.not_true, ifD_B, Bool.false_eq_true, if_false, if_true, e_impl_parts, e, hj, skT]
theorem e_spec_maText {s : Sk} (h : goodK s = true) : F_spec_maText [sk s] = some (.ret [T (skT s)] []) := by
  rw [t_spec_maText]
  have hin := skL_in h
  have hl : (skL s).length = 5 := rfl
  have e : (D.v (Value.string { data := { toList := [47] } })) = T ⟨#[47]⟩ := rfl
  have e0 : (D.v (Value.string { data := { toList := [] } })) = T ⟨#[]⟩ := rfl
  simp -implicitDefEqProofs only [box5, fld5, Option.bind_some, e_spec_parts, callK_ret, sl_zero, lenD_arr, List.length_map, e, e0]
  unfold skT
  generalize skL s = ns at hin hl
  refine loop_bind _ (loop_for ns.length (fun i => [T (numsJ 47 (ns.take i)), intsL ns, I ns.length, I i]) (.ext 0 [T (numsJ 47 ns)]) (fun i hi => ?_) ?_ rfl rfl) ?_
  · have hi' : (i : Int) < (ns.length : Int) := by omega
    have hw : IntKind.i64.wrap ((i : Int) + 1) = ((i + 1 : Nat) : Int) := by rw [wrap_id (by omega) (by omega)]; omega
    have hx := hin ns[i] (List.getElem_mem hi)
    have hel : elemD 1 (intsL ns) (I (i : Int)) = some [I ns[i]] := by simp [hi]
    have hn := e_spec_l1Num (n := ns[i]) (by omega) (by omega)
    have htk : ns.take (i + 1) = ns.take i ++ [ns[i]] := List.take_succ_eq_append_getElem hi
    have z1 := numsJ_size (c := 47) (ns := ns.take i) fun n hn => by have := hin n (List.mem_of_mem_take hn); omega
    have z1' : (ns.take i).length ≤ 5 := by rw [List.length_take]; omega
    have z2 := intT_size 9 (n := ns[i]) (by omega) (by omega)
    show _ = some (Out.nrm [T (numsJ 47 (ns.take (i + 1))), intsL ns, I ns.length, I ((i + 1 : Nat) : Int)])
    by_cases h0 : i = 0
    · subst h0
      have hg : ¬ (0 : Int) < ((0 : Nat) : Int) := by omega
      rw [htk, List.take_zero, List.nil_append, numsJ_one]
      have a1 : bin .add false [] (T (numsJ 47 [])) (T (intT ns[0])) = some (T (intT ns[0])) := by
        rw [addS (by simp only [show (numsJ 47 []).size = 0 from rfl]; omega)]
        congr 2
      simp -implicitDefEqProofs only [sl_zero, sl_succ, bin_lss, hi', decide_true, Option.bind_some, ifD_B, if_true, hel, Option.map_some, ldD_ptr, takeD_f, chkV_v, bin_gtr, hg, decide_false, Bool.false_eq_true, if_false, hn, callK_ret, a1, bin_add, hw]
    · have hg : (0 : Int) < (i : Int) := by omega
      have hne : ns.take i ≠ [] := fun e => by
        have := congrArg List.length e
        rw [List.length_take, List.length_nil] at this
        omega
      rw [htk, numsJ_snoc _ _ _ hne]
      have s1 : (⟨#[47]⟩ : ByteArray).size = 1 := rfl
      have a1 := addS (a := numsJ 47 (ns.take i)) (b := ⟨#[47]⟩) (bl := false) (eq := []) (by omega)
      have a2 := addS (a := numsJ 47 (ns.take i) ++ ⟨#[47]⟩) (b := intT ns[i]) (bl := false) (eq := []) (by rw [ByteArray.size_append]; omega)
      simp -implicitDefEqProofs only [sl_zero, sl_succ, bin_lss, hi', decide_true, Option.bind_some, ifD_B, if_true, hel, Option.map_some, ldD_ptr, takeD_f, chkV_v, bin_gtr, hg, hn, callK_ret, a1, a2, bin_add, hw]
  · simp
  · simp
theorem e_spec_StrikeText (s : Sk) : F_spec_StrikeText [sk s] = some (.ret [T (if goodK s = true then skT s else ⟨#[]⟩), B (goodK s)] []) := by
  rw [t_spec_StrikeText]
  cases hg : goodK s
  · simp -implicitDefEqProofs [e_spec_maGood, hg]
  · simp -implicitDefEqProofs [e_spec_maGood, hg, e_spec_maText hg]
/-! ### strikes read out of texts -/
def okK (ns : List Int) : Bool :=
  match ns with
  | [a, b, c, d, e] => goodK (a, b, c, d, e)
  | _ => false
theorem okK_in (ns : List Int) (h : okK ns = true) : ∀ n ∈ ns, 0 ≤ n ∧ n < 1000000 := by
  unfold okK at h
  split at h
  · exact skL_in h
  · cases h
def skO (o : Option (List Int)) : Sk :=
  match o with
  | some [a, b, c, d, e] => (a, b, c, d, e)
  | _ => k0
abbrev pK (s : ByteArray) : Option (List Int) := parseI 47 5 okK s
theorem pK_eq (s : ByteArray) : parseS readT 47 5 okK s = pK s := (parse_eq reads_T (by decide) (by decide) okK_in (by decide) s).symm
theorem pK_T {s : Sk} (h : goodK s = true) : pK (skT s) = some (skL s) := parseI_J reads_T (by decide) (by decide) okK_in (ns := skL s) h rfl
theorem e_impl_ParseStrike (s : ByteArray) (h : s.size ≤ 1048576) : F_impl_ParseStrike [T s] = some (.ret [sk (skO (pK s)), B (pK s).isSome] []) := by
  rw [t_impl_ParseStrike, e_impl_numbersIn s h]
  have hany := numsT_any s
  unfold pK parseI
  generalize numsT s = ns at hany
  have e47 : (D.v (Value.string { data := { toList := [47] } })) = T ⟨#[47]⟩ := rfl
  rcases ns with _ | ⟨a, _ | ⟨b, _ | ⟨c, _ | ⟨d, _ | ⟨e, _ | ⟨f, ns⟩⟩⟩⟩⟩⟩
  · simp -implicitDefEqProofs [skO, bldk0]
  · simp -implicitDefEqProofs [skO, bldk0]
  · simp -implicitDefEqProofs [skO, bldk0]
  · simp -implicitDefEqProofs [skO, bldk0]
  · simp -implicitDefEqProofs [skO, bldk0]
  · have hj := e_impl_joinA [a, b, c, d, e] 47 hany (by simp)
    have ho := e_impl_strikeOf a b c d e
    have hi := e_impl_IsStrike (a, b, c, d, e)
    have hk : okK [a, b, c, d, e] = goodK (a, b, c, d, e) := rfl
    have hq : (([a, b, c, d, e].map I).length : Int) = 5 := rfl
    by_cases h2 : numsJ 47 [a, b, c, d, e] = s
    · subst h2
      have hne : bin .neq false [] (T (numsJ 47 [a, b, c, d, e])) (T (numsJ 47 [a, b, c, d, e])) = some (B false) := by simp
      cases h1 : goodK (a, b, c, d, e)
      · rw [h1] at hi hk
        simp -implicitDefEqProofs only [callK_ret, sl_zero, lenD_arr, hq, bin_neq, decide_true, Bool.not_true, Option.bind_some, gate_f, Bool.false_eq_true, if_false, e47, hj, gateC_f, nrmK_some, hne, pickD_B, ho, hi, un_not, Bool.not_false, ifD_B, if_true, bldk0, st5, fld5, hk, false_and, and_false, skO, Option.isSome_none]
      · rw [h1] at hi hk
        simp -implicitDefEqProofs only [callK_ret, sl_zero, lenD_arr, hq, bin_neq, decide_true, Bool.not_true, Option.bind_some, gate_f, Bool.false_eq_true, if_false, e47, hj, gateC_f, nrmK_some, hne, pickD_B, ho, hi, un_not, ifD_B, st5, fld5, hk, and_self, show [a, b, c, d, e].length = 5 from rfl, if_true, skO, Option.isSome_some]
    · have hne : bin .neq false [] (T (numsJ 47 [a, b, c, d, e])) (T s) = some (B true) := by simp [h2]
      simp -implicitDefEqProofs only [callK_ret, sl_zero, lenD_arr, hq, bin_neq, decide_true, Bool.not_true, Option.bind_some, gate_f, gate_t, gate_s, Bool.false_eq_true, if_false, e47, hj, gateC_f, gateC_s, nrmK_some, hne, pickD_B, ifD_B, if_true, bldk0, st5, fld5, h2, and_false, skO, Option.isSome_none]
  · have hl : ¬ ((ns.length : Int) + 1 + 1 + 1 + 1 + 1 + 1 = 5) := by omega
    have hl2 : ¬ (ns.length + 1 + 1 + 1 + 1 + 1 + 1 = 5) := by omega
    simp -implicitDefEqProofs [skO, bldk0, hl, hl2]
theorem e_spec_ParseStrike (s : ByteArray) (h : s.size ≤ 1048576) : F_spec_ParseStrike [T s] = some (.ret [sk (skO (pK s)), B (pK s).isSome] []) := by
  rw [t_spec_ParseStrike, ← pK_eq]
  have hs : F_spec_l1Split [T s, D.v (Value.int IntKind.u8 47)] = some (.ret [.arr 1 ((splitT 47 s).map T)] []) := e_spec_l1Split s 47 (by omega)
  have hz := splitT_size 47 s
  rw [hs]
  unfold parseS
  generalize splitT 47 s = ws at hz
  by_cases h5 : ws.length = 5
  case neg =>
    have h5' : ¬ (ws.length : Int) = 5 := by omega
    simp -implicitDefEqProofs [skO, bldk0, h5, h5']
  have hq : (ws.length : Int) = 5 := by omega
  simp -implicitDefEqProofs only [callK_ret, sl_zero, lenD_arr, List.length_map, hq, bin_neq, decide_true, Bool.not_true, Option.bind_some, ifD_B, Bool.false_eq_true, if_false]
  refine loop_bind (.ext 0 [.agg [I 0, I 0, I 0, I 0, I 0], intsL (ws.map readT)]) (loop_for ws.length (fun i => [.agg [I 0, I 0, I 0, I 0, I 0], intsL ((ws.take i).map readT), .arr 1 (ws.map T), I 5, I i]) _ (fun i hi => ?_) ?_ rfl rfl) ?_
  · have hi' : (i : Int) < 5 := by omega
    have hw : IntKind.i64.wrap ((i : Int) + 1) = ((i + 1 : Nat) : Int) := by rw [wrap_id (by omega) (by omega)]; omega
    have hel : elemD 1 (.arr 1 (ws.map T)) (I (i : Int)) = some [T ws[i]] := by simp [hi]
    have r0 := e_spec_l1Read ws[i] (by have := hz ws[i] (List.getElem_mem hi); omega)
    have hap := ints_app (l := (ws.take i).map readT) (n := readT ws[i]) (by simp; omega)
    have htk : (ws.take (i + 1)).map readT = (ws.take i).map readT ++ [readT ws[i]] := by rw [List.take_succ_eq_append_getElem hi, List.map_append]; rfl
    rw [← htk] at hap
    simp -implicitDefEqProofs only [sl_zero, sl_succ, bin_lss, hi', decide_true, Option.bind_some, ifD_B, if_true, hel, Option.map_some, ldD_ptr, takeD_f, chkV_v, r0, callK_ret, ints_one, ints_chk, hap, bin_add, hw]
  · have hn : ¬ ((ws.length : Nat) : Int) < 5 := by omega
    have e1 : ws.take ws.length = ws := List.take_length
    simp -implicitDefEqProofs only [sl_zero, sl_succ, bin_lss, hn, decide_false, Option.bind_some, ifD_B, Bool.false_eq_true, if_false, e1]
  · have : ∃ a b c d e, ws = [a, b, c, d, e] := by
      match ws, h5 with
      | [a, b, c, d, e], _ => exact ⟨a, b, c, d, e, rfl⟩
    obtain ⟨a, b, c, d, e, rfl⟩ := this
    have ho := e_spec_maOf (readT a) (readT b) (readT c) (readT d) (readT e)
    have hi := e_spec_maGood (readT a, readT b, readT c, readT d, readT e)
    have hk : okK [readT a, readT b, readT c, readT d, readT e] = goodK (readT a, readT b, readT c, readT d, readT e) := rfl
    have hm : [a, b, c, d, e].map readT = [readT a, readT b, readT c, readT d, readT e] := rfl
    cases h1 : goodK (readT a, readT b, readT c, readT d, readT e)
    · rw [h1] at hi hk
      simp -implicitDefEqProofs only [outK_ext, Nat.beq_refl, ifN_B, if_true, sl_zero, sl_succ, hm, liveD_arr, liveD_ref, Option.bind_some, ho, callK_ret, hi, un_not, Bool.not_false, ifD_B, bldk0, st5, fld5, hk, Bool.false_eq_true, and_false, if_false, skO, Option.isSome_none]
    · rw [h1] at hi hk
      simp -implicitDefEqProofs only [outK_ext, Nat.beq_refl, ifN_B, if_true, sl_zero, sl_succ, hm, liveD_arr, liveD_ref, Option.bind_some, ho, callK_ret, hi, un_not, Bool.not_true, ifD_B, Bool.false_eq_true, if_false, st5, fld5, hk, show [a, b, c, d, e].length = 5 from rfl, and_self, skO, Option.isSome_some]
/-! ### draws -/
theorem d_strike (c : Cur) (B : Nat) (h : c.ok B) (hB : B ≤ 3000000) : ∃ (s : Sk) (c' : Cur), F_spec_l1Cur_strike [curD c] = some (.ret [sk s] [curD c']) ∧ goodK s = true ∧ c'.ok (B + 10) := by
  obtain ⟨v1, c1, e1, l1, u1, k1⟩ := d_pick c 8 B h (by omega) (by omega)
  obtain ⟨v2, c2, e2, l2, u2, k2⟩ := d_pick c1 8 _ k1 (by omega) (by omega)
  obtain ⟨v3, c3, e3, l3, u3, k3⟩ := d_pick c2 2 _ k2 (by omega) (by omega)
  obtain ⟨v4, c4, e4, l4, u4, k4⟩ := d_pick c3 8 _ k3 (by omega) (by omega)
  obtain ⟨v5, c5, e5, l5, u5, k5⟩ := d_pick c4 6 _ k4 (by omega) (by omega)
  have w1 : IntKind.i64.wrap (120 + v1) = 120 + v1 := wrap_id (by omega) (by omega)
  have w2 : IntKind.i64.wrap (30 + v2) = 30 + v2 := wrap_id (by omega) (by omega)
  have w3 : IntKind.i64.wrap (200 + v3) = 200 + v3 := wrap_id (by omega) (by omega)
  have w4 : IntKind.i64.wrap (30 + v4) = 30 + v4 := wrap_id (by omega) (by omega)
  have w5 : IntKind.i64.wrap (60 + v5) = 60 + v5 := wrap_id (by omega) (by omega)
  rw [t_spec_l1Cur_strike]
  refine ⟨(120 + v1, 30 + v2, 200 + v3, 30 + v4, 60 + v5), c5, ?_, goodK_iff.2 (by dsimp only; omega), k5.mono (by omega)⟩
  simp -implicitDefEqProofs only [liveD_agg, liveD_ref, ref0_eq, Option.bind_some, e1, e2, e3, e4, e5, callK_ret, sl_zero, bin_add, w1, w2, w3, w4, w5, bld5, st5, fld5]
theorem d_anyStrike (c : Cur) (B : Nat) (h : c.ok B) (hB : B ≤ 2000000) : ∃ (s : Sk) (c' : Cur), F_spec_l1Cur_anyStrike [curD c] = some (.ret [sk s] [curD c']) ∧ c'.ok (B + 20) := by
  obtain ⟨s, c1, e1, g1, k1⟩ := d_strike c B h (by omega)
  obtain ⟨b, c2, e2, k2⟩ := d_one c1 8 _ k1 (by omega) (by omega)
  rw [t_spec_l1Cur_anyStrike]
  cases b
  · exact ⟨s, c2, by simp -implicitDefEqProofs only [liveD_agg, liveD_ref, ref0_eq, Option.bind_some, e1, e2, callK_ret, sl_zero, st5, fld5, ifD_B, Bool.false_eq_true, if_false], k2.mono (by omega)⟩
  · obtain ⟨p, c3, e3, l3, u3, k3⟩ := d_pick c2 5 _ k2 (by omega) (by omega)
    obtain ⟨v, c4, e4, l4, k4⟩ := d_among c3 [1, 999, 0, 1000, -9223372036854775808] _ k3 (by omega) (by simp) (by simp)
    have m1 := mkInts (l := [1, 999, 0, 1000, -9223372036854775808])
    simp only [List.map_cons, List.map_nil] at m1
    have hp : p = 0 ∨ p = 1 ∨ p = 2 ∨ p = 3 ∨ p = 4 := by omega
    have key : ∃ m : List Int, ∃ t : Sk, refI 1 (intsL (skL s)) (I p) = some (.ref p.toNat 0) ∧ stD 1 (intsL (skL s)) (.ref p.toNat 0) (I v) = some (intsL m) ∧ F_spec_maOf [intsL m] = some (.ret [sk t] []) := by
      rcases hp with rfl | rfl | rfl | rfl | rfl
      · exact ⟨[v, s.2.1, s.2.2.1, s.2.2.2.1, s.2.2.2.2], _, rfl, rfl, e_spec_maOf _ _ _ _ _⟩
      · exact ⟨[s.1, v, s.2.2.1, s.2.2.2.1, s.2.2.2.2], _, rfl, rfl, e_spec_maOf _ _ _ _ _⟩
      · exact ⟨[s.1, s.2.1, v, s.2.2.2.1, s.2.2.2.2], _, rfl, rfl, e_spec_maOf _ _ _ _ _⟩
      · exact ⟨[s.1, s.2.1, s.2.2.1, v, s.2.2.2.2], _, rfl, rfl, e_spec_maOf _ _ _ _ _⟩
      · exact ⟨[s.1, s.2.1, s.2.2.1, s.2.2.2.1, v], _, rfl, rfl, e_spec_maOf _ _ _ _ _⟩
    obtain ⟨m, t, r1, r2, r3⟩ := key
    have st' : stD 5 (sk s) (.ref 0 0) (sk t) = some (sk t) := by simp
    refine ⟨t, c4, ?_, k4.mono (by omega)⟩
    simp -implicitDefEqProofs only [liveD_agg, liveD_ref, liveD_arr, ref0_eq, Option.bind_some, e1, e2, callK_ret, sl_zero, st5, fld5, ifD_B, if_true, e_spec_parts, e3, m1, e4, r1, r2, r3, st']
theorem d_lower (c : Cur) (s : Sk) (B : Nat) (h : c.ok B) (hB : B ≤ 1000000) : ∃ (t : Sk) (c' : Cur), F_spec_l1Cur_lower [curD c, sk s] = some (.ret [sk t] [curD c']) ∧ c'.ok (B + 40) := by
  obtain ⟨b, c1, e1, k1⟩ := d_one c 4 B h (by omega) (by omega)
  rw [t_spec_l1Cur_lower]
  cases b
  · obtain ⟨v2, c2, e2, l2, u2, k2⟩ := d_pick c1 3 _ k1 (by omega) (by omega)
    obtain ⟨v3, c3, e3, l3, u3, k3⟩ := d_pick c2 4 _ k2 (by omega) (by omega)
    obtain ⟨v4, c4, e4, l4, u4, k4⟩ := d_pick c3 3 _ k3 (by omega) (by omega)
    obtain ⟨v5, c5, e5, l5, u5, k5⟩ := d_pick c4 8 _ k4 (by omega) (by omega)
    have s1 : ∀ (x : Sk) (a : Int), stD 1 (sk x) (.ref 0 0) (I a) = some (sk (a, x.2)) := fun x a => by simp
    have s2 : ∀ (x : Sk) (a : Int), stD 1 (sk x) (.ref 0 1) (I a) = some (sk (x.1, a, x.2.2)) := fun x a => by simp
    have s3 : ∀ (x : Sk) (a : Int), stD 1 (sk x) (.ref 0 4) (I a) = some (sk (x.1, x.2.1, x.2.2.1, x.2.2.2.1, a)) := fun x a => by simp
    refine ⟨(IntKind.i64.wrap (s.1 - v2), IntKind.i64.wrap (s.2.1 - v3), s.2.2.1, s.2.2.2.1, IntKind.i64.wrap (s.2.2.2.2 - IntKind.i64.wrap (v4 - IntKind.i64.wrap (v5.tdiv 7)))), c5, ?_, k5.mono (by omega)⟩
    simp -implicitDefEqProofs only [box5, liveD_agg, liveD_ref, ref0_eq, Option.bind_some, e1, callK_ret, sl_zero, ifD_B, Bool.false_eq_true, if_false, atD_agg, List.drop_zero, List.drop_succ_cons, takeD_f, e2, e3, e4, e5, bin_sub, bin_quo, show ¬ (7 : Int) = 0 by decide, s1, s2, s3, fld5, st5]
  · obtain ⟨t, c2, e2, k2⟩ := d_anyStrike c1 _ k1 (by omega)
    refine ⟨t, c2, ?_, k2.mono (by omega)⟩
    simp -implicitDefEqProofs only [box5, liveD_agg, liveD_ref, ref0_eq, Option.bind_some, e1, callK_ret, sl_zero, ifD_B, if_true, e2, st5, fld5]
theorem curZ_eq (l : List Int) : curZ l = curD ⟨l, 0, 0⟩ := rfl
theorem box_cur (l : List Int) : boxD 3 (.agg [bytesD l, I 0, D.v (.int .u64 0)]) = some (curZ l) := by simp
theorem d_DrawFilingsFor (l : List Int) (h : Bytes l) : ∃ s t : Sk, F_spec_DrawFilingsFor [bytesD l] = some (.ret [sk s, sk t] []) := by
  obtain ⟨s, c1, e1, k1⟩ := d_anyStrike ⟨l, 0, 0⟩ 0 (cur0 h) (by omega)
  obtain ⟨t, c2, e2, k2⟩ := d_lower c1 s _ k1 (by omega)
  rw [← curZ_eq] at e1
  rw [t_spec_DrawFilingsFor]
  exact ⟨s, t, by simp -implicitDefEqProofs only [bldCur, box_cur, Option.bind_some, liveD_agg, liveD_ref, ref0_eq, e1, callK_ret, sl_zero, st5, fld5, e2]⟩
theorem d_DrawCastsLeft (l : List Int) (h : Bytes l) : ∃ (s t : Sk) (m : Int), F_spec_DrawCastsLeft [bytesD l] = some (.ret [sk s, sk t, I m] []) := by
  obtain ⟨s, c1, e1, k1⟩ := d_anyStrike ⟨l, 0, 0⟩ 0 (cur0 h) (by omega)
  obtain ⟨t, c2, e2, k2⟩ := d_lower c1 s _ k1 (by omega)
  obtain ⟨v3, c3, e3, l3, k3⟩ := d_among c2 [999, -1, 1000] _ k2 (by omega) (by simp) (by simp)
  obtain ⟨v4, c4, e4, l4, k4⟩ := d_among c3 [0, 1, 3, 10, v3] _ k3 (by omega) (by simp) (by simp)
  have m1 := mkInts (l := [999, -1, 1000])
  have m2 := mkInts (l := [0, 1, 3, 10, v3])
  simp only [List.map_cons, List.map_nil] at m1 m2
  rw [← curZ_eq] at e1
  rw [t_spec_DrawCastsLeft]
  exact ⟨s, t, v4, by simp -implicitDefEqProofs only [bldCur, box_cur, Option.bind_some, liveD_agg, liveD_ref, ref0_eq, e1, callK_ret, sl_zero, st5, fld5, e2, m1, e3, m2, e4]⟩
theorem d_DrawFileStrike (l : List Int) (h : Bytes l) : ∃ (s : Sk) (p b : Int), F_spec_DrawFileStrike [bytesD l] = some (.ret [sk s, I p, I b] []) := by
  obtain ⟨s, c1, e1, k1⟩ := d_anyStrike ⟨l, 0, 0⟩ 0 (cur0 h) (by omega)
  obtain ⟨v2, c2, e2, l2, u2, k2⟩ := d_pick c1 6 _ k1 (by omega) (by omega)
  obtain ⟨v3, c3, e3, l3, u3, k3⟩ := d_pick c2 12 _ k2 (by omega) (by omega)
  obtain ⟨v4, c4, e4, l4, k4⟩ := d_among c3 [999, 0, 1000] _ k3 (by omega) (by simp) (by simp)
  obtain ⟨v5, c5, e5, l5, k5⟩ := d_among c4 [1, 5, 30, 40, v4] _ k4 (by omega) (by simp) (by simp)
  have m1 := mkInts (l := [999, 0, 1000])
  have m2 := mkInts (l := [1, 5, 30, 40, v4])
  simp only [List.map_cons, List.map_nil] at m1 m2
  rw [← curZ_eq] at e1
  rw [t_spec_DrawFileStrike]
  exact ⟨s, IntKind.i64.wrap (v2 - IntKind.i64.wrap (v3.tdiv 11)), v5, by simp -implicitDefEqProofs only [bldCur, box_cur, Option.bind_some, liveD_agg, liveD_ref, ref0_eq, e1, callK_ret, sl_zero, e2, e3, bin_quo, show ¬ (11 : Int) = 0 by decide, if_false, bin_sub, m1, e4, m2, e5, st5, fld5]⟩
theorem tS (l : List UInt8) : (D.v (Value.string { data := { toList := l } })) = T ⟨⟨l⟩⟩ := rfl
def exK : List ByteArray := [⟨⟨[]⟩⟩, ⟨⟨[49, 47, 49, 47, 49, 47, 49, 47, 49]⟩⟩, ⟨⟨[48, 47, 49, 47, 49, 47, 49, 47, 49]⟩⟩, ⟨⟨[49, 47, 49, 47, 49, 47, 49]⟩⟩, ⟨⟨[57, 57, 57, 47, 57, 57, 57, 47, 57, 57, 57, 47, 57, 57, 57, 47, 57, 57, 57]⟩⟩, ⟨⟨[49, 48, 48, 48, 47, 49, 47, 49, 47, 49, 47, 49]⟩⟩, ⟨⟨[48, 49, 47, 49, 47, 49, 47, 49, 47, 49]⟩⟩]
theorem exK_mk : mkArr 1 [T ⟨⟨[]⟩⟩, T ⟨⟨[49, 47, 49, 47, 49, 47, 49, 47, 49]⟩⟩, T ⟨⟨[48, 47, 49, 47, 49, 47, 49, 47, 49]⟩⟩, T ⟨⟨[49, 47, 49, 47, 49, 47, 49]⟩⟩, T ⟨⟨[57, 57, 57, 47, 57, 57, 57, 47, 57, 57, 57, 47, 57, 57, 57, 47, 57, 57, 57]⟩⟩, T ⟨⟨[49, 48, 48, 48, 47, 49, 47, 49, 47, 49, 47, 49]⟩⟩, T ⟨⟨[48, 49, 47, 49, 47, 49, 47, 49, 47, 49]⟩⟩] = some (txs exK) := mkTxs (l := exK)
theorem exK_size : ∀ s ∈ exK, s.size ≤ 20 := by decide
theorem d_DrawParseStrike (l : List Int) (h : Bytes l) : ∃ s : ByteArray, F_spec_DrawParseStrike [bytesD l] = some (.ret [T s] []) ∧ s.size ≤ 1000 := by
  obtain ⟨m, c1, e1, g1, k1⟩ := d_strike ⟨l, 0, 0⟩ 0 (cur0 h) (by omega)
  rw [← curZ_eq] at e1
  obtain ⟨v2, c2, e2, l2, u2, k2⟩ := d_pick c1 5 _ k1 (by omega) (by omega)
  have ht := e_spec_maText g1
  have hz := skT_size g1
  rw [t_spec_DrawParseStrike]
  by_cases h0 : v2 = 0
  · obtain ⟨s, c3, e3, g3, k3⟩ := d_spoilt c2 (skT m) ⟨⟨[47, 45, 48, 49, 57]⟩⟩ _ k2 (by omega) (by omega) ⟨by decide, by decide⟩
    refine ⟨s, ?_, by omega⟩
    simp -implicitDefEqProofs only [tS, bldCur, box_cur, Option.bind_some, liveD_agg, liveD_ref, ref0_eq, e1, callK_ret, sl_zero, ht, e2, bin_eql, h0, decide_true, ifD_B, if_true, e3]
  by_cases h1 : v2 = 1
  · obtain ⟨s, c3, e3, g3, k3⟩ := d_of c2 exK _ k2 (by omega) (by decide) (by decide)
    refine ⟨s, ?_, by have := exK_size s g3; omega⟩
    simp -implicitDefEqProofs only [tS, bldCur, box_cur, Option.bind_some, liveD_agg, liveD_ref, ref0_eq, e1, callK_ret, sl_zero, ht, e2, bin_eql, h1, show ¬ (1 : Int) = 0 by decide, decide_false, decide_true, ifD_B, Bool.false_eq_true, if_false, if_true, exK_mk, e3]
  · refine ⟨skT m, ?_, by omega⟩
    simp -implicitDefEqProofs only [tS, bldCur, box_cur, Option.bind_some, liveD_agg, liveD_ref, ref0_eq, e1, callK_ret, sl_zero, ht, e2, bin_eql, h0, h1, decide_false, ifD_B, Bool.false_eq_true, if_false]
end Go.Proofs.YtlphibidnkjpdaaDoor
/-
  Numbers of up to ten digits read out of texts.
-/
namespace Go.Proofs.YtlphibidnkjpdaaDoor
open Go Go.V
set_option linter.unusedSimpArgs false

def readN (l : List UInt8) : Int :=
  if (1 ≤ l.length ∧ l.length ≤ 10) ∧ ¬ (l.head? = some 48 ∧ 1 < l.length) ∧ l.all dig = true then (valF 0 l : Int) else -1
def readM (s : ByteArray) : Int := readN (chars s)
theorem e_spec_meRead (s : ByteArray) (h : s.size ≤ 4294967296) : F_spec_meRead [T s] = some (.ret [I (readM s)] []) := by
  rw [t_spec_meRead]
  have hsz : s.size = (chars s).length := rfl
  by_cases h1 : 1 ≤ (s.size : Int) ∧ (s.size : Int) ≤ 10
  case neg =>
    have hr : readM s = -1 := by
      unfold readM readN
      rw [if_neg (by rintro ⟨⟨g1, g2⟩, _⟩; exact h1 (by omega))]
    rw [hr]
    simp -implicitDefEqProofs [e_spec_l1In, h1]
  have hpos : 0 < (chars s).length := by omega
  have hch0 : charD (T s) (I 0) = some (U ((chars s)[0].toNat : Int)) := by
    have := charD_nat (s := s) (k := .i64) (i := 0)
    rw [List.getElem?_eq_getElem hpos] at this
    exact this
  have hhead : (chars s).head? = some (chars s)[0] := by rw [List.head?_eq_getElem?, List.getElem?_eq_getElem hpos]
  have h48 : (48 : UInt8).toNat = 48 := rfl
  have hc48 : ((chars s)[0].toNat : Int) = 48 ↔ (chars s)[0] = 48 := ⟨fun e => UInt8.toNat_inj.1 (by omega), fun e => by rw [e]; rfl⟩
  by_cases h2 : (chars s)[0] = 48 ∧ 1 < (chars s).length
  · have hr : readM s = -1 := by
      unfold readM readN
      rw [if_neg (by rintro ⟨_, g, _⟩; exact g ⟨by rw [hhead, h2.1], h2.2⟩)]
    have hl : (1 : Int) < (s.size : Int) := by omega
    have hc := hc48.2 h2.1
    rw [hr]
    simp -implicitDefEqProofs [e_spec_l1In, h1, hch0, hc, hl]
  have hgo : ∀ (K : D → Option Out), ((bin BinOp.eql false [] (U ((chars s)[0].toNat : Int)) (D.v (Value.int IntKind.u8 48))).bind fun z_3 => (gate (D.tup []) (B false) false (some z_3)).bind fun z_4 => (gate (D.tup []) z_4 true (some (T s))).bind fun z_5 =>
      (gate (D.tup []) z_4 true (lenD true z_5)).bind fun z_6 => (gate (D.tup []) z_4 true (bin BinOp.gtr false [] z_6 (D.v (Value.int IntKind.i64 1)))).bind fun z_7 => (gate (D.tup []) (B false) false (pickD z_4 z_7 (D.v (Value.bool false)))).bind K) = K (B false) := by
    intro K
    by_cases e : ((chars s)[0].toNat : Int) = 48
    · have : ¬ (1 : Int) < (s.size : Int) := fun hl => h2 ⟨hc48.1 e, by omega⟩
      simp -implicitDefEqProofs [e, this]
    · simp -implicitDefEqProofs [e]
  simp only [lenD_str, Option.bind_some, e_spec_l1In, h1, and_self, decide_true, callK_ret, sl_zero, un_not, Bool.not_true, gate_f, Bool.false_eq_true, if_false, hch0]
  have hgo' := hgo
  simp only [gate_f, Bool.false_eq_true, if_false, Option.bind_some] at hgo'
  rw [hgo']
  simp only [pickD_B, Bool.false_eq_true, if_false, Option.bind_some, ifD_B]
  refine loop_wf_bind (fun r => r = _) (fun (a : Nat × Nat) => [T s, I (a.1 : Int), I (a.2 : Int)]) (fun a => a.2 ≤ s.size ∧ a.1 = valF 0 ((chars s).take a.2) ∧ ∀ b ∈ (chars s).take a.2, dig b = true) (fun a => s.size - a.2)
    (fun o => o = if (chars s).all dig = true then .ext 0 [I (valF 0 (chars s) : Int)] else .ret [I (-1)] []) ?_ (0, 0) ⟨Nat.zero_le _, rfl, by simp⟩ rfl ?_
  · rintro ⟨n, i⟩ ⟨g1, g2, g3⟩
    simp only at g1 g2 g3
    by_cases hi : i < s.size
    · have hl : i < (chars s).length := by rw [← hsz]; exact hi
      have hi' : (i : Int) < (s.size : Int) := by omega
      have hch : charD (T s) (I (i : Int)) = some (U ((chars s)[i].toNat : Int)) := by
        rw [charD_nat, List.getElem?_eq_getElem hl]
        rfl
      have htk : (chars s).take (i + 1) = (chars s).take i ++ [(chars s)[i]] := List.take_succ_eq_append_getElem hl
      by_cases hd : dig (chars s)[i] = true
      · left
        have hd' := dig_iff.1 hd
        have hn : n < 10 ^ i := by
          rw [g2]
          exact valF_lt i _ (by rw [List.length_take]; omega) g3
        have h10 : 10 ^ i ≤ 10 ^ 10 := Nat.pow_le_pow_right (by decide) (by omega)
        have hw : IntKind.i64.wrap ((i : Int) + 1) = ((i + 1 : Nat) : Int) := by rw [wrap_id (by omega) (by omega)]; omega
        have hw1 : IntKind.i64.wrap (10 * (n : Int)) = 10 * (n : Int) := wrap_id (by omega) (by omega)
        have hw2 : IntKind.u8.wrap (((chars s)[i].toNat : Int) - 48) = ((chars s)[i].toNat : Int) - 48 := wrap8 _ (by omega) (by omega)
        have hw3 : IntKind.i64.wrap (((chars s)[i].toNat : Int) - 48) = ((chars s)[i].toNat : Int) - 48 := wrap_id (by omega) (by omega)
        have hw4 : IntKind.i64.wrap (10 * (n : Int) + (((chars s)[i].toNat : Int) - 48)) = ((n * 10 + ((chars s)[i].toNat - 48) : Nat) : Int) := by rw [wrap_id (by omega) (by omega)]; omega
        have c1 : ¬ ((chars s)[i].toNat : Int) < 48 := by omega
        have c2 : ¬ (57 : Int) < ((chars s)[i].toNat : Int) := by omega
        refine ⟨(n * 10 + ((chars s)[i].toNat - 48), i + 1), ?_, ⟨by simp only; omega, ?_, ?_⟩, by simp only; omega⟩
        · simp only [sl_zero, sl_succ, lenD_str, Option.bind_some, bin_lss, hi', decide_true, ifD_B, if_true, hch, c1, decide_false, gate_f, Bool.false_eq_true, if_false, bin_gtr, c2, pickD_B, bin_mul, hw1, bin_sub, hw2, convD, hw3, bin_add, hw4, hw]
        · simp only
          rw [htk, valF_snoc, g2]
        · simp only
          rw [htk]
          intro b hb
          rcases List.mem_append.1 hb with hb | hb
          · exact g3 b hb
          · rw [List.mem_singleton.1 hb]; exact hd
      · right
        refine ⟨.ret [I (-1)] [], ?_, rfl, ?_⟩
        · by_cases c1 : ((chars s)[i].toNat : Int) < 48
          · simp -implicitDefEqProofs [hi', hch, c1]
          · have c2 : (57 : Int) < ((chars s)[i].toNat : Int) := by
              have : ¬ (48 ≤ (chars s)[i].toNat ∧ (chars s)[i].toNat ≤ 57) := fun e => hd (dig_iff.2 e)
              omega
            simp -implicitDefEqProofs [hi', hch, c1, c2]
        · rw [if_neg]
          intro hall
          exact hd (List.all_eq_true.1 hall _ (List.getElem_mem hl))
    · right
      have hi' : ¬ (i : Int) < (s.size : Int) := by omega
      have hie : (chars s).take i = chars s := List.take_of_length_le (by omega)
      rw [hie] at g2 g3
      refine ⟨.ext 0 [I (n : Int)], ?_, rfl, ?_⟩
      · simp -implicitDefEqProofs [hi']
      · rw [if_pos (List.all_eq_true.2 g3), g2]
  · rintro o rfl
    by_cases ha : (chars s).all dig = true
    · have hr : readM s = (valF 0 (chars s) : Int) := by
        unfold readM readN
        rw [if_pos ⟨⟨by omega, by omega⟩, fun g => h2 ⟨by have := g.1; rw [hhead] at this; exact Option.some.inj this, g.2⟩, ha⟩]
      rw [if_pos ha, hr]
      rfl
    · have hr : readM s = -1 := by
        unfold readM readN
        rw [if_neg (fun g => ha g.2.2)]
      rw [if_neg ha, hr]
      rfl
theorem decDigits_lenM {u : Nat} (h : u < 10000000000) : (Lib.decDigits u).length ≤ 10 := numT_size 9 u (by omega)
theorem readN_dec {u : Nat} (h : u < 10000000000) : readN (Lib.decDigits u) = (u : Int) := by
  have h1 := decDigits_ne u
  have h2 := decDigits_lenM h
  have h3 : 1 ≤ (Lib.decDigits u).length := List.length_pos_iff.2 h1
  have hno : ¬ ((Lib.decDigits u).head? = some 48 ∧ 1 < (Lib.decDigits u).length) := by
    rintro ⟨g1, g2⟩
    by_cases hu : 0 < u
    · cases hd : Lib.decDigits u with
      | nil => exact h1 hd
      | cons b t =>
        rw [hd] at g1
        exact decDigits_head u hu b t hd (by simpa using g1)
    · have : u = 0 := by omega
      subst this
      rw [Lib.decDigits_one (by decide)] at g2
      simp at g2
  unfold readN
  rw [if_pos ⟨⟨h3, h2⟩, hno, List.all_eq_true.2 (decDigits_dig u)⟩, valF_dec]
theorem readM_int {n : Int} (h0 : 0 ≤ n) (h1 : n < 10000000000) : readM (intT n) = n := by
  unfold readM
  rw [chars_intT n h0, readN_dec (by omega)]
  omega
theorem readM_canon {w : ByteArray} {n : Int} (h : readM w = n) (h0 : 0 ≤ n) : w = intT n := by
  unfold readM readN at h
  split at h
  · rename_i hc
    obtain ⟨⟨g1, g2⟩, g3, g4⟩ := hc
    subst h
    apply chars_inj
    rw [chars_intT _ h0]
    have : ((valF 0 (chars w) : Int)).toNat = valF 0 (chars w) := by omega
    rw [this]
    refine (decDigits_val ((chars w).length - 1) (chars w) (by omega) (List.all_eq_true.1 g4) fun e => ?_).symm
    rcases Nat.lt_or_ge 1 (chars w).length with g | g
    · exact absurd ⟨e, g⟩ g3
    · omega
  · omega

theorem reads_M : Reads readM 10000000000 := ⟨by decide, fun _ h0 h1 => readM_int h0 h1, fun _ h => readM_canon rfl h⟩
end Go.Proofs.YtlphibidnkjpdaaDoor
/-
  Melts: what the functions compute.
-/
namespace Go.Proofs.YtlphibidnkjpdaaDoor
open Go Go.V
set_option linter.unusedSimpArgs false

abbrev Me := Int × Int × Int
abbrev me (m : Me) : D := .agg [I m.1, I m.2.1, I m.2.2]
abbrev mes (l : List Me) : D := .arr 3 (l.map me)
def meL (m : Me) : List Int := [m.1, m.2.1, m.2.2]
def in6 (x : Int) : Bool := decide (0 ≤ x ∧ x ≤ 1000000)
def goodM (m : Me) : Bool := in6 m.1 && in6 m.2.1 && in6 m.2.2
theorem goodM_iff {m : Me} : goodM m = true ↔ (0 ≤ m.1 ∧ m.1 ≤ 1000000) ∧ (0 ≤ m.2.1 ∧ m.2.1 ≤ 1000000) ∧ (0 ≤ m.2.2 ∧ m.2.2 ≤ 1000000) := by
  simp only [goodM, in6, Bool.and_eq_true, decide_eq_true_eq, and_assoc]
def gM (m : Me) : Int := m.1 + m.2.1 + m.2.2
abbrev m0 : Me := (0, 0, 0)
theorem boxM (m : Me) : boxD 3 (me m) = some (me m) := by simp
theorem fldM (m : Me) : fldD true 3 0 (me m) = some (me m) := by simp
theorem stM (a m : Me) : stD 3 (me a) (.ref 0 0) (me m) = some (me m) := by simp
theorem stZ (m : Me) : stD 3 (.agg [I 0, I 0, I 0]) (.ref 0 0) (me m) = some (me m) := by simp
theorem bldM (a b c : Int) : bldD [(0, 1), (1, 1), (2, 1)] [I 0, I 0, I 0] [I a, I b, I c] = some (me (a, b, c)) := by simp [bldD, fillD]
theorem bldm0 : bldD [] [I 0, I 0, I 0] [] = some (me m0) := by simp [bldD, fillD]
theorem sM0 (m : Me) (a : Int) : stD 1 (me m) (.ref 0 0) (I a) = some (me (a, m.2)) := by simp
theorem sM1 (m : Me) (a : Int) : stD 1 (me m) (.ref 0 1) (I a) = some (me (m.1, a, m.2.2)) := by simp
theorem sM2 (m : Me) (a : Int) : stD 1 (me m) (.ref 0 2) (I a) = some (me (m.1, m.2.1, a)) := by simp
theorem neqM (m : Me) : bin .neq false [1, 1, 1] (me m) (me m) = some (B false) := by simp [bin, allEq]
theorem eqlM (m : Me) : bin .eql false [1, 1, 1] (me m) (me m) = some (B true) := by simp [bin, allEq]

theorem e_impl_isGrams (n : Int) : F_impl_isGrams [I n] = some (.ret [B (in6 n)] []) := by
  rw [t_impl_isGrams]
  simp -implicitDefEqProofs only [e_impl_within, callK_ret, sl_zero, in6]
theorem e_impl_IsMelt (m : Me) : F_impl_IsMelt [me m] = some (.ret [B (goodM m)] []) := by
  rw [t_impl_IsMelt]
  cases h1 : in6 m.1 <;> cases h2 : in6 m.2.1 <;> cases h3 : in6 m.2.2 <;> simp -implicitDefEqProofs [e_impl_isGrams, goodM, h1, h2, h3]
theorem e_spec_meParts (m : Me) : F_spec_meParts [me m] = some (.ret [intsL (meL m)] []) := by
  rw [t_spec_meParts]
  have := mkInts (l := [m.1, m.2.1, m.2.2])
  simp only [List.map_cons, List.map_nil] at this
  simp -implicitDefEqProofs only [boxM, Option.bind_some, liveD_agg, atD_agg, List.drop_zero, List.drop_succ_cons, takeD_f, this, meL]
theorem e_spec_meGood (m : Me) : F_spec_meGood [me m] = some (.ret [B (goodM m)] []) := by
  rw [t_spec_meGood]
  have ha := e_spec_l1All (meL m) 0 1000000 (by simp [meL])
  have e : ((meL m).all fun x => decide (0 ≤ x ∧ x ≤ 1000000)) = goodM m := by simp [meL, goodM, in6, Bool.and_assoc]
  rw [e] at ha
  simp -implicitDefEqProofs only [boxM, fldM, Option.bind_some, e_spec_meParts, callK_ret, sl_zero, ha]
theorem e_impl_grams {m : Me} (h : goodM m = true) : F_impl_Melt_grams [me m] = some (.ret [I (gM m)] []) := by
  rw [t_impl_Melt_grams]
  obtain ⟨⟨a1, a2⟩, ⟨b1, b2⟩, c1, c2⟩ := goodM_iff.1 h
  have w1 : IntKind.i64.wrap (m.1 + m.2.1) = m.1 + m.2.1 := wrap_id (by omega) (by omega)
  have w2 : IntKind.i64.wrap (m.1 + m.2.1 + m.2.2) = gM m := wrap_id (by omega) (by omega)
  simp -implicitDefEqProofs only [boxM, Option.bind_some, liveD_agg, atD_agg, List.drop_zero, List.drop_succ_cons, takeD_f, bin_add, w1, w2]
theorem e_spec_meGrams {m : Me} (h : goodM m = true) : F_spec_meGrams [me m] = some (.ret [I (gM m)] []) := by
  rw [t_spec_meGrams]
  obtain ⟨⟨a1, a2⟩, ⟨b1, b2⟩, c1, c2⟩ := goodM_iff.1 h
  have w1 : IntKind.i64.wrap (m.1 + m.2.1) = m.1 + m.2.1 := wrap_id (by omega) (by omega)
  have w2 : IntKind.i64.wrap (m.1 + m.2.1 + m.2.2) = gM m := wrap_id (by omega) (by omega)
  simp -implicitDefEqProofs only [boxM, Option.bind_some, liveD_agg, atD_agg, List.drop_zero, List.drop_succ_cons, takeD_f, bin_add, w1, w2]
theorem gM_bd {m : Me} (h : goodM m = true) : 0 ≤ gM m ∧ gM m ≤ 3000000 := by
  obtain ⟨⟨a1, a2⟩, ⟨b1, b2⟩, c1, c2⟩ := goodM_iff.1 h
  unfold gM
  omega
theorem e_impl_GramsOf (m : Me) : F_impl_GramsOf [me m] = some (.ret [I (if goodM m = true then gM m else 0), B (goodM m)] []) := by
  rw [t_impl_GramsOf]
  cases h : goodM m
  · simp -implicitDefEqProofs only [boxM, fldM, Option.bind_some, e_impl_IsMelt, h, callK_ret, sl_zero, un_not, Bool.not_false, ifD_B, if_true, Bool.false_eq_true, if_false]
  · simp -implicitDefEqProofs only [boxM, fldM, Option.bind_some, e_impl_IsMelt, h, callK_ret, sl_zero, un_not, Bool.not_true, ifD_B, if_true, Bool.false_eq_true, if_false, e_impl_grams h]

/-! ### sums -/
def bdM (k : Int) (m : Me) : Prop := (0 ≤ m.1 ∧ m.1 ≤ k) ∧ (0 ≤ m.2.1 ∧ m.2.1 ≤ k) ∧ (0 ≤ m.2.2 ∧ m.2.2 ≤ k)
def plM (a b : Me) : Me := (a.1 + b.1, a.2.1 + b.2.1, a.2.2 + b.2.2)
theorem e_impl_plus {a b : Me} (ha : bdM 1000000000000 a) (hb : bdM 1000000 b) : F_impl_Melt_plus [me a, me b] = some (.ret [me (plM a b)] []) := by
  rw [t_impl_Melt_plus]
  obtain ⟨⟨a1, a2⟩, ⟨a3, a4⟩, a5, a6⟩ := ha
  obtain ⟨⟨b1, b2⟩, ⟨b3, b4⟩, b5, b6⟩ := hb
  have w1 : IntKind.i64.wrap (a.1 + b.1) = a.1 + b.1 := wrap_id (by omega) (by omega)
  have w2 : IntKind.i64.wrap (a.2.1 + b.2.1) = a.2.1 + b.2.1 := wrap_id (by omega) (by omega)
  have w3 : IntKind.i64.wrap (a.2.2 + b.2.2) = a.2.2 + b.2.2 := wrap_id (by omega) (by omega)
  simp -implicitDefEqProofs only [boxM, Option.bind_some, liveD_agg, atD_agg, List.drop_zero, List.drop_succ_cons, takeD_f, bin_add, w1, w2, w3, bldM, stZ, fldM, plM]
theorem e_spec_meJoin {a b : Me} (ha : bdM 1000000000000 a) (hb : bdM 1000000 b) : F_spec_meJoin [me a, me b] = some (.ret [me (plM a b)] []) := by
  rw [t_spec_meJoin]
  obtain ⟨⟨a1, a2⟩, ⟨a3, a4⟩, a5, a6⟩ := ha
  obtain ⟨⟨b1, b2⟩, ⟨b3, b4⟩, b5, b6⟩ := hb
  have w1 : IntKind.i64.wrap (a.1 + b.1) = a.1 + b.1 := wrap_id (by omega) (by omega)
  have w2 : IntKind.i64.wrap (a.2.1 + b.2.1) = a.2.1 + b.2.1 := wrap_id (by omega) (by omega)
  have w3 : IntKind.i64.wrap (a.2.2 + b.2.2) = a.2.2 + b.2.2 := wrap_id (by omega) (by omega)
  simp -implicitDefEqProofs only [boxM, Option.bind_some, liveD_agg, atD_agg, List.drop_zero, List.drop_succ_cons, takeD_f, bin_add, w1, w2, w3, bldM, stZ, fldM, plM]
theorem bd_pl {a b : Me} {k j : Int} (ha : bdM k a) (hb : bdM j b) : bdM (k + j) (plM a b) := by
  obtain ⟨⟨a1, a2⟩, ⟨a3, a4⟩, a5, a6⟩ := ha
  obtain ⟨⟨b1, b2⟩, ⟨b3, b4⟩, b5, b6⟩ := hb
  unfold bdM plM
  dsimp only
  omega
theorem bd_mono {a : Me} {k j : Int} (ha : bdM k a) (h : k ≤ j) : bdM j a := by
  obtain ⟨⟨a1, a2⟩, ⟨a3, a4⟩, a5, a6⟩ := ha
  unfold bdM
  omega
def sumM (l : List Me) : Me := l.foldl plM m0
def joB (l : List Me) : Bool := l.all goodM && decide (l.length ≤ 20) && goodM (sumM l)
def joR (l : List Me) : Me := if joB l = true then sumM l else m0
theorem allI_all {β : Type} (p : β → Bool) : ∀ (l : List β) (i : Nat), allI (fun _ x => p x) i l = l.all p
  | [], _ => rfl
  | x :: l, i => by simp only [allI, allI_all p l, List.all_cons]
theorem elM {l : List Me} {i : Nat} (h : i < l.length) : elemD 3 (mes l) (I (i : Int)) = some [I l[i].1, I l[i].2.1, I l[i].2.2] := by simp [h]
theorem ldM (a b c : Int) : (ldD true 3 (.ptr [I a, I b, I c])).bind chkV = some (me (a, b, c)) := rfl
theorem e_impl_JoinMelts (l : List Me) (hl : l.length ≤ 1000) : F_impl_JoinMelts [mes l] = some (.ret [me (joR l), B (joB l)] []) := by
  rw [t_impl_JoinMelts]
  simp -implicitDefEqProofs only [bldm0, stZ, Option.bind_some, lenD_arr, List.length_map]
  refine loop_bind _ (loop_allf l (fun i a => [mes l, me m0, me a, mes l, I l.length, I i]) (fun i a => bdM ((i : Int) * 1000000) a) (fun _ x => goodM x) plM (.ret [me m0, B false] []) (fun a => .ext 0 [mes l, me m0, me a]) m0 (fun i a hi ha => ⟨?_, fun hg => ?_⟩) (fun a _ => ?_) rfl (fun _ => rfl) ⟨⟨Int.le_refl _, by simp⟩, ⟨Int.le_refl _, by simp⟩, Int.le_refl _, by simp⟩ rfl) ?_
  · have hi' : (i : Int) < (l.length : Int) := by omega
    have hw : IntKind.i64.wrap ((i : Int) + 1) = ((i + 1 : Nat) : Int) := by rw [wrap_id (by omega) (by omega)]; omega
    have hel := elM hi
    cases hg : goodM l[i]
    · simp -implicitDefEqProofs only [sl_zero, sl_succ, bin_lss, hi', decide_true, Option.bind_some, ifD_B, if_true, hel, Option.map_some, ldM, stZ, fldM, e_impl_IsMelt, hg, callK_ret, un_not, Bool.not_false, bldm0, stM, Bool.false_eq_true, if_false]
    · have hp := e_impl_plus (a := a) (b := l[i]) (bd_mono ha (by omega)) (goodM_iff.1 hg)
      simp -implicitDefEqProofs only [sl_zero, sl_succ, bin_lss, hi', decide_true, Option.bind_some, ifD_B, if_true, hel, Option.map_some, ldM, stZ, fldM, e_impl_IsMelt, hg, callK_ret, un_not, Bool.not_true, stM, Bool.false_eq_true, if_false, hp, bin_add, hw]
  · have := bd_pl ha (goodM_iff.1 hg : bdM 1000000 l[i])
    exact bd_mono this (by omega)
  · simp
  · rw [allI_all]
    cases hg : l.all goodM
    · have hb : joB l = false := by simp only [joB, hg, Bool.false_and]
      have hr : joR l = m0 := by simp only [joR, hb, Bool.false_eq_true, if_false]
      rw [hb, hr]
      rfl
    · by_cases h20 : l.length ≤ 20
      · have hn : ¬ (20 : Int) < (l.length : Int) := by omega
        have hb : joB l = goodM (sumM l) := by simp only [joB, hg, h20, decide_true, Bool.true_and]
        have hr : joR l = if goodM (sumM l) = true then sumM l else m0 := by simp only [joR, hb]
        rw [hb, hr]
        cases hs : goodM (sumM l)
        · simp -implicitDefEqProofs only [if_true, outK_ext, Nat.beq_refl, ifN_B, sl_zero, sl_succ, lenD_arr, List.length_map, Option.bind_some, bin_gtr, hn, decide_false, gate_f, Bool.false_eq_true, if_false, fldM, gateC_f, e_impl_IsMelt, show List.foldl plM m0 l = sumM l from rfl, hs, callK_ret, nrmK_some, un_not, Bool.not_false, pickD_B, ifD_B, bldm0, stM]
        · simp -implicitDefEqProofs only [if_true, outK_ext, Nat.beq_refl, ifN_B, sl_zero, sl_succ, lenD_arr, List.length_map, Option.bind_some, bin_gtr, hn, decide_false, gate_f, Bool.false_eq_true, if_false, fldM, gateC_f, e_impl_IsMelt, show List.foldl plM m0 l = sumM l from rfl, hs, callK_ret, nrmK_some, un_not, Bool.not_true, pickD_B, ifD_B, stM]
      · have hn : (20 : Int) < (l.length : Int) := by omega
        have hb : joB l = false := by simp only [joB, h20, decide_false, Bool.and_false, Bool.false_and]
        have hr : joR l = m0 := by simp only [joR, hb, Bool.false_eq_true, if_false]
        rw [hb, hr]
        simp -implicitDefEqProofs only [if_true, outK_ext, Nat.beq_refl, ifN_B, sl_zero, sl_succ, lenD_arr, List.length_map, Option.bind_some, bin_gtr, hn, decide_true, gate_f, gate_t, gate_s, Bool.false_eq_true, if_false, gateC_f, gateC_s, nrmK_some, pickD_B, ifD_B, bldm0, stM, fldM]
theorem e_spec_meIf (m : Me) : F_spec_meIf [me m] = some (.ret [me (if goodM m = true then m else m0), B (goodM m)] []) := by
  rw [t_spec_meIf]
  cases h : goodM m
  · simp -implicitDefEqProofs only [boxM, fldM, Option.bind_some, e_spec_meGood, h, callK_ret, sl_zero, un_not, Bool.not_false, ifD_B, if_true, bldm0, stZ, Bool.false_eq_true, if_false]
  · simp -implicitDefEqProofs only [boxM, fldM, Option.bind_some, e_spec_meGood, h, callK_ret, sl_zero, un_not, Bool.not_true, ifD_B, if_true, stZ, Bool.false_eq_true, if_false]
theorem tpM (m : Me) (ds : List D) : tupAt (.tup (me m :: ds)) 0 = some (me m) := rfl
theorem tpM1 (m : Me) (v : Value) (ds : List D) : tupAt (.tup (me m :: .v v :: ds)) 1 = some (.v v) := rfl
theorem e_spec_JoinMelts (l : List Me) (hl : l.length ≤ 1000) : F_spec_JoinMelts [mes l] = some (.ret [me (joR l), B (joB l)] []) := by
  rw [t_spec_JoinMelts]
  by_cases h20 : l.length ≤ 20
  case neg =>
    have hn : (20 : Int) < (l.length : Int) := by omega
    have hb : joB l = false := by simp only [joB, h20, decide_false, Bool.and_false, Bool.false_and]
    have hr : joR l = m0 := by simp only [joR, hb, Bool.false_eq_true, if_false]
    rw [hb, hr]
    simp -implicitDefEqProofs only [lenD_arr, List.length_map, Option.bind_some, bin_gtr, hn, decide_true, ifD_B, if_true, bldm0, stZ, fldM]
  have hn : ¬ (20 : Int) < (l.length : Int) := by omega
  simp -implicitDefEqProofs only [lenD_arr, List.length_map, Option.bind_some, bin_gtr, hn, decide_false, ifD_B, Bool.false_eq_true, if_false]
  refine loop_bind _ (loop_allf l (fun i a => [me m0, me a, mes l, I l.length, I i]) (fun i a => bdM ((i : Int) * 1000000) a) (fun _ x => goodM x) plM (.ret [me m0, B false] []) (fun a => .ext 0 [me m0, me a]) m0 (fun i a hi ha => ⟨?_, fun hg => ?_⟩) (fun a _ => ?_) rfl (fun _ => rfl) ⟨⟨Int.le_refl _, by simp⟩, ⟨Int.le_refl _, by simp⟩, Int.le_refl _, by simp⟩ rfl) ?_
  · have hi' : (i : Int) < (l.length : Int) := by omega
    have hw : IntKind.i64.wrap ((i : Int) + 1) = ((i + 1 : Nat) : Int) := by rw [wrap_id (by omega) (by omega)]; omega
    have hel := elM hi
    cases hg : goodM l[i]
    · simp -implicitDefEqProofs only [sl_zero, sl_succ, bin_lss, hi', decide_true, Option.bind_some, ifD_B, if_true, hel, Option.map_some, ldM, stZ, fldM, e_spec_meGood, hg, callK_ret, un_not, Bool.not_false, bldm0, stM, Bool.false_eq_true, if_false]
    · have hp := e_spec_meJoin (a := a) (b := l[i]) (bd_mono ha (by omega)) (goodM_iff.1 hg)
      simp -implicitDefEqProofs only [sl_zero, sl_succ, bin_lss, hi', decide_true, Option.bind_some, ifD_B, if_true, hel, Option.map_some, ldM, stZ, fldM, e_spec_meGood, hg, callK_ret, un_not, Bool.not_true, stM, Bool.false_eq_true, if_false, hp, bin_add, hw]
  · have := bd_pl ha (goodM_iff.1 hg : bdM 1000000 l[i])
    exact bd_mono this (by omega)
  · simp
  · rw [allI_all]
    cases hg : l.all goodM
    · have hb : joB l = false := by simp only [joB, hg, Bool.false_and]
      have hr : joR l = m0 := by simp only [joR, hb, Bool.false_eq_true, if_false]
      rw [hb, hr]
      rfl
    · have hb : joB l = goodM (sumM l) := by simp only [joB, hg, h20, decide_true, Bool.true_and]
      have hr : joR l = if goodM (sumM l) = true then sumM l else m0 := by simp only [joR, hb]
      rw [hb, hr]
      simp -implicitDefEqProofs only [if_true, outK_ext, Nat.beq_refl, ifN_B, sl_zero, sl_succ, Option.bind_some, fldM, show List.foldl plM m0 l = sumM l from rfl, e_spec_meIf, callK_ret, tpM, tpM1, stM]
end Go.Proofs.YtlphibidnkjpdaaDoor
/-
  Melts: takes, shares, dross.
-/
namespace Go.Proofs.YtlphibidnkjpdaaDoor
open Go Go.V
set_option linter.unusedSimpArgs false

theorem mul_b {x g a b : Int} (h1 : 0 ≤ x) (h2 : x ≤ a) (h3 : 0 ≤ g) (h4 : g ≤ b) : 0 ≤ x * g ∧ x * g ≤ a * b :=
  ⟨Int.mul_nonneg h1 h3, Int.mul_le_mul h2 h4 h3 (Int.le_trans h1 h2)⟩
theorem tk_one {t g k : Int} (h1 : 0 ≤ t) (h2 : 0 < g) (h3 : g ≤ k) : 0 ≤ t * g / k ∧ t * g / k ≤ t ∧ t * g / k * k ≤ t * g := by
  have hk : 0 < k := by omega
  refine ⟨Int.ediv_nonneg (Int.mul_nonneg h1 (by omega)) (by omega), ?_, Int.ediv_mul_le _ (by omega)⟩
  exact Int.ediv_le_of_le_mul hk (Int.mul_le_mul_of_nonneg_left h3 h1)
theorem tk_two {t a g k : Int} (h1 : 0 ≤ t) (h1' : 0 ≤ a) (hs : t + a ≤ k) (h2 : 0 < g) (h3 : g ≤ k) : t * g / k + a * g / k ≤ g := by
  have hk : 0 < k := by omega
  have e1 := (tk_one h1 h2 h3).2.2
  have e2 := (tk_one h1' h2 h3).2.2
  have e3 : (t + a) * g ≤ k * g := Int.mul_le_mul_of_nonneg_right hs (by omega)
  have e4 : (t * g / k + a * g / k) * k ≤ g * k := by
    rw [Int.add_mul] at e3 ⊢
    rw [Int.mul_comm g k]
    omega
  exact Int.le_of_mul_le_mul_right e4 hk

/-! ### takes -/
def tT (m : Me) (g : Int) : Int := m.2.1 * g / gM m
def tA (m : Me) (g : Int) : Int := m.2.2 * g / gM m
def paM (m : Me) (g : Int) : Me := if 0 < g then (g - tT m g - tA m g, tT m g, tA m g) else m0
def reM (m : Me) (g : Int) : Me := (m.1 - (paM m g).1, m.2.1 - (paM m g).2.1, m.2.2 - (paM m g).2.2)
def asB (m : Me) (g : Int) : Bool := goodM m && decide (0 ≤ g ∧ g ≤ gM m)
def tkB (m : Me) (g : Int) : Bool := asB m g && decide ((paM m g).1 ≤ m.1)
def tkP (m : Me) (g : Int) : Me := if tkB m g = true then paM m g else m0
def tkR (m : Me) (g : Int) : Me := if tkB m g = true then reM m g else m0
theorem pa_facts {m : Me} {g : Int} (h : goodM m = true) (h0 : 0 ≤ g) (h1 : g ≤ gM m) : 0 ≤ (paM m g).1 ∧ (paM m g).1 ≤ g ∧ (0 ≤ (paM m g).2.1 ∧ (paM m g).2.1 ≤ m.2.1) ∧ (0 ≤ (paM m g).2.2 ∧ (paM m g).2.2 ≤ m.2.2) ∧ (paM m g).1 + (paM m g).2.1 + (paM m g).2.2 = g := by
  obtain ⟨⟨a1, a2⟩, ⟨b1, b2⟩, c1, c2⟩ := goodM_iff.1 h
  unfold paM
  by_cases hg : 0 < g
  · rw [if_pos hg]
    have e1 := tk_one b1 hg h1
    have e2 := tk_one c1 hg h1
    have e3 := tk_two b1 c1 (k := gM m) (by unfold gM; omega) hg h1
    dsimp only [tT, tA]
    omega
  · rw [if_neg hg]
    dsimp only
    omega
theorem good_re {m : Me} {g : Int} (h : goodM m = true) (h0 : 0 ≤ g) (h1 : g ≤ gM m) : goodM (reM m g) = decide ((paM m g).1 ≤ m.1) := by
  have hf := pa_facts h h0 h1
  have hm := goodM_iff.1 h
  rw [Bool.eq_iff_iff, goodM_iff, decide_eq_true_eq]
  unfold reM
  dsimp only
  omega
theorem asB_neg {m : Me} {g : Int} (h : goodM m = true) (hr : ¬ (0 ≤ g ∧ g ≤ gM m)) : tkB m g = false := by simp only [tkB, asB, h, hr, decide_false, Bool.and_false, Bool.false_and]
theorem asB_pos {m : Me} {g : Int} (h : goodM m = true) (hr : 0 ≤ g ∧ g ≤ gM m) : tkB m g = decide ((paM m g).1 ≤ m.1) := by simp only [tkB, asB, h, hr, and_self, decide_true, Bool.true_and]
theorem e_impl_TakeMelt (m : Me) (g : Int) : F_impl_TakeMelt [me m, I g] = some (.ret [me (tkP m g), me (tkR m g), B (tkB m g)] []) := by
  rw [t_impl_TakeMelt]
  unfold tkP tkR
  cases h : goodM m
  · have hb : tkB m g = false := by simp only [tkB, asB, h, Bool.false_and]
    rw [hb]
    simp -implicitDefEqProofs only [boxM, fldM, Option.bind_some, e_impl_IsMelt, h, callK_ret, sl_zero, un_not, Bool.not_false, gate_f, if_true, gateC_f, pickD_B, ifD_B, bldm0, stZ, Bool.false_eq_true, if_false]
  have hG := e_impl_grams h
  by_cases hr : 0 ≤ g ∧ g ≤ gM m
  case neg =>
    rw [asB_neg h hr]
    simp -implicitDefEqProofs only [boxM, fldM, Option.bind_some, e_impl_IsMelt, h, callK_ret, sl_zero, un_not, Bool.not_true, Bool.not_false, gate_f, gateC_f, hG, nrmK_some, e_impl_within, hr, decide_false, if_true, pickD_B, ifD_B, bldm0, stZ, Bool.false_eq_true, if_false]
  rw [asB_pos h hr]
  have hf := pa_facts h hr.1 hr.2
  have hre := good_re h hr.1 hr.2
  obtain ⟨⟨a1, a2⟩, ⟨b1, b2⟩, c1, c2⟩ := goodM_iff.1 h
  have hgb := gM_bd h
  have v1 : IntKind.i64.wrap (m.1 - (paM m g).1) = (reM m g).1 := wrap_id (by omega) (by omega)
  have v2 : IntKind.i64.wrap (m.2.1 - (paM m g).2.1) = (reM m g).2.1 := wrap_id (by omega) (by omega)
  have v3 : IntKind.i64.wrap (m.2.2 - (paM m g).2.2) = (reM m g).2.2 := wrap_id (by omega) (by omega)
  by_cases hg : 0 < g
  · have hp : paM m g = (g - tT m g - tA m g, tT m g, tA m g) := by unfold paM; rw [if_pos hg]
    have m1 := mul_b b1 b2 (Int.le_of_lt hg) (show g ≤ 3000000 by omega)
    have m2 := mul_b c1 c2 (Int.le_of_lt hg) (show g ≤ 3000000 by omega)
    have w1 : IntKind.i64.wrap (m.2.1 * g) = m.2.1 * g := wrap_id (by omega) (by omega)
    have w2 : IntKind.i64.wrap (m.2.2 * g) = m.2.2 * g := wrap_id (by omega) (by omega)
    rw [hp] at hf v1 v2 v3 hre
    dsimp only at hf v1 v2 v3 hre
    have q1 : IntKind.i64.wrap ((m.2.1 * g).tdiv (gM m)) = tT m g := by
      rw [Int.tdiv_eq_ediv_of_nonneg m1.1]
      exact wrap_id (by unfold tT at hf; omega) (by unfold tT at hf; omega)
    have q2 : IntKind.i64.wrap ((m.2.2 * g).tdiv (gM m)) = tA m g := by
      rw [Int.tdiv_eq_ediv_of_nonneg m2.1]
      exact wrap_id (by unfold tA at hf; omega) (by unfold tA at hf; omega)
    have w3 : IntKind.i64.wrap (g - tT m g) = g - tT m g := wrap_id (by omega) (by omega)
    have w4 : IntKind.i64.wrap (g - tT m g - tA m g) = g - tT m g - tA m g := wrap_id (by omega) (by omega)
    have hn : ¬ gM m = 0 := by omega
    have hpr : me (reM m g) = .agg [I (reM m g).1, I (reM m g).2.1, I (reM m g).2.2] := rfl
    rw [hp]
    dsimp only
    by_cases hle : g - tT m g - tA m g ≤ m.1
    · rw [decide_eq_true hle] at hre ⊢
      simp -implicitDefEqProofs only [boxM, fldM, Option.bind_some, e_impl_IsMelt, h, callK_ret, sl_zero, un_not, Bool.not_true, gate_f, gateC_f, hG, nrmK_some, e_impl_within, hr, and_self, decide_true, pickD_B, ifD_B, bldm0, stZ, Bool.false_eq_true, if_false, bin_gtr, hg, if_true, liveD_agg, atD_agg, List.drop_zero, List.drop_succ_cons, takeD_f, bin_mul, w1, w2, bin_quo, hn, q1, q2, sM0, sM1, sM2, bin_sub, w3, w4, v1, v2, v3, bldM, hre]
    · rw [decide_eq_false hle] at hre ⊢
      simp -implicitDefEqProofs only [boxM, fldM, Option.bind_some, e_impl_IsMelt, h, callK_ret, sl_zero, un_not, Bool.not_true, Bool.not_false, gate_f, gateC_f, hG, nrmK_some, e_impl_within, hr, and_self, decide_true, pickD_B, ifD_B, bldm0, stZ, Bool.false_eq_true, if_false, bin_gtr, hg, if_true, liveD_agg, atD_agg, List.drop_zero, List.drop_succ_cons, takeD_f, bin_mul, w1, w2, bin_quo, hn, q1, q2, sM0, sM1, sM2, bin_sub, w3, w4, v1, v2, v3, bldM, hre]
  · have hp : paM m g = m0 := by unfold paM; rw [if_neg hg]
    rw [hp] at v1 v2 v3 hre ⊢
    have hle : m0.1 ≤ m.1 := a1
    rw [decide_eq_true hle] at hre ⊢
    dsimp only at v1 v2 v3
    simp -implicitDefEqProofs only [boxM, fldM, Option.bind_some, e_impl_IsMelt, h, callK_ret, sl_zero, un_not, Bool.not_true, gate_f, gateC_f, hG, nrmK_some, e_impl_within, hr, and_self, decide_true, pickD_B, ifD_B, bldm0, stZ, Bool.false_eq_true, if_false, bin_gtr, hg, decide_false, if_true, liveD_agg, atD_agg, List.drop_zero, List.drop_succ_cons, takeD_f, bin_sub, v1, v2, v3, bldM, hre]
theorem e_spec_TakeMelt (m : Me) (g : Int) : F_spec_TakeMelt [me m, I g] = some (.ret [me (tkP m g), me (tkR m g), B (tkB m g)] []) := by
  rw [t_spec_TakeMelt]
  unfold tkP tkR
  cases h : goodM m
  · have hb : tkB m g = false := by simp only [tkB, asB, h, Bool.false_and]
    rw [hb]
    simp -implicitDefEqProofs only [boxM, fldM, Option.bind_some, e_spec_meGood, h, callK_ret, sl_zero, un_not, Bool.not_false, gate_f, if_true, gateC_f, pickD_B, ifD_B, bldm0, stZ, Bool.false_eq_true, if_false]
  have hG := e_spec_meGrams h
  by_cases hr : 0 ≤ g ∧ g ≤ gM m
  case neg =>
    rw [asB_neg h hr]
    simp -implicitDefEqProofs only [boxM, fldM, Option.bind_some, e_spec_meGood, h, callK_ret, sl_zero, un_not, Bool.not_true, Bool.not_false, gate_f, gateC_f, hG, nrmK_some, e_spec_l1In, hr, decide_false, if_true, pickD_B, ifD_B, bldm0, stZ, Bool.false_eq_true, if_false]
  rw [asB_pos h hr]
  have hf := pa_facts h hr.1 hr.2
  obtain ⟨⟨a1, a2⟩, ⟨b1, b2⟩, c1, c2⟩ := goodM_iff.1 h
  have hgb := gM_bd h
  have v1 : IntKind.i64.wrap (m.1 - (paM m g).1) = (reM m g).1 := wrap_id (by omega) (by omega)
  have v2 : IntKind.i64.wrap (m.2.1 - (paM m g).2.1) = (reM m g).2.1 := wrap_id (by omega) (by omega)
  have v3 : IntKind.i64.wrap (m.2.2 - (paM m g).2.2) = (reM m g).2.2 := wrap_id (by omega) (by omega)
  have s1 : ∀ a : Int, stD 1 (.agg [I 0, I 0, I 0]) (.ref 0 1) (I a) = some (me (0, a, 0)) := fun a => sM1 m0 a
  have s0 : ∀ a : Int, stD 1 (.agg [I 0, I 0, I 0]) (.ref 0 0) (I a) = some (me (a, 0, 0)) := fun a => sM0 m0 a
  by_cases hg : 0 < gM m
  · have hp : paM m g = (g - tT m g - tA m g, tT m g, tA m g) := by
      unfold paM
      by_cases g0 : 0 < g
      · rw [if_pos g0]
      · rw [if_neg g0]
        have : g = 0 := by omega
        subst this
        simp [tT, tA]
    have m1 := mul_b b1 b2 hr.1 (show g ≤ 3000000 by omega)
    have m2 := mul_b c1 c2 hr.1 (show g ≤ 3000000 by omega)
    have w1 : IntKind.i64.wrap (m.2.1 * g) = m.2.1 * g := wrap_id (by omega) (by omega)
    have w2 : IntKind.i64.wrap (m.2.2 * g) = m.2.2 * g := wrap_id (by omega) (by omega)
    rw [hp] at hf v1 v2 v3
    dsimp only at hf v1 v2 v3
    have q1 : IntKind.i64.wrap ((m.2.1 * g).tdiv (gM m)) = tT m g := by
      rw [Int.tdiv_eq_ediv_of_nonneg m1.1]
      exact wrap_id (by unfold tT at hf; omega) (by unfold tT at hf; omega)
    have q2 : IntKind.i64.wrap ((m.2.2 * g).tdiv (gM m)) = tA m g := by
      rw [Int.tdiv_eq_ediv_of_nonneg m2.1]
      exact wrap_id (by unfold tA at hf; omega) (by unfold tA at hf; omega)
    have w3 : IntKind.i64.wrap (g - tT m g) = g - tT m g := wrap_id (by omega) (by omega)
    have w4 : IntKind.i64.wrap (g - tT m g - tA m g) = g - tT m g - tA m g := wrap_id (by omega) (by omega)
    have hn : ¬ gM m = 0 := by omega
    rw [hp]
    dsimp only
    by_cases hle : g - tT m g - tA m g ≤ m.1
    · have hgt : ¬ m.1 < g - tT m g - tA m g := by omega
      rw [decide_eq_true hle]
      simp -implicitDefEqProofs only [boxM, fldM, Option.bind_some, e_spec_meGood, h, callK_ret, sl_zero, un_not, Bool.not_true, gate_f, gateC_f, hG, nrmK_some, e_spec_l1In, hr, and_self, decide_true, decide_false, pickD_B, ifD_B, bldm0, stZ, Bool.false_eq_true, if_false, bin_gtr, hg, hgt, if_true, liveD_agg, atD_agg, List.drop_zero, List.drop_succ_cons, takeD_f, bin_mul, w1, w2, bin_quo, hn, q1, q2, s1, sM0, sM1, sM2, bin_sub, w3, w4, v1, v2, v3, bldM]
    · have hgt : m.1 < g - tT m g - tA m g := by omega
      rw [decide_eq_false hle]
      simp -implicitDefEqProofs only [boxM, fldM, Option.bind_some, e_spec_meGood, h, callK_ret, sl_zero, un_not, Bool.not_true, Bool.not_false, gate_f, gateC_f, hG, nrmK_some, e_spec_l1In, hr, and_self, decide_true, pickD_B, ifD_B, bldm0, stZ, Bool.false_eq_true, if_false, bin_gtr, hg, hgt, if_true, liveD_agg, atD_agg, List.drop_zero, List.drop_succ_cons, takeD_f, bin_mul, w1, w2, bin_quo, hn, q1, q2, s1, sM0, sM1, sM2, bin_sub, w3, w4, v1, v2, v3, bldM]
  · have g0 : g = 0 := by omega
    subst g0
    have hp : paM m 0 = m0 := by unfold paM; rw [if_neg (by decide)]
    rw [hp] at v1 v2 v3 ⊢
    have hle : m0.1 ≤ m.1 := a1
    have hgt : ¬ m.1 < 0 := by omega
    rw [decide_eq_true hle]
    dsimp only at v1 v2 v3
    have w0 : IntKind.i64.wrap (0 - 0) = 0 := rfl
    simp -implicitDefEqProofs only [boxM, fldM, Option.bind_some, e_spec_meGood, h, callK_ret, sl_zero, un_not, Bool.not_true, gate_f, gateC_f, hG, nrmK_some, e_spec_l1In, hr, and_self, decide_true, pickD_B, ifD_B, bldm0, stZ, Bool.false_eq_true, if_false, bin_gtr, hg, hgt, decide_false, if_true, liveD_agg, atD_agg, List.drop_zero, List.drop_succ_cons, takeD_f, bin_sub, w0, s0, v1, v2, v3, bldM]

/-! ### shares -/
def shB (m : Me) : Bool := goodM m && decide (0 < gM m)
def shL (m : Me) : List Int := [1000 * m.1 / gM m, 1000 * m.2.1 / gM m, 1000 * m.2.2 / gM m]
def shR (m : Me) : List Int := if shB m = true then shL m else []
theorem sh_one {x k : Int} (h0 : 0 ≤ x) (h1 : x ≤ 1000000) (h2 : 0 < k) : IntKind.i64.wrap (1000 * x) = 1000 * x ∧ IntKind.i64.wrap ((1000 * x).tdiv k) = 1000 * x / k := by
  refine ⟨wrap_id (by omega) (by omega), ?_⟩
  have e1 : 0 ≤ 1000 * x / k := Int.ediv_nonneg (by omega) (by omega)
  have e2 : 1000 * x / k ≤ 1000 * x := Int.ediv_le_self _ (by omega)
  rw [Int.tdiv_eq_ediv_of_nonneg (by omega)]
  exact wrap_id (by omega) (by omega)
theorem e_impl_isMetal (m : Me) : F_impl_isMetal [me m] = some (.ret [B (shB m)] []) := by
  rw [t_impl_isMetal]
  cases h : goodM m
  · simp -implicitDefEqProofs only [boxM, fldM, Option.bind_some, e_impl_IsMelt, h, callK_ret, sl_zero, gate_t, gateC_t, Bool.false_eq_true, if_false, gate_s, pickD_B, shB, Bool.false_and]
  · simp -implicitDefEqProofs only [boxM, fldM, Option.bind_some, e_impl_IsMelt, h, callK_ret, sl_zero, gate_t, gateC_t, if_true, nrmK_some, e_impl_grams h, bin_gtr, pickD_B, shB, Bool.true_and]
theorem e_impl_SharesOf (m : Me) : F_impl_SharesOf [me m] = some (.ret [intsL (shR m), B (shB m)] []) := by
  rw [t_impl_SharesOf]
  unfold shR
  cases hb : shB m
  · simp -implicitDefEqProofs only [boxM, fldM, Option.bind_some, e_impl_isMetal, hb, callK_ret, sl_zero, un_not, Bool.not_false, ifD_B, if_true, mkArr_nil, Bool.false_eq_true, if_false, List.map_nil]
    rfl
  · have h := hb
    simp only [shB, Bool.and_eq_true, decide_eq_true_eq] at h
    obtain ⟨⟨a1, a2⟩, ⟨b1, b2⟩, c1, c2⟩ := goodM_iff.1 h.1
    obtain ⟨w1, q1⟩ := sh_one a1 a2 h.2
    obtain ⟨w2, q2⟩ := sh_one b1 b2 h.2
    obtain ⟨w3, q3⟩ := sh_one c1 c2 h.2
    have hn : ¬ gM m = 0 := by omega
    have hm := mkInts (l := shL m)
    simp only [shL, List.map_cons, List.map_nil] at hm
    simp -implicitDefEqProofs only [boxM, fldM, Option.bind_some, e_impl_isMetal, hb, callK_ret, sl_zero, un_not, Bool.not_true, ifD_B, Bool.false_eq_true, if_false, if_true, e_impl_grams h.1, liveD_agg, atD_agg, List.drop_zero, List.drop_succ_cons, takeD_f, bin_mul, w1, w2, w3, bin_quo, hn, q1, q2, q3, hm, shL]
theorem e_spec_SharesOf (m : Me) : F_spec_SharesOf [me m] = some (.ret [intsL (shR m), B (shB m)] []) := by
  rw [t_spec_SharesOf]
  unfold shR
  cases h : goodM m
  · have hb : shB m = false := by simp only [shB, h, Bool.false_and]
    rw [hb]
    simp -implicitDefEqProofs only [boxM, fldM, Option.bind_some, e_spec_meGood, h, callK_ret, sl_zero, un_not, Bool.not_false, gate_f, gateC_f, ifD_B, if_true, pickD_B, Bool.false_eq_true, if_false, List.map_nil]
    rfl
  have hgb := gM_bd h
  by_cases h0 : gM m = 0
  · have hb : shB m = false := by simp only [shB, h, h0, Bool.true_and]; decide
    rw [hb]
    simp -implicitDefEqProofs only [boxM, fldM, Option.bind_some, e_spec_meGood, h, callK_ret, sl_zero, un_not, Bool.not_true, gate_f, gateC_f, e_spec_meGrams h, nrmK_some, bin_eql, h0, decide_true, ifD_B, if_true, pickD_B, Bool.false_eq_true, if_false, List.map_nil]
    rfl
  have hpos : 0 < gM m := by omega
  have hb : shB m = true := by simp only [shB, h, hpos, decide_true, Bool.true_and]
  obtain ⟨⟨a1, a2⟩, ⟨b1, b2⟩, c1, c2⟩ := goodM_iff.1 h
  have hin : ∀ n ∈ meL m, 0 ≤ n ∧ n ≤ 1000000 := by
    intro n hn
    simp only [meL, List.mem_cons, List.not_mem_nil, or_false] at hn
    rcases hn with rfl | rfl | rfl <;> omega
  have hl : (meL m).length = 3 := rfl
  have hsl : shL m = (meL m).map fun x => 1000 * x / gM m := rfl
  rw [hb]
  simp -implicitDefEqProofs only [boxM, fldM, Option.bind_some, e_spec_meGood, h, callK_ret, sl_zero, un_not, Bool.not_true, gate_f, gateC_f, e_spec_meGrams h, nrmK_some, bin_eql, h0, decide_false, ifD_B, if_true, pickD_B, Bool.false_eq_true, if_false, e_spec_meParts, lenD_arr, List.length_map]
  rw [hsl]
  generalize meL m = ns at hin hl
  refine loop_bind (.ext 0 [intsL (ns.map fun x => 1000 * x / gM m)]) (loop_for ns.length (fun i => [me m, intsL ((ns.take i).map fun x => 1000 * x / gM m), intsL ns, I ns.length, I i]) _ (fun i hi => ?_) ?_ rfl rfl) ?_
  · have hi' : (i : Int) < (ns.length : Int) := by omega
    have hw : IntKind.i64.wrap ((i : Int) + 1) = ((i + 1 : Nat) : Int) := by rw [wrap_id (by omega) (by omega)]; omega
    have hx := hin ns[i] (List.getElem_mem hi)
    obtain ⟨w1, q1⟩ := sh_one hx.1 hx.2 hpos
    have e1 : elemD 1 (intsL ns) (I (i : Int)) = some [I ns[i]] := by simp [hi]
    have hap := ints_app (l := (ns.take i).map fun x => 1000 * x / gM m) (n := 1000 * ns[i] / gM m) (by rw [List.length_map, List.length_take]; omega)
    have htk : (ns.take (i + 1)).map (fun x => 1000 * x / gM m) = (ns.take i).map (fun x => 1000 * x / gM m) ++ [1000 * ns[i] / gM m] := by rw [List.take_succ_eq_append_getElem hi, List.map_append]; rfl
    rw [← htk] at hap
    simp -implicitDefEqProofs only [sl_zero, sl_succ, bin_lss, hi', decide_true, Option.bind_some, ifD_B, if_true, e1, Option.map_some, ldD_ptr, takeD_f, chkV_v, bin_mul, w1, fldM, e_spec_meGrams h, callK_ret, bin_quo, h0, if_false, q1, ints_one, ints_chk, hap, bin_add, hw]
  · simp
  · simp -implicitDefEqProofs only [outK_ext, Nat.beq_refl, ifN_B, if_true, sl_zero, sl_succ]
theorem shL_sum {m : Me} (h : shB m = true) : 998 ≤ (shL m).sum ∧ (shL m).sum ≤ 1000 ∧ ∀ n ∈ shL m, 0 ≤ n ∧ n ≤ 1000 := by
  simp only [shB, Bool.and_eq_true, decide_eq_true_eq] at h
  obtain ⟨hg, hk⟩ := h
  obtain ⟨⟨a1, a2⟩, ⟨b1, b2⟩, c1, c2⟩ := goodM_iff.1 hg
  have ee : m.1 + m.2.1 + m.2.2 = gM m := rfl
  generalize gM m = k at hk ee
  have f : ∀ x : Int, 0 ≤ x → 0 ≤ 1000 * x / k ∧ 1000 * x / k * k ≤ 1000 * x ∧ 1000 * x < 1000 * x / k * k + k := fun x hx => by
    have h1 : 0 ≤ 1000 * x / k := Int.ediv_nonneg (by omega) (by omega)
    have h2 := Int.ediv_mul_le (1000 * x) (show k ≠ 0 by omega)
    have h3 := Int.lt_ediv_add_one_mul_self (1000 * x) hk
    rw [Int.add_mul, Int.one_mul] at h3
    exact ⟨h1, h2, h3⟩
  obtain ⟨f1, f2, f3⟩ := f m.1 a1
  obtain ⟨g1, g2, g3⟩ := f m.2.1 b1
  obtain ⟨j1, j2, j3⟩ := f m.2.2 c1
  have es : (shL m).sum = 1000 * m.1 / gM m + 1000 * m.2.1 / gM m + 1000 * m.2.2 / gM m := by
    simp only [shL, List.sum_cons, List.sum_nil]
    omega
  have eg : gM m = k := ee
  have ek : ∀ n ∈ shL m, n = 1000 * m.1 / k ∨ n = 1000 * m.2.1 / k ∨ n = 1000 * m.2.2 / k := by
    intro n hn
    simp only [shL, eg, List.mem_cons, List.not_mem_nil, or_false] at hn
    exact hn
  rw [es, eg]
  generalize 1000 * m.1 / k = x at *
  generalize 1000 * m.2.1 / k = y at *
  generalize 1000 * m.2.2 / k = z at *
  have up : (x + y + z) * k ≤ 1000 * k := by
    rw [Int.add_mul, Int.add_mul]
    omega
  have lo : 997 * k < (x + y + z) * k := by
    rw [Int.add_mul, Int.add_mul]
    omega
  have u1 := Int.le_of_mul_le_mul_right up hk
  have u2 := Int.lt_of_mul_lt_mul_right lo (by omega)
  refine ⟨by omega, by omega, fun n hn => ?_⟩
  rcases ek n hn with rfl | rfl | rfl <;> omega
theorem e_laws_pSum (l : List Int) (hl : l.length ≤ 1000) (h : ∀ n ∈ l, 0 ≤ n ∧ n ≤ 1000000) : F_laws_pSum [intsL l] = some (.ret [I l.sum] []) := by
  rw [t_laws_pSum]
  simp only [lenD_arr, List.length_map, Option.bind_some]
  have hb : ∀ i : Nat, i ≤ l.length → 0 ≤ (l.take i).sum ∧ (l.take i).sum ≤ (i : Int) * 1000000 := by
    intro i
    induction i with
    | zero => intro _; simp
    | succ i ih =>
      intro hi
      have hx := h l[i] (List.getElem_mem (by omega))
      have := ih (by omega)
      rw [List.take_succ_eq_append_getElem (by omega), List.sum_append, List.sum_singleton]
      omega
  refine loop_bind (.ext 0 [I l.sum]) (loop_for l.length (fun i => [I (l.take i).sum, intsL l, I l.length, I i]) _ (fun i hi => ?_) ?_ rfl rfl) ?_
  · have hi' : (i : Int) < (l.length : Int) := by omega
    have hw : IntKind.i64.wrap ((i : Int) + 1) = ((i + 1 : Nat) : Int) := by rw [wrap_id (by omega) (by omega)]; omega
    have e1 : elemD 1 (intsL l) (I (i : Int)) = some [I l[i]] := by simp [hi]
    have hx := h l[i] (List.getElem_mem hi)
    have hb' := hb i (by omega)
    have es : (l.take (i + 1)).sum = (l.take i).sum + l[i] := by rw [List.take_succ_eq_append_getElem hi, List.sum_append, List.sum_singleton]
    have hs : IntKind.i64.wrap ((l.take i).sum + l[i]) = (l.take (i + 1)).sum := by rw [es]; exact wrap_id (by omega) (by omega)
    simp -implicitDefEqProofs only [sl_zero, sl_succ, bin_lss, hi', decide_true, Option.bind_some, ifD_B, if_true, e1, Option.map_some, ldD_ptr, takeD_f, chkV_v, bin_add, hs, hw]
  · simp
  · simp
end Go.Proofs.YtlphibidnkjpdaaDoor
/-
  Melts: dross, texts, draws.
-/
namespace Go.Proofs.YtlphibidnkjpdaaDoor
open Go Go.V
set_option linter.unusedSimpArgs false

/-! ### dross -/
def upM (n p : Int) : Int := (n * p + 99) / 100
theorem up_b {n p : Int} (h0 : 0 ≤ n) (h1 : n ≤ 1000000) (h2 : 0 ≤ p) (h3 : p ≤ 100) : (0 ≤ n * p ∧ n * p ≤ 100000000) ∧ 0 ≤ upM n p ∧ upM n p ≤ n := by
  have hb := mul_b h0 h1 h2 h3
  have hb2 : n * p ≤ n * 100 := Int.mul_le_mul_of_nonneg_left h3 h0
  unfold upM
  generalize n * p = x at *
  omega
theorem e_impl_left {n p : Int} (h0 : 0 ≤ n) (h1 : n ≤ 1000000) (h2 : 0 ≤ p) (h3 : p ≤ 100) : F_impl_AfterDross_1 [I n, .ptr [I p]] = some (.ret [I (n - upM n p)] []) := by
  rw [t_impl_AfterDross_1]
  obtain ⟨⟨b1, b2⟩, b3, b4⟩ := up_b h0 h1 h2 h3
  have hld : (ldD false 1 (.ptr [I p])).bind chkV = some (I p) := rfl
  have w1 : IntKind.i64.wrap (n * p) = n * p := wrap_id (by omega) (by omega)
  have w2 : IntKind.i64.wrap (n * p + 99) = n * p + 99 := wrap_id (by omega) (by omega)
  have w3 : IntKind.i64.wrap ((n * p + 99).tdiv 100) = upM n p := by
    rw [Int.tdiv_eq_ediv_of_nonneg (by omega)]
    exact wrap_id (by unfold upM at b3; omega) (by unfold upM at b4; omega)
  have w4 : IntKind.i64.wrap (n - upM n p) = n - upM n p := wrap_id (by omega) (by omega)
  simp -implicitDefEqProofs only [hld, Option.bind_some, bin_mul, w1, bin_add, w2, bin_quo, show ¬ (100 : Int) = 0 by decide, if_false, w3, bin_sub, w4]
theorem e_spec_l1Most (a b : Int) : F_spec_l1Most [I a, I b] = some (.ret [I (if b < a then a else b)] []) := by
  rw [t_spec_l1Most]
  by_cases h : b < a <;> simp [h]
theorem e_spec_meUp {n p : Int} (h0 : 0 ≤ n) (h1 : n ≤ 1000000) (h2 : 0 ≤ p) (h3 : p ≤ 100) : F_spec_meUp [I (n * p), I 100] = some (.ret [I (upM n p)] []) := by
  rw [t_spec_meUp]
  obtain ⟨⟨b1, b2⟩, b3, b4⟩ := up_b h0 h1 h2 h3
  have w1 : IntKind.i64.wrap (n * p + 100) = n * p + 100 := wrap_id (by omega) (by omega)
  have w2 : IntKind.i64.wrap (n * p + 100 - 1) = n * p + 99 := by rw [wrap_id (by omega) (by omega)]; omega
  have w3 : IntKind.i64.wrap ((n * p + 99).tdiv 100) = upM n p := by
    rw [Int.tdiv_eq_ediv_of_nonneg (by omega)]
    exact wrap_id (by unfold upM at b3; omega) (by unfold upM at b4; omega)
  have hn : ¬ upM n p < 0 := by omega
  simp -implicitDefEqProofs only [Option.bind_some, bin_add, w1, bin_sub, w2, bin_quo, show ¬ (100 : Int) = 0 by decide, if_false, w3, e_spec_l1Most, hn, callK_ret, sl_zero]
def drB (m : Me) (p : Int) : Bool := goodM m && decide (0 ≤ p ∧ p ≤ 100)
def drK (m : Me) (p : Int) : Me := (m.1 - upM m.1 p, m.2.1 - upM m.2.1 p, m.2.2 - upM m.2.2 p)
def drR (m : Me) (p : Int) : Me := if drB m p = true then drK m p else m0
def drL (m : Me) (p : Int) : Int := if drB m p = true then gM m - gM (drK m p) else 0
theorem drB_neg {m : Me} {p : Int} (hr : ¬ (0 ≤ p ∧ p ≤ 100)) : drB m p = false := by simp only [drB, hr, decide_false, Bool.and_false]
theorem drB_pos {m : Me} {p : Int} (h : goodM m = true) (hr : 0 ≤ p ∧ p ≤ 100) : drB m p = true := by simp only [drB, h, hr, and_self, decide_true, Bool.true_and]
theorem dr_good {m : Me} {p : Int} (h : goodM m = true) (hr : 0 ≤ p ∧ p ≤ 100) : goodM (drK m p) = true ∧ gM (drK m p) ≤ gM m := by
  obtain ⟨⟨a1, a2⟩, ⟨b1, b2⟩, c1, c2⟩ := goodM_iff.1 h
  have u1 := (up_b a1 a2 hr.1 hr.2).2
  have u2 := (up_b b1 b2 hr.1 hr.2).2
  have u3 := (up_b c1 c2 hr.1 hr.2).2
  refine ⟨goodM_iff.2 ?_, ?_⟩
  · unfold drK
    dsimp only
    omega
  · unfold gM drK
    dsimp only
    omega
theorem e_impl_AfterDross (m : Me) (p : Int) : F_impl_AfterDross [me m, I p] = some (.ret [me (drR m p), I (drL m p), B (drB m p)] []) := by
  rw [t_impl_AfterDross]
  unfold drR drL
  have hbx : boxD 1 (I p) = some (.agg [I p]) := by simp
  have hfz : frzD (.agg [I p]) = some (.ptr [I p]) := rfl
  have hld : (ldD false 1 (.ptr [I p])).bind chkV = some (I p) := rfl
  have hcl : cloD 120 [.ptr [I p]] = some (.clo 120 [.ptr [I p]]) := rfl
  have hcp : capsD 120 1 (.clo 120 [.ptr [I p]]) = some [.ptr [I p]] := rfl
  cases h : goodM m
  · have hb : drB m p = false := by simp only [drB, h, Bool.false_and]
    rw [hb]
    simp -implicitDefEqProofs only [boxM, hbx, hfz, hld, fldM, Option.bind_some, e_impl_IsMelt, h, callK_ret, sl_zero, un_not, Bool.not_false, gate_f, if_true, gateC_f, pickD_B, ifD_B, bldm0, stZ, Bool.false_eq_true, if_false]
  by_cases hr : 0 ≤ p ∧ p ≤ 100
  case neg =>
    rw [drB_neg hr]
    simp -implicitDefEqProofs only [boxM, hbx, hfz, hld, fldM, Option.bind_some, e_impl_IsMelt, h, callK_ret, sl_zero, un_not, Bool.not_true, Bool.not_false, gate_f, gateC_f, nrmK_some, e_impl_within, hr, decide_false, if_true, pickD_B, ifD_B, bldm0, stZ, Bool.false_eq_true, if_false]
  obtain ⟨⟨a1, a2⟩, ⟨b1, b2⟩, c1, c2⟩ := goodM_iff.1 h
  obtain ⟨hd, hle⟩ := dr_good h hr
  have hG := e_impl_grams h
  have hG2 := e_impl_grams hd
  have q1 := e_impl_left a1 a2 hr.1 hr.2
  have q2 := e_impl_left b1 b2 hr.1 hr.2
  have q3 := e_impl_left c1 c2 hr.1 hr.2
  have g1 := gM_bd h
  have g2 := gM_bd hd
  have w : IntKind.i64.wrap (gM m - gM (drK m p)) = gM m - gM (drK m p) := wrap_id (by omega) (by omega)
  rw [drB_pos h hr]
  unfold drK at hG2 w ⊢
  simp -implicitDefEqProofs only [boxM, hbx, hfz, hld, hcl, hcp, fldM, Option.bind_some, e_impl_IsMelt, h, callK_ret, sl_zero, un_not, Bool.not_true, gate_f, gateC_f, nrmK_some, e_impl_within, hr, and_self, decide_true, pickD_B, ifD_B, stZ, Bool.false_eq_true, if_false, if_true, liveD_agg, atD_agg, List.drop_zero, List.drop_succ_cons, takeD_f, List.cons_append, List.nil_append, q1, q2, q3, bldM, hG, hG2, bin_sub, w]
theorem e_spec_AfterDross (m : Me) (p : Int) : F_spec_AfterDross [me m, I p] = some (.ret [me (drR m p), I (drL m p), B (drB m p)] []) := by
  rw [t_spec_AfterDross]
  unfold drR drL
  cases h : goodM m
  · have hb : drB m p = false := by simp only [drB, h, Bool.false_and]
    rw [hb]
    simp -implicitDefEqProofs only [boxM, fldM, Option.bind_some, e_spec_meGood, h, callK_ret, sl_zero, un_not, Bool.not_false, gate_f, if_true, gateC_f, pickD_B, ifD_B, bldm0, stZ, Bool.false_eq_true, if_false]
  by_cases hr : 0 ≤ p ∧ p ≤ 100
  case neg =>
    rw [drB_neg hr]
    simp -implicitDefEqProofs only [boxM, fldM, Option.bind_some, e_spec_meGood, h, callK_ret, sl_zero, un_not, Bool.not_true, Bool.not_false, gate_f, gateC_f, nrmK_some, e_spec_l1In, hr, decide_false, if_true, pickD_B, ifD_B, bldm0, stZ, Bool.false_eq_true, if_false]
  obtain ⟨⟨a1, a2⟩, ⟨b1, b2⟩, c1, c2⟩ := goodM_iff.1 h
  obtain ⟨hd, hle⟩ := dr_good h hr
  have hG := e_spec_meGrams h
  have hG2 := e_spec_meGrams hd
  have q1 := e_spec_meUp a1 a2 hr.1 hr.2
  have q2 := e_spec_meUp b1 b2 hr.1 hr.2
  have q3 := e_spec_meUp c1 c2 hr.1 hr.2
  have u1 := up_b a1 a2 hr.1 hr.2
  have u2 := up_b b1 b2 hr.1 hr.2
  have u3 := up_b c1 c2 hr.1 hr.2
  have w1 : IntKind.i64.wrap (m.1 * p) = m.1 * p := wrap_id (by omega) (by omega)
  have w2 : IntKind.i64.wrap (m.2.1 * p) = m.2.1 * p := wrap_id (by omega) (by omega)
  have w3 : IntKind.i64.wrap (m.2.2 * p) = m.2.2 * p := wrap_id (by omega) (by omega)
  have v1 : IntKind.i64.wrap (m.1 - upM m.1 p) = m.1 - upM m.1 p := wrap_id (by omega) (by omega)
  have v2 : IntKind.i64.wrap (m.2.1 - upM m.2.1 p) = m.2.1 - upM m.2.1 p := wrap_id (by omega) (by omega)
  have v3 : IntKind.i64.wrap (m.2.2 - upM m.2.2 p) = m.2.2 - upM m.2.2 p := wrap_id (by omega) (by omega)
  have g1 := gM_bd h
  have g2 := gM_bd hd
  have w : IntKind.i64.wrap (gM m - gM (drK m p)) = gM m - gM (drK m p) := wrap_id (by omega) (by omega)
  rw [drB_pos h hr]
  unfold drK at hG2 w ⊢
  simp -implicitDefEqProofs only [boxM, fldM, Option.bind_some, e_spec_meGood, h, callK_ret, sl_zero, un_not, Bool.not_true, gate_f, gateC_f, nrmK_some, e_spec_l1In, hr, and_self, decide_true, pickD_B, ifD_B, stZ, Bool.false_eq_true, if_false, if_true, liveD_agg, atD_agg, List.drop_zero, List.drop_succ_cons, takeD_f, bin_mul, w1, w2, w3, q1, q2, q3, bin_sub, v1, v2, v3, bldM, hG, hG2, w]

/-! ### texts -/
def mtT (m : Me) : ByteArray := numsJ 45 (meL m)
theorem meL_in {m : Me} (h : goodM m = true) : ∀ n ∈ meL m, 0 ≤ n ∧ n < 1000001 := by
  have := goodM_iff.1 h
  intro n hn
  simp only [meL, List.mem_cons, List.not_mem_nil, or_false] at hn
  rcases hn with rfl | rfl | rfl <;> omega
theorem mtT_size {m : Me} (h : goodM m = true) : (mtT m).size ≤ 100 := by
  have := numsJ_size (c := 45) (ns := meL m) fun n hn => by have := meL_in h n hn; omega
  exact Nat.le_trans this (by simp [meL])
theorem tS' (l : List UInt8) : (D.v (Value.string { data := { toList := l } })) = T ⟨⟨l⟩⟩ := rfl
theorem e_impl_meltText {m : Me} (h : goodM m = true) : F_impl_meltText [me m] = some (.ret [T (mtT m)] []) := by
  rw [t_impl_meltText]
  have hm := mkInts (l := meL m)
  simp only [meL, List.map_cons, List.map_nil] at hm
  have hj := e_impl_join (meL m) 45 (fun n hn => by have := meL_in h n hn; omega) (by simp [meL])
  have e : (D.v (Value.string { data := { toList := [45] } })) = T ⟨#[45]⟩ := rfl
  have hq : intsD (meL m) = intsL (meL m) := rfl
  simp only [meL] at hj hq
  simp -implicitDefEqProofs only [boxM, Option.bind_some, liveD_agg, atD_agg, List.drop_zero, List.drop_succ_cons, takeD_f, hm, hq, e, hj, callK_ret, sl_zero, mtT, meL]
theorem e_impl_MeltText (m : Me) : F_impl_MeltText [me m] = some (.ret [T (if goodM m = true then mtT m else ⟨#[]⟩), B (goodM m)] []) := by
  rw [t_impl_MeltText]
  cases h : goodM m
  · simp -implicitDefEqProofs only [boxM, fldM, Option.bind_some, e_impl_IsMelt, h, callK_ret, sl_zero, un_not, Bool.not_false, ifD_B, if_true, Bool.false_eq_true, if_false]
  · simp -implicitDefEqProofs only [boxM, fldM, Option.bind_some, e_impl_IsMelt, h, callK_ret, sl_zero, un_not, Bool.not_true, ifD_B, if_true, Bool.false_eq_true, if_false, e_impl_meltText h]
theorem mtT_eq (m : Me) : mtT m = intT m.1 ++ ⟨#[45]⟩ ++ intT m.2.1 ++ ⟨#[45]⟩ ++ intT m.2.2 := by
  have e1 : meL m = [m.1] ++ [m.2.1] ++ [m.2.2] := rfl
  unfold mtT
  rw [e1, numsJ_snoc _ _ _ (by simp), numsJ_snoc _ _ _ (by simp), numsJ_one]
theorem e_spec_meText {m : Me} (h : goodM m = true) : F_spec_meText [me m] = some (.ret [T (mtT m)] []) := by
  rw [t_spec_meText, mtT_eq]
  obtain ⟨⟨a1, a2⟩, ⟨b1, b2⟩, c1, c2⟩ := goodM_iff.1 h
  have n1 := e_spec_l1Num (n := m.1) (by omega) (by omega)
  have n2 := e_spec_l1Num (n := m.2.1) (by omega) (by omega)
  have n3 := e_spec_l1Num (n := m.2.2) (by omega) (by omega)
  have z1 := intT_size 9 (n := m.1) (by omega) (by omega)
  have z2 := intT_size 9 (n := m.2.1) (by omega) (by omega)
  have z3 := intT_size 9 (n := m.2.2) (by omega) (by omega)
  have s1 : (⟨#[45]⟩ : ByteArray).size = 1 := rfl
  have e : (D.v (Value.string { data := { toList := [45] } })) = T ⟨#[45]⟩ := rfl
  have p1 := addS (a := intT m.1) (b := ⟨#[45]⟩) (bl := false) (eq := []) (by omega)
  have p2 := addS (a := intT m.1 ++ ⟨#[45]⟩) (b := intT m.2.1) (bl := false) (eq := []) (by rw [ByteArray.size_append]; omega)
  have p3 := addS (a := intT m.1 ++ ⟨#[45]⟩ ++ intT m.2.1) (b := ⟨#[45]⟩) (bl := false) (eq := []) (by rw [ByteArray.size_append, ByteArray.size_append]; omega)
  have p4 := addS (a := intT m.1 ++ ⟨#[45]⟩ ++ intT m.2.1 ++ ⟨#[45]⟩) (b := intT m.2.2) (bl := false) (eq := []) (by rw [ByteArray.size_append, ByteArray.size_append, ByteArray.size_append]; omega)
  simp -implicitDefEqProofs only [boxM, Option.bind_some, liveD_agg, atD_agg, List.drop_zero, List.drop_succ_cons, takeD_f, n1, n2, n3, callK_ret, sl_zero, e, p1, p2, p3, p4]
theorem e_spec_MeltText (m : Me) : F_spec_MeltText [me m] = some (.ret [T (if goodM m = true then mtT m else ⟨#[]⟩), B (goodM m)] []) := by
  rw [t_spec_MeltText]
  cases h : goodM m
  · simp -implicitDefEqProofs only [boxM, fldM, Option.bind_some, e_spec_meGood, h, callK_ret, sl_zero, un_not, Bool.not_false, ifD_B, if_true, Bool.false_eq_true, if_false]
  · simp -implicitDefEqProofs only [boxM, fldM, Option.bind_some, e_spec_meGood, h, callK_ret, sl_zero, un_not, Bool.not_true, ifD_B, if_true, Bool.false_eq_true, if_false, e_spec_meText h]

/-! ### melts read out of texts -/
def okM (ns : List Int) : Bool :=
  match ns with
  | [a, b, c] => goodM (a, b, c)
  | _ => false
theorem okM_in (ns : List Int) (h : okM ns = true) : ∀ n ∈ ns, 0 ≤ n ∧ n < 10000000000 := by
  unfold okM at h
  split at h
  · intro n hn
    have := meL_in h n hn
    omega
  · cases h
def meO (o : Option (List Int)) : Me :=
  match o with
  | some [a, b, c] => (a, b, c)
  | _ => m0
abbrev pM (s : ByteArray) : Option (List Int) := parseI 45 3 okM s
theorem pM_eq (s : ByteArray) : parseS readM 45 3 okM s = pM s := (parse_eq reads_M (by decide) (by decide) okM_in (by decide) s).symm
theorem pM_T {m : Me} (h : goodM m = true) : pM (mtT m) = some (meL m) := parseI_J reads_M (by decide) (by decide) okM_in (ns := meL m) h rfl
theorem e_impl_ParseMelt (s : ByteArray) (h : s.size ≤ 1048576) : F_impl_ParseMelt [T s] = some (.ret [me (meO (pM s)), B (pM s).isSome] []) := by
  rw [t_impl_ParseMelt, e_impl_numbersIn s h]
  unfold pM parseI
  generalize numsT s = ns
  rcases ns with _ | ⟨a, _ | ⟨b, _ | ⟨c, _ | ⟨d, ns⟩⟩⟩⟩
  · simp -implicitDefEqProofs [meO, bldm0]
  · simp -implicitDefEqProofs [meO, bldm0]
  · simp -implicitDefEqProofs [meO, bldm0]
  · have hi := e_impl_IsMelt (a, b, c)
    have hk : okM [a, b, c] = goodM (a, b, c) := rfl
    have hq : (([a, b, c].map I).length : Int) = 3 := rfl
    have l0 : elemD 1 (ints [a, b, c]) (I 0) = some [I a] := rfl
    have l1 : elemD 1 (ints [a, b, c]) (I 1) = some [I b] := rfl
    have l2 : elemD 1 (ints [a, b, c]) (I 2) = some [I c] := rfl
    have hl : [a, b, c].length = 3 := rfl
    cases h1 : goodM (a, b, c)
    · rw [h1] at hi hk
      simp -implicitDefEqProofs only [callK_ret, sl_zero, lenD_arr, hq, bin_neq, decide_true, Bool.not_true, Option.bind_some, ifD_B, Bool.false_eq_true, if_false, l0, l1, l2, Option.map_some, ldD_ptr, takeD_f, chkV_v, bldM, stZ, fldM, hi, un_not, Bool.not_false, gate_f, if_true, gateC_f, pickD_B, bldm0, hk, false_and, and_false, meO, Option.isSome_none]
    · rw [h1] at hi hk
      have ht := e_impl_meltText h1
      have hmt : mtT (a, b, c) = numsJ 45 [a, b, c] := rfl
      rw [hmt] at ht
      by_cases h2 : numsJ 45 [a, b, c] = s
      · subst h2
        have hne : bin .neq false [] (T (numsJ 45 [a, b, c])) (T (numsJ 45 [a, b, c])) = some (B false) := by simp
        simp -implicitDefEqProofs only [callK_ret, sl_zero, lenD_arr, hq, bin_neq, decide_true, Bool.not_true, Option.bind_some, ifD_B, Bool.false_eq_true, if_false, l0, l1, l2, Option.map_some, ldD_ptr, takeD_f, chkV_v, bldM, stZ, fldM, hi, un_not, gate_f, gateC_f, ht, nrmK_some, hne, pickD_B, hk, hl, and_self, if_true, meO, Option.isSome_some]
      · have hne : bin .neq false [] (T (numsJ 45 [a, b, c])) (T s) = some (B true) := by simp [h2]
        simp -implicitDefEqProofs only [callK_ret, sl_zero, lenD_arr, hq, bin_neq, decide_true, Bool.not_true, Option.bind_some, ifD_B, Bool.false_eq_true, if_false, l0, l1, l2, Option.map_some, ldD_ptr, takeD_f, chkV_v, bldM, stZ, fldM, hi, un_not, gate_f, gateC_f, ht, nrmK_some, hne, pickD_B, if_true, bldm0, h2, and_false, meO, Option.isSome_none]
  · have hl : ¬ ((ns.length : Int) + 1 + 1 + 1 + 1 = 3) := by omega
    have hl2 : ¬ (ns.length + 1 + 1 + 1 + 1 = 3) := by omega
    simp -implicitDefEqProofs [meO, bldm0, hl, hl2]
theorem e_spec_ParseMelt (s : ByteArray) (h : s.size ≤ 1048576) : F_spec_ParseMelt [T s] = some (.ret [me (meO (pM s)), B (pM s).isSome] []) := by
  rw [t_spec_ParseMelt, ← pM_eq]
  have hs : F_spec_l1Split [T s, D.v (Value.int IntKind.u8 45)] = some (.ret [.arr 1 ((splitT 45 s).map T)] []) := e_spec_l1Split s 45 (by omega)
  have hz := splitT_size 45 s
  rw [hs]
  unfold parseS
  generalize splitT 45 s = ws at hz
  by_cases h5 : ws.length = 3
  case neg =>
    have h5' : ¬ (ws.length : Int) = 3 := by omega
    simp -implicitDefEqProofs [meO, bldm0, h5, h5']
  have : ∃ a b c, ws = [a, b, c] := by
    match ws, h5 with
    | [a, b, c], _ => exact ⟨a, b, c, rfl⟩
  obtain ⟨a, b, c, rfl⟩ := this
  have hq : (([a, b, c].map T).length : Int) = 3 := rfl
  have l0 : elemD 1 (.arr 1 ([a, b, c].map T)) (I 0) = some [T a] := rfl
  have l1 : elemD 1 (.arr 1 ([a, b, c].map T)) (I 1) = some [T b] := rfl
  have l2 : elemD 1 (.arr 1 ([a, b, c].map T)) (I 2) = some [T c] := rfl
  have r0 := e_spec_meRead a (by have := hz a (by simp); omega)
  have r1 := e_spec_meRead b (by have := hz b (by simp); omega)
  have r2 := e_spec_meRead c (by have := hz c (by simp); omega)
  have hi := e_spec_meIf (readM a, readM b, readM c)
  have hk : okM ([a, b, c].map readM) = goodM (readM a, readM b, readM c) := rfl
  have hm : [a, b, c].map readM = [readM a, readM b, readM c] := rfl
  have hl : [a, b, c].length = 3 := rfl
  rw [hk, hm]
  cases h1 : goodM (readM a, readM b, readM c)
  · rw [h1] at hi
    simp -implicitDefEqProofs only [callK_ret, sl_zero, lenD_arr, hq, bin_neq, decide_true, Bool.not_true, Option.bind_some, ifD_B, Bool.false_eq_true, if_false, l0, l1, l2, Option.map_some, ldD_ptr, takeD_f, chkV_v, r0, r1, r2, bldM, hi, tpM, tpM1, stZ, fldM, and_false, meO, Option.isSome_none]
  · rw [h1] at hi
    simp -implicitDefEqProofs only [callK_ret, sl_zero, lenD_arr, hq, bin_neq, decide_true, Bool.not_true, Option.bind_some, ifD_B, Bool.false_eq_true, if_false, l0, l1, l2, Option.map_some, ldD_ptr, takeD_f, chkV_v, r0, r1, r2, bldM, hi, tpM, tpM1, stZ, fldM, hl, and_self, if_true, meO, Option.isSome_some]
end Go.Proofs.YtlphibidnkjpdaaDoor
/-
  Melts: draws.
-/
namespace Go.Proofs.YtlphibidnkjpdaaDoor
open Go Go.V
set_option linter.unusedSimpArgs false

theorem d_melt (c : Cur) (B : Nat) (h : c.ok B) (hB : B ≤ 3000000) : ∃ (m : Me) (c' : Cur), F_spec_l1Cur_melt [curD c] = some (.ret [me m] [curD c']) ∧ goodM m = true ∧ c'.ok (B + 10) := by
  obtain ⟨v1, c1, e1, l1, u1, k1⟩ := d_pick c 100 B h (by omega) (by omega)
  obtain ⟨v2, c2, e2, l2, u2, k2⟩ := d_pick c1 20 _ k1 (by omega) (by omega)
  obtain ⟨v3, c3, e3, l3, u3, k3⟩ := d_pick c2 30 _ k2 (by omega) (by omega)
  obtain ⟨b, c4, e4, k4⟩ := d_one c3 8 _ k3 (by omega) (by omega)
  rw [t_spec_l1Cur_melt]
  cases b
  · refine ⟨(v1, v2, v3), c4, ?_, goodM_iff.2 (by dsimp only; omega), k4.mono (by omega)⟩
    simp -implicitDefEqProofs only [liveD_agg, liveD_ref, ref0_eq, Option.bind_some, e1, e2, e3, e4, callK_ret, sl_zero, bldM, stZ, fldM, ifD_B, Bool.false_eq_true, if_false]
  · obtain ⟨v5, c5, e5, l5, k5⟩ := d_among c4 [1000000, 0, 500000] _ k4 (by omega) (by simp) (by simp)
    have m1 := mkInts (l := [1000000, 0, 500000])
    simp only [List.map_cons, List.map_nil] at m1
    have hv : 0 ≤ v5 ∧ v5 ≤ 1000000 := by
      simp only [List.mem_cons, List.not_mem_nil, or_false] at l5
      omega
    refine ⟨(v5, v2, v3), c5, ?_, goodM_iff.2 (by dsimp only; omega), k5.mono (by omega)⟩
    simp -implicitDefEqProofs only [liveD_agg, liveD_ref, ref0_eq, Option.bind_some, e1, e2, e3, e4, m1, e5, callK_ret, sl_zero, bldM, stZ, sM0, fldM, ifD_B, if_true]
theorem d_anyMelt (c : Cur) (B : Nat) (h : c.ok B) (hB : B ≤ 2000000) : ∃ (m : Me) (c' : Cur), F_spec_l1Cur_anyMelt [curD c] = some (.ret [me m] [curD c']) ∧ c'.ok (B + 20) := by
  obtain ⟨m, c1, e1, g1, k1⟩ := d_melt c B h (by omega)
  obtain ⟨v2, c2, e2, l2, u2, k2⟩ := d_pick c1 24 _ k1 (by omega) (by omega)
  rw [t_spec_l1Cur_anyMelt]
  by_cases h0 : v2 = 0
  · obtain ⟨v3, c3, e3, l3, k3⟩ := d_among c2 [-1, 1000000, 1000001, -9223372036854775808] _ k2 (by omega) (by simp) (by simp)
    have m1 := mkInts (l := [-1, 1000000, 1000001, -9223372036854775808])
    simp only [List.map_cons, List.map_nil] at m1
    refine ⟨(v3, m.2), c3, ?_, k3.mono (by omega)⟩
    simp -implicitDefEqProofs only [liveD_agg, liveD_ref, ref0_eq, Option.bind_some, e1, e2, callK_ret, sl_zero, stZ, bin_eql, h0, decide_true, ifD_B, if_true, m1, e3, sM0, fldM]
  by_cases h1 : v2 = 1
  · obtain ⟨v3, c3, e3, l3, k3⟩ := d_among c2 [-1, 1000000, 1000001] _ k2 (by omega) (by simp) (by simp)
    have m1 := mkInts (l := [-1, 1000000, 1000001])
    simp only [List.map_cons, List.map_nil] at m1
    refine ⟨(m.1, v3, m.2.2), c3, ?_, k3.mono (by omega)⟩
    simp -implicitDefEqProofs only [liveD_agg, liveD_ref, ref0_eq, Option.bind_some, e1, e2, callK_ret, sl_zero, stZ, bin_eql, h1, show ¬ (1 : Int) = 0 by decide, decide_false, decide_true, ifD_B, Bool.false_eq_true, if_false, if_true, m1, e3, sM1, fldM]
  by_cases h2 : v2 = 2
  · obtain ⟨v3, c3, e3, l3, k3⟩ := d_among c2 [-1, 1000000, 1000001] _ k2 (by omega) (by simp) (by simp)
    have m1 := mkInts (l := [-1, 1000000, 1000001])
    simp only [List.map_cons, List.map_nil] at m1
    refine ⟨(m.1, m.2.1, v3), c3, ?_, k3.mono (by omega)⟩
    simp -implicitDefEqProofs only [liveD_agg, liveD_ref, ref0_eq, Option.bind_some, e1, e2, callK_ret, sl_zero, stZ, bin_eql, h2, show ¬ (2 : Int) = 0 by decide, show ¬ (2 : Int) = 1 by decide, decide_false, decide_true, ifD_B, Bool.false_eq_true, if_false, if_true, m1, e3, sM2, fldM]
  by_cases h3 : v2 = 3
  · refine ⟨m0, c2, ?_, k2.mono (by omega)⟩
    simp -implicitDefEqProofs only [liveD_agg, liveD_ref, ref0_eq, Option.bind_some, e1, e2, callK_ret, sl_zero, stZ, bin_eql, h3, show ¬ (3 : Int) = 0 by decide, show ¬ (3 : Int) = 1 by decide, show ¬ (3 : Int) = 2 by decide, decide_false, decide_true, ifD_B, Bool.false_eq_true, if_false, if_true, bldm0, fldM]
  · refine ⟨m, c2, ?_, k2.mono (by omega)⟩
    simp -implicitDefEqProofs only [liveD_agg, liveD_ref, ref0_eq, Option.bind_some, e1, e2, callK_ret, sl_zero, stZ, bin_eql, h0, h1, h2, h3, decide_false, ifD_B, Bool.false_eq_true, if_false, fldM]
theorem d_DrawIsMelt (l : List Int) (h : Bytes l) : ∃ m : Me, F_spec_DrawIsMelt [bytesD l] = some (.ret [me m] []) := by
  obtain ⟨m, c1, e1, k1⟩ := d_anyMelt ⟨l, 0, 0⟩ 0 (cur0 h) (by omega)
  rw [← curZ_eq] at e1
  rw [t_spec_DrawIsMelt]
  exact ⟨m, by simp -implicitDefEqProofs only [bldCur, box_cur, Option.bind_some, liveD_agg, liveD_ref, ref0_eq, e1, callK_ret, sl_zero, stZ, fldM]⟩
theorem d_DrawSharesOf (l : List Int) (h : Bytes l) : ∃ m : Me, F_spec_DrawSharesOf [bytesD l] = some (.ret [me m] []) := by
  obtain ⟨m, e⟩ := d_DrawIsMelt l h
  rw [t_spec_DrawSharesOf]
  exact ⟨m, by simp -implicitDefEqProofs only [Option.bind_some, e, callK_ret, sl_zero, stZ, fldM]⟩
theorem d_DrawTakeMelt (l : List Int) (h : Bytes l) : ∃ (m : Me) (g : Int), F_spec_DrawTakeMelt [bytesD l] = some (.ret [me m, I g] []) := by
  obtain ⟨m, c1, e1, k1⟩ := d_anyMelt ⟨l, 0, 0⟩ 0 (cur0 h) (by omega)
  rw [← curZ_eq] at e1
  rw [t_spec_DrawTakeMelt]
  have m1 := mkInts (l := [0, 1, 10, 50, -1])
  simp only [List.map_cons, List.map_nil] at m1
  cases hg : goodM m
  · obtain ⟨v3, c3, e3, l3, k3⟩ := d_among c1 [0, 1, 10, 50, -1] _ k1 (by omega) (by simp) (by simp)
    exact ⟨m, v3, by simp -implicitDefEqProofs only [bldCur, box_cur, Option.bind_some, liveD_agg, liveD_ref, ref0_eq, e1, callK_ret, sl_zero, sl_succ, stZ, fldM, e_spec_meGood, hg, gate_t, gateC_t, Bool.false_eq_true, if_false, gate_s, pickD_B, ifD_B, m1, e3]⟩
  · obtain ⟨b, c2, e2, k2⟩ := d_one c1 3 _ k1 (by omega) (by omega)
    cases b
    · obtain ⟨v3, c3, e3, l3, k3⟩ := d_among c2 [0, gM m, IntKind.i64.wrap ((gM m).tdiv 2), IntKind.i64.wrap (gM m - 1), IntKind.i64.wrap (gM m + 1), IntKind.i64.wrap ((gM m).tdiv 3)] _ k2 (by omega) (by simp) (by simp)
      have m2 := mkInts (l := [0, gM m, IntKind.i64.wrap ((gM m).tdiv 2), IntKind.i64.wrap (gM m - 1), IntKind.i64.wrap (gM m + 1), IntKind.i64.wrap ((gM m).tdiv 3)])
      simp only [List.map_cons, List.map_nil] at m2
      have hG := e_spec_meGrams hg
      exact ⟨m, v3, by simp -implicitDefEqProofs only [bldCur, box_cur, Option.bind_some, liveD_agg, liveD_ref, ref0_eq, e1, callK_ret, sl_zero, sl_succ, stZ, fldM, e_spec_meGood, hg, gate_t, gateC_t, if_true, nrmK_some, e2, un_not, Bool.not_false, pickD_B, ifD_B, hG, bin_quo, show ¬ (2 : Int) = 0 by decide, show ¬ (3 : Int) = 0 by decide, if_false, bin_sub, bin_add, m2, e3]⟩
    · obtain ⟨v3, c3, e3, l3, k3⟩ := d_among c2 [0, 1, 10, 50, -1] _ k2 (by omega) (by simp) (by simp)
      exact ⟨m, v3, by simp -implicitDefEqProofs only [bldCur, box_cur, Option.bind_some, liveD_agg, liveD_ref, ref0_eq, e1, callK_ret, sl_zero, sl_succ, stZ, fldM, e_spec_meGood, hg, gate_t, gateC_t, if_true, nrmK_some, e2, un_not, Bool.not_true, Bool.false_eq_true, if_false, pickD_B, ifD_B, m1, e3]⟩
theorem d_DrawAfterDross (l : List Int) (h : Bytes l) : ∃ (m : Me) (p : Int), F_spec_DrawAfterDross [bytesD l] = some (.ret [me m, I p] []) := by
  obtain ⟨m, c1, e1, k1⟩ := d_anyMelt ⟨l, 0, 0⟩ 0 (cur0 h) (by omega)
  rw [← curZ_eq] at e1
  obtain ⟨v2, c2, e2, l2, k2⟩ := d_among c1 [3, -1, 101] _ k1 (by omega) (by simp) (by simp)
  obtain ⟨v3, c3, e3, l3, k3⟩ := d_among c2 [0, 1, 5, 50, 100, v2] _ k2 (by omega) (by simp) (by simp)
  have m1 := mkInts (l := [3, -1, 101])
  have m2 := mkInts (l := [0, 1, 5, 50, 100, v2])
  simp only [List.map_cons, List.map_nil] at m1 m2
  rw [t_spec_DrawAfterDross]
  exact ⟨m, v3, by simp -implicitDefEqProofs only [bldCur, box_cur, Option.bind_some, liveD_agg, liveD_ref, ref0_eq, e1, callK_ret, sl_zero, m1, e2, m2, e3, stZ, fldM]⟩
def exMt : List ByteArray := [⟨⟨[]⟩⟩, ⟨⟨[48, 45, 48, 45, 48]⟩⟩, ⟨⟨[49, 45, 49]⟩⟩, ⟨⟨[49, 45, 45, 49, 45, 49]⟩⟩, ⟨⟨[49, 48, 48, 48, 48, 48, 48, 45, 48, 45, 48]⟩⟩, ⟨⟨[49, 48, 48, 48, 48, 48, 49, 45, 48, 45, 48]⟩⟩, ⟨⟨[48, 49, 45, 48, 45, 48]⟩⟩, ⟨⟨[49, 45, 49, 45, 49, 45, 49]⟩⟩]
theorem exMt_mk : mkArr 1 [T ⟨⟨[]⟩⟩, T ⟨⟨[48, 45, 48, 45, 48]⟩⟩, T ⟨⟨[49, 45, 49]⟩⟩, T ⟨⟨[49, 45, 45, 49, 45, 49]⟩⟩, T ⟨⟨[49, 48, 48, 48, 48, 48, 48, 45, 48, 45, 48]⟩⟩, T ⟨⟨[49, 48, 48, 48, 48, 48, 49, 45, 48, 45, 48]⟩⟩, T ⟨⟨[48, 49, 45, 48, 45, 48]⟩⟩, T ⟨⟨[49, 45, 49, 45, 49, 45, 49]⟩⟩] = some (txs exMt) := mkTxs (l := exMt)
theorem exMt_size : ∀ s ∈ exMt, s.size ≤ 20 := by decide
theorem d_DrawParseMelt (l : List Int) (h : Bytes l) : ∃ s : ByteArray, F_spec_DrawParseMelt [bytesD l] = some (.ret [T s] []) ∧ s.size ≤ 1000 := by
  obtain ⟨m, c1, e1, g1, k1⟩ := d_melt ⟨l, 0, 0⟩ 0 (cur0 h) (by omega)
  rw [← curZ_eq] at e1
  obtain ⟨v2, c2, e2, l2, u2, k2⟩ := d_pick c1 5 _ k1 (by omega) (by omega)
  have ht := e_spec_meText g1
  have hz := mtT_size g1
  rw [t_spec_DrawParseMelt]
  by_cases h0 : v2 = 0
  · obtain ⟨s, c3, e3, g3, k3⟩ := d_spoilt c2 (mtT m) ⟨⟨[45, 48, 49, 57]⟩⟩ _ k2 (by omega) (by omega) ⟨by decide, by decide⟩
    refine ⟨s, ?_, by omega⟩
    simp -implicitDefEqProofs only [tS, bldCur, box_cur, Option.bind_some, liveD_agg, liveD_ref, ref0_eq, e1, callK_ret, sl_zero, ht, e2, bin_eql, h0, decide_true, ifD_B, if_true, e3]
  by_cases h1 : v2 = 1
  · obtain ⟨s, c3, e3, g3, k3⟩ := d_of c2 exMt _ k2 (by omega) (by decide) (by decide)
    refine ⟨s, ?_, by have := exMt_size s g3; omega⟩
    simp -implicitDefEqProofs only [tS, bldCur, box_cur, Option.bind_some, liveD_agg, liveD_ref, ref0_eq, e1, callK_ret, sl_zero, ht, e2, bin_eql, h1, show ¬ (1 : Int) = 0 by decide, decide_false, decide_true, ifD_B, Bool.false_eq_true, if_false, if_true, exMt_mk, e3]
  · refine ⟨mtT m, ?_, by omega⟩
    simp -implicitDefEqProofs only [tS, bldCur, box_cur, Option.bind_some, liveD_agg, liveD_ref, ref0_eq, e1, callK_ret, sl_zero, ht, e2, bin_eql, h0, h1, decide_false, ifD_B, Bool.false_eq_true, if_false]

/-! ### lists -/
theorem mes_one (m : Me) : mkArr 3 [me m] = some (mes [m]) := by
  simp [mkArr, lenOkD]
theorem mes_two (a b : Me) : mkArr 3 [me a, me b] = some (mes [a, b]) := by
  simp [mkArr, lenOkD]
theorem mes_chk (l : List Me) : chkA (mes l) = some (mes l) := chkA_map (fun _ => rfl)
theorem mes_app {l m : List Me} (h : l.length + m.length ≤ 1048576) : appD 3 24 (mes l) (mes m) = some (mes (l ++ m)) := by
  rw [appD_eq, if_pos (by simp; omega), ← List.map_append]
theorem mes_set (l : List Me) (i : Nat) (m : Me) (hi : i < l.length) : stD 3 (mes l) (.ref i 0) (me m) = some (mes (l.set i m)) := by
  have := stD_arr (n := 3) (z := 3) (i := i) (L := l.map me) (c := [I l[i].1, I l[i].2.1, I l[i].2.2]) (v := [I m.1, I m.2.1, I m.2.2]) (by simp [hi]) rfl rfl rfl
  rw [this, ← List.map_set]
theorem d_DrawJoinMelts (l : List Int) (h : Bytes l) : ∃ ms : List Me, F_spec_DrawJoinMelts [bytesD l] = some (.ret [mes ms] []) ∧ ms.length ≤ 1000 := by
  obtain ⟨v1, c1, e1, l1, u1, k1⟩ := d_pick ⟨l, 0, 0⟩ 5 0 (cur0 h) (by omega) (by omega)
  rw [← curZ_eq] at e1
  obtain ⟨b, c2, e2, k2⟩ := d_one c1 10 _ k1 (by omega) (by omega)
  rw [t_spec_DrawJoinMelts]
  have ez : D.arr 3 [] = mes [] := rfl
  have key : ∃ (n : Int) (c3 : Cur), 0 ≤ n ∧ n ≤ 30 ∧ c3.ok 100 ∧ ((b = false ∧ n = v1 ∧ c3 = c2) ∨ (b = true ∧ ∃ v3, F_spec_l1Cur_pick [curD c2, I 2] = some (.ret [I v3] [curD c3]) ∧ IntKind.i64.wrap (20 + v3) = n)) := by
    cases b
    · exact ⟨v1, c2, by omega, by omega, k2.mono (by omega), .inl ⟨rfl, rfl, rfl⟩⟩
    · obtain ⟨v3, c3, e3, l3, u3, k3⟩ := d_pick c2 2 _ k2 (by omega) (by omega)
      exact ⟨20 + v3, c3, by omega, by omega, k3.mono (by omega), .inr ⟨rfl, v3, e3, wrap_id (by omega) (by omega)⟩⟩
  obtain ⟨n, c3, n0, n1, k3, hc⟩ := key
  rcases hc with ⟨rfl, hn, hcc⟩ | ⟨rfl, v3, e3, hw0⟩
  case' inl =>
    rw [← hn] at e1
    rw [← hcc] at e2
    simp -implicitDefEqProofs only [bldCur, box_cur, Option.bind_some, liveD_agg, liveD_ref, ref0_eq, e1, e2, callK_ret, sl_zero, ifD_B, Bool.false_eq_true, if_false]
  case' inr => simp -implicitDefEqProofs only [bldCur, box_cur, Option.bind_some, liveD_agg, liveD_ref, ref0_eq, e1, e2, e3, callK_ret, sl_zero, ifD_B, if_true, bin_add, hw0]
  all_goals
    refine loop_wf_bind (fun r => ∃ ms : List Me, r = some (.ret [mes ms] []) ∧ ms.length ≤ 1000) (fun (a : List Me × Cur) => [.ref 0 0, mes a.1, I n, curD a.2]) (fun a => (a.1.length : Int) ≤ n ∧ a.2.ok (100 + 10 * a.1.length)) (fun a => n.toNat - a.1.length)
      (fun o => ∃ (ms : List Me) (c' : Cur), o = .ext 0 [.ref 0 0, mes ms, I n, curD c'] ∧ (ms.length : Int) = n ∧ c'.ok 1000) ?_ ([], c3) ⟨by simpa using n0, by simpa using k3⟩ rfl ?_
    · rintro ⟨ms, c⟩ ⟨g1, g2⟩
      dsimp only at g1 g2
      by_cases hlt : (ms.length : Int) < n
      · left
        obtain ⟨m, c', e, gm, k⟩ := d_melt c _ g2 (by omega)
        have ha := mes_app (l := ms) (m := [m]) (by simp; omega)
        refine ⟨(ms ++ [m], c'), ?_, ⟨by simp; omega, k.mono (by simp; omega)⟩, by simp; omega⟩
        simp -implicitDefEqProofs only [sl_zero, sl_succ, liveD_arr, liveD_ref, Option.bind_some, lenD_arr, List.length_map, bin_lss, hlt, decide_true, ifD_B, if_true, ref0_eq, liveD_agg, e, callK_ret, mes_one, mes_chk, ha]
      · right
        refine ⟨.ext 0 [.ref 0 0, mes ms, I n, curD c], ?_, rfl, ms, c, rfl, by omega, g2.mono (by omega)⟩
        simp -implicitDefEqProofs only [sl_zero, sl_succ, liveD_arr, liveD_ref, Option.bind_some, lenD_arr, List.length_map, bin_lss, hlt, decide_false, ifD_B, Bool.false_eq_true, if_false]
    · rintro o ⟨ms, c', rfl, hl, k⟩
      by_cases hpos : 0 < n
      · obtain ⟨b2, c4, e4, k4⟩ := d_one c' 8 _ k (by omega) (by omega)
        cases b2
        · exact ⟨ms, by simp -implicitDefEqProofs only [outK_ext, Nat.beq_refl, ifN_B, if_true, sl_zero, sl_succ, bin_gtr, hpos, decide_true, Option.bind_some, gate_t, liveD_ref, liveD_arr, liveD_agg, gateC_t, ref0_eq, e4, callK_ret, nrmK_some, pickD_B, ifD_B, Bool.false_eq_true, if_false], by omega⟩
        · obtain ⟨v, c5, e5, l5, u5, k5⟩ := d_pick c4 n _ k4 (by omega) (by omega)
          obtain ⟨m, c6, e6, k6⟩ := d_anyMelt c5 _ k5 (by omega)
          obtain ⟨u, rfl⟩ := Int.eq_ofNat_of_zero_le l5
          have hu : u < ms.length := by omega
          have hr : refI 3 (mes ms) (I (u : Int)) = some (.ref u 0) := by rw [refI_nat, if_pos (by simpa using hu)]
          have hs := mes_set ms u m hu
          exact ⟨ms.set u m, by simp -implicitDefEqProofs only [outK_ext, Nat.beq_refl, ifN_B, if_true, sl_zero, sl_succ, bin_gtr, hpos, decide_true, Option.bind_some, gate_t, liveD_ref, liveD_arr, liveD_agg, gateC_t, ref0_eq, e4, callK_ret, nrmK_some, pickD_B, ifD_B, e5, e6, hr, hs], by rw [List.length_set]; omega⟩
      · exact ⟨ms, by simp -implicitDefEqProofs only [outK_ext, Nat.beq_refl, ifN_B, if_true, sl_zero, sl_succ, bin_gtr, hpos, decide_false, Option.bind_some, gate_t, Bool.false_eq_true, if_false, gateC_t, pickD_B, ifD_B], by omega⟩
end Go.Proofs.YtlphibidnkjpdaaDoor
/-
  The law of melts.
-/
namespace Go.Proofs.YtlphibidnkjpdaaDoor
open Go Go.V
set_option linter.unusedSimpArgs false

theorem tpMM (m k : Me) (ds : List D) : tupAt (.tup (me m :: me k :: ds)) 1 = some (me k) := rfl
theorem tpMM2 (m k : Me) (v : Value) (ds : List D) : tupAt (.tup (me m :: me k :: .v v :: ds)) 2 = some (.v v) := rfl
theorem tpMv2 (m : Me) (u v : Value) (ds : List D) : tupAt (.tup (me m :: .v u :: .v v :: ds)) 2 = some (.v v) := rfl
theorem tpvv (v : Value) (ds : List D) : tupAt (.tup (.v v :: ds)) 0 = some (.v v) := rfl
theorem tpvv1 (u v : Value) (ds : List D) : tupAt (.tup (.v u :: .v v :: ds)) 1 = some (.v v) := rfl
theorem tk_facts {m : Me} {g : Int} (h : tkB m g = true) : tkP m g = paM m g ∧ tkR m g = reM m g ∧ goodM (paM m g) = true ∧ gM (paM m g) = g ∧ joB [paM m g, reM m g] = true ∧ joR [paM m g, reM m g] = m := by
  have h0 := h
  simp only [tkB, asB, Bool.and_eq_true, decide_eq_true_eq] at h
  obtain ⟨⟨hm, hr⟩, hle⟩ := h
  have hf := pa_facts hm hr.1 hr.2
  have hre : goodM (reM m g) = true := by rw [good_re hm hr.1 hr.2, decide_eq_true hle]
  have hpa : goodM (paM m g) = true := goodM_iff.2 (by have := goodM_iff.1 hm; omega)
  have hs : sumM [paM m g, reM m g] = m := by
    obtain ⟨a, b, c⟩ := m
    simp only [sumM, List.foldl_cons, List.foldl_nil, plM, reM, Prod.mk.injEq]
    omega
  have hj : joB [paM m g, reM m g] = true := by
    simp only [joB, hs, hm, List.all_cons, List.all_nil, hpa, hre, Bool.and_true, Bool.true_and]
    rfl
  exact ⟨by simp only [tkP, h0, if_true], by simp only [tkR, h0, if_true], hpa, hf.2.2.2.2, hj, by simp only [joR, hj, if_true, hs]⟩
theorem dr_facts {m : Me} {p : Int} (h : drB m p = true) : goodM m = true ∧ drR m p = drK m p ∧ goodM (drK m p) = true ∧ drL m p = gM m - gM (drK m p) ∧ IntKind.i64.wrap (gM m - gM (drK m p)) = gM m - gM (drK m p) ∧ ¬ gM m - gM (drK m p) < 0 := by
  have h0 := h
  simp only [drB, Bool.and_eq_true, decide_eq_true_eq] at h
  obtain ⟨hm, hr⟩ := h
  obtain ⟨hd, hle⟩ := dr_good hm hr
  have g1 := gM_bd hm
  have g2 := gM_bd hd
  exact ⟨hm, by simp only [drR, h0, if_true], hd, by simp only [drL, h0, if_true], wrap_id (by omega) (by omega), by omega⟩

set_option maxRecDepth 100000 in
set_option maxHeartbeats 4000000 in
theorem law_Melts (code more : List Int) (hb1 : ∀ n ∈ code, 0 ≤ n ∧ n ≤ 255) (hb2 : ∀ n ∈ more, 0 ≤ n ∧ n ≤ 255) : F_laws_FnMelts [bytesD code, bytesD more] = some (.ret [B true] []) := by
  rw [t_laws_FnMelts]
  obtain ⟨p, hp, hp'⟩ := e_laws_big code more
  cases p
  case true => rw [hp]; rfl
  obtain ⟨hl1, hl2⟩ := hp' rfl
  obtain ⟨m, g, e1⟩ := d_DrawTakeMelt code ⟨hb1, hl1⟩
  have i1 := e_impl_TakeMelt m g
  have s1 := e_spec_TakeMelt m g
  simp -implicitDefEqProofs only [hp, callK_ret, sl_zero, ifD_B, Bool.false_eq_true, if_false, e1, tpM, tpM1, tpMM, tpMM2, Option.bind_some, stZ, fldM, i1, s1, bin_neqB, beq_self_eq_true, Bool.not_true, gate_f, neqM, pickD_B]
  refine joinC_of (fun s => s = [bytesD more, me m]) ?_ ?_
  case refine_2 =>
    intro j hj
    have hj' := hj _ rfl
    cases hb : tkB m g
    · simp -implicitDefEqProofs only [Bool.false_eq_true, if_false]
      exact hj'
    · obtain ⟨q1, q2, q3, q4, q5, q6⟩ := tk_facts hb
      have i2 := e_impl_GramsOf (paM m g)
      rw [q3, if_pos rfl, q4] at i2
      have i3 := e_impl_JoinMelts [paM m g, reM m g] (by simp)
      rw [q5, q6] at i3
      rw [q1, q2]
      simp -implicitDefEqProofs only [if_true, fldM, Option.bind_some, i2, i3, callK_ret, tpvv, tpvv1, mes_two, tpM, tpM1, stZ, un_not, Bool.not_true, gate_f, Bool.false_eq_true, if_false, bin_neq, decide_true, pickD_B, neqM, ifD_B]
      exact hj'
  rintro _ rfl
  obtain ⟨x, e2⟩ := d_DrawSharesOf more ⟨hb2, hl2⟩
  have j1 := e_impl_SharesOf x
  have r1 := e_spec_SharesOf x
  have q1 := e_laws_sameInts (shR x) (by unfold shR; split <;> simp [shL])
  obtain ⟨y, pc, e3⟩ := d_DrawAfterDross more ⟨hb2, hl2⟩
  have j2 := e_impl_AfterDross y pc
  have r2 := e_spec_AfterDross y pc
  have sh : ∀ R : Option Out, (((bin .neq true [] (B (shB x)) (B (shB x))).bind fun z => some z) = some (B false)) → R = R := fun _ _ => rfl
  have hsh : (shB x = false) ∨ (shB x = true ∧ ((shR x).length : Int) = 3 ∧ F_laws_pSum [intsL (shR x)] = some (.ret [I (shR x).sum] []) ∧ ¬ (1000 : Int) < (shR x).sum ∧ ¬ (shR x).sum < 998) := by
    cases hb : shB x
    · exact .inl rfl
    · right
      obtain ⟨a1, a2, a3⟩ := shL_sum hb
      have e : shR x = shL x := by simp only [shR, hb, if_true]
      rw [e]
      exact ⟨rfl, rfl, e_laws_pSum _ (by simp [shL]) (fun n hn => by have := a3 n hn; omega), by omega, by omega⟩
  rcases hsh with hb | ⟨hb, h3, h4, h5, h6⟩
  case' inl =>
    rw [hb] at j1 r1
    simp -implicitDefEqProofs only [sl_zero, e2, callK_ret, stZ, fldM, Option.bind_some, j1, r1, tpL, tpC1, bin_neqB, beq_self_eq_true, Bool.not_true, gate_f, gate_t, gate_s, gateC_f, gateC_t, gateC_s, nrmK_some, Bool.false_eq_true, if_false, if_true, q1, un_not, pickD_B, ifD_B, e3, tpM, tpM1, tpMv2, j2, r2, neqM, bin_neq, decide_true]
  case' inr =>
    rw [hb] at j1 r1
    simp -implicitDefEqProofs only [sl_zero, e2, callK_ret, stZ, fldM, Option.bind_some, j1, r1, tpL, tpC1, bin_neqB, beq_self_eq_true, Bool.not_true, gate_f, gate_t, gate_s, gateC_f, gateC_t, gateC_s, nrmK_some, Bool.false_eq_true, if_false, if_true, q1, un_not, lenD_arr, List.length_map, h3, h4, bin_gtr, h5, bin_lss, h6, decide_false, pickD_B, ifD_B, e3, tpM, tpM1, tpMv2, j2, r2, neqM, bin_neq, decide_true]
  all_goals
    refine joinC_of (fun s => s = [bytesD more, me m]) ?_ ?_
    case refine_2 =>
      intro j hj
      have hj' := hj _ rfl
      cases hd : drB y pc
      · simp -implicitDefEqProofs only [Bool.false_eq_true, if_false]
        exact hj'
      · obtain ⟨y1, y2, y3, y4, y5, y6⟩ := dr_facts hd
        have i2 := e_impl_GramsOf y
        rw [y1, if_pos rfl] at i2
        have i3 := e_impl_GramsOf (drK y pc)
        rw [y3, if_pos rfl] at i3
        have i4 := e_impl_IsMelt (drK y pc)
        rw [y3] at i4
        rw [y2, y4]
        simp -implicitDefEqProofs only [if_true, fldM, Option.bind_some, i2, i3, i4, callK_ret, tpvv, tpvv1, un_not, Bool.not_true, gate_f, gateC_f, nrmK_some, Bool.false_eq_true, if_false, bin_sub, y5, bin_neq, bin_lss, y6, decide_true, decide_false, pickD_B, ifD_B, sl_zero, sl_succ]
        exact hj'
    rintro _ rfl
    obtain ⟨l, e4, z4⟩ := d_DrawJoinMelts more ⟨hb2, hl2⟩
    obtain ⟨w, e5, z5⟩ := d_DrawParseMelt more ⟨hb2, hl2⟩
    have f1 := e_impl_JoinMelts l z4
    have f2 := e_spec_JoinMelts l z4
    have t1 := e_impl_MeltText m
    have t2 := e_spec_MeltText m
    have p1 := e_impl_ParseMelt w (by omega)
    have p2 := e_spec_ParseMelt w (by omega)
    have i5 := e_impl_IsMelt m
    simp -implicitDefEqProofs only [sl_zero, sl_succ, e4, callK_ret, tpM, tpM1, tpvv, tpvv1, Option.bind_some, stZ, fldM, f1, f2, t1, t2, e5, p1, p2, i5, bin_neqB, bin_neqS, beq_self_eq_true, decide_true, Bool.not_true, gate_f, gateC_f, nrmK_some, Bool.false_eq_true, if_false, neqM, pickD_B, ifD_B]
    cases hg : goodM m
    · simp -implicitDefEqProofs only [Bool.false_eq_true, if_false]
    · have u1 := e_impl_ParseMelt (mtT m) (by have := mtT_size hg; omega)
      rw [pM_T hg] at u1
      have e6 : meO (some (meL m)) = m := rfl
      rw [e6] at u1
      simp -implicitDefEqProofs only [if_true, u1, callK_ret, tpM, tpM1, Option.bind_some, Option.isSome_some, stZ, fldM, gate_t, eqlM, pickD_B]
end Go.Proofs.YtlphibidnkjpdaaDoor
