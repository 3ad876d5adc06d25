/-
  impl.FastestSequence: walked by hand, for what it hands back is read once more beside its return.
-/
import Derived.Test.YtecaabmaoaacnaaGreatDoorRows
import Derived.Test.YtecaabmaoaacnaaGreatDoorTie
import Derived.Test.YtecaabmaoaacnaaGreatDoorCards
import Derived.Test.YtecaabmaoaacnaaGreatDoorM7
import Derived.OwnWalk
namespace Go.Proofs.YtecaabmaoaacnaaGreatDoor
open Go Go.Proofs Go.V Go.RowKit
set_option linter.unusedSimpArgs false

theorem size1 {args : Array Value} {y : Value} (h : args.toList = [y]) : args = #[y] := by
  apply Array.ext'
  rw [h]
theorem seqL_in (l : List Od) (lt : Od → Od → Bool) : ∀ k ∈ seqL l lt, 0 ≤ k ∧ k < l.length := fun k hk => by
  obtain ⟨x, hx, rfl⟩ := List.mem_map.1 hk
  have hpos : 0 < l.length := by
    cases l with
    | nil =>
      have := size_sortN [] lt
      rw [Array.mem_toList_iff] at hx
      obtain ⟨i, hi, _⟩ := Array.mem_iff_getElem.1 hx
      rw [this] at hi
      exact absurd hi (Nat.not_lt_zero _)
    | cons => simp
  have := Nat.mod_lt x hpos
  omega
def fstR (l : List Od) : List Int := if goodO l = true then seqL l fstLt else []
def fstM (l : List Od) : Int := if goodO l = true then mostL (tms l (seqL l fstLt)) else 0
set_option maxRecDepth 100000 in
theorem call_AreOrders {w : World} {F : Nat → Prop} (l : List Od) (h : l.length ≤ 1048576) {y : Value} (hr : RepV w F (ods l) y) (hF : ∀ b, F b → b < w.heap.size) :
    Calls Tryz.prog 12 #[y] w fun e w' => e = .returned (.bool (goodO l)) ∧ Below w.heap.size w w' :=
  calls_flat1 (Go.Proofs.enters_of Tryz.func12 (by kernel_rfl) rfl) M_impl_AreOrders F_impl_AreOrders rfl (e_impl_AreOrders l h) rfl (F := F) gOk_nil
    (show ArgOk w _ _ (.dat 2) (ods l) y ∧ True from ⟨.inr hr, trivial⟩) hF
set_option maxRecDepth 100000 in
theorem call_greatest {w : World} {F : Nat → Prop} (l : List Int) (h : l.length ≤ 1048577) {y : Value} (hr : RepV w F (ints l) y) (hF : ∀ b, F b → b < w.heap.size) :
    Calls Tryz.prog 25 #[y] w fun e w' => e = .returned (.int .i64 (mostL l)) ∧ Below w.heap.size w w' :=
  calls_flat1 (Go.Proofs.enters_of Tryz.func25 (by kernel_rfl) rfl) M_impl_greatest F_impl_greatest rfl (e_impl_greatest l h) rfl (F := F) gOk_nil
    (show ArgOk w _ _ (.dat 2) (ints l) y ∧ True from ⟨.inr hr, trivial⟩) hF
set_option maxRecDepth 100000 in
theorem call_finished {w : World} {F : Nat → Prop} (l : List Od) (s : List Int) (hg : ∀ x ∈ l, isOd x = true) (hs : ∀ k ∈ s, 0 ≤ k ∧ k < l.length) (hl : s.length ≤ 8) {y z : Value} (h1 : RepV w F (ods l) y) (h2 : RepV w F (ints s) z) (hF : ∀ b, F b → b < w.heap.size) :
    Calls Tryz.prog 22 #[y, z] w fun e w' => ∃ v F', e = .returned v ∧ RepV w' F' (ints (tms l s)) v ∧ (∀ b, F' b → b < w'.heap.size) ∧ Below w.heap.size w w' := by
  refine (calls_of_meets' (ow := fun _ => none) (F := F) (ds := [ods l, ints s]) (rs := [ints (tms l s)]) (us := []) (args := #[y, z]) (Go.Proofs.enters_of Tryz.func22 (by kernel_rfl) rfl) M_impl_finished (e_impl_finished l s hg hs (by omega)) gOk_nil
    (show ArgOk w _ _ (.dat 2) (ods l) y ∧ ArgOk w _ _ (.dat 2) (ints s) z ∧ True from ⟨.inr h1, .inr h2, trivial⟩) (fun b hb => ⟨hF b hb, rfl⟩) (fun b i h => by cases h)).mono ?_
  rintro e w' ⟨v, rfl, F', R, vs, rfl, hp⟩
  have hl := hp.len
  obtain ⟨u, rfl⟩ := List.length_eq_one_iff.1 (hl.trans rfl)
  have h0 := hp.res 0
  rcases h0 with h0 | h0
  · cases h0
  refine ⟨u, _, rfl, OwnV_rep h0, fun b hb => ?_, ⟨hp.os, hp.tape, hp.output, hp.size, fun b hb => hp.keep b hb rfl⟩⟩
  rcases hb with hb | hb
  · exact hb.elim
  · exact (hp.rn b 0 hb.1).2

set_option maxHeartbeats 2000000 in
set_option maxRecDepth 1000000 in
theorem fast_walk (l : List Od) (h : l.length ≤ 1048576) (A : Option Addr) (c : Nat) (w : World) (F : Nat → Prop) (hr : RepV w F (ods l) (.slice A l.length c)) (hF : ∀ b, F b → b < w.heap.size)
    (hA : l ≠ [] → ∃ b o, A = some ⟨b, o, none⟩ ∧ F b ∧ ∀ (i : Nat) (x : Od), l[i]? = some x → CellsAt w b (o + i * 4) (cellsO x)) :
    Calls Tryz.prog 9 #[.slice A l.length c] w fun e w' => ∃ g cap cur, e = .returned (.tuple #[.slice (some ⟨g, 0, none⟩) (fstR l).length cap, .int .i64 (fstM l), .bool (goodO l)]) ∧ Below w.heap.size w w' ∧ w.heap.size ≤ g ∧
      w'.heap[g]? = some (.cells cur 3 (0, 0)) ∧ (fstR l).length ≤ cap ∧ cap ≤ cur.size ∧ ∀ (i : Nat) (u : Value), ((fstR l).map (Value.int .i64))[i]? = some u → cur[i]? = some u := by
  have hc1 := call_AreOrders l h hr hF
  go_enter Tryz.func9, Tryz.ntmps9
  cases hgd : goodO l
  · rw [hgd] at hc1
    go_wp2_with (go_at_call 12; refine hc1.mono ?_)
    rintro e w1 ⟨rfl, b1⟩
    go_wp2
    go_ret3
    have e1 : fstR l = [] := by simp [fstR, hgd]
    have e2 : fstM l = 0 := by simp [fstM, hgd]
    rw [e1, e2]
    exact ⟨w1.heap.size, 0, #[], rfl, b1.alloc b1.size _, b1.size, at_alloc _ rfl, Nat.le_refl _, Nat.le_refl _, fun i u hu => by simp at hu⟩
  · rw [hgd] at hc1
    have hl8 := goodO_len hgd
    have e1 : fstR l = seqL l fstLt := by simp [fstR, hgd]
    have e2 : fstM l = mostL (tms l (seqL l fstLt)) := by simp [fstM, hgd]
    have hsl := seqL_length l fstLt
    rw [e1, e2, hsl]
    go_wp2_with (go_at_call 12; refine hc1.mono ?_)
    rintro e w1 ⟨rfl, b1⟩
    have hc2 := seq_walk fst_walk l hl8 A c w1 (fun hne => by
      obtain ⟨b, o, h1, h2, h3⟩ := hA hne
      have hb := hF b h2
      exact ⟨b, o, h1, Nat.lt_of_lt_of_le hb b1.size, fun i x hx t u hu => (b1.cell (by exact hb)).trans (h3 i x hx t u hu)⟩)
    go_wp2_with (go_at_call 26; refine hc2.mono ?_)
    rintro e w2 ⟨g, cap, cur, rfl, b2, hgg, hcell, hcap, hcs, hrow⟩
    have b12 := b1.trans (b2.mono b1.size)
    have hg2 : g < w2.heap.size := (Array.getElem?_eq_some_iff.1 hcell).1
    have hrow' : ∀ (i : Nat) (u : Value), ((seqL l fstLt).map (Value.int .i64))[i]? = some u → cur[i]? = some u := fun i u hu => by
      refine hrow i u ?_
      rw [← hu]
      simp only [seqL, List.map_map]
      rfl
    have ho : OwnV w2 (fun _ => False) (fun b => b = g) 1 (ints (seqL l fstLt)) (.slice (some ⟨g, 0, none⟩) l.length cap) :=
      ⟨(seqL l fstLt).map I, rfl, fun x hx => by obtain ⟨s, _, rfl⟩ := List.mem_map.1 hx; rfl, .inr ⟨g, 0, cap, (seqL l fstLt).map (Value.int .i64), cur, _, by rw [List.length_map, hsl], by rw [List.length_map, hsl]; exact hcap, hcell, by omega, RepL_ints _, fun i u hu => by rw [Nat.zero_add]; exact hrow' i u hu, rfl⟩⟩
    have hr2 : RepV w2 (fun b => F b ∨ b = g) (ods l) (.slice A l.length c) := RepV_mono (fun b hb => .inl hb) (fun b hb => b12.block b (hF b hb)) hr
    have hs2 : RepV w2 (fun b => F b ∨ b = g) (ints (seqL l fstLt)) (.slice (some ⟨g, 0, none⟩) l.length cap) := RepV_mono (fun b hb => hb.elim False.elim (fun e => .inr e)) (fun _ _ => rfl) (OwnV_rep ho)
    have hc3 := call_finished l (seqL l fstLt) (goodO_all hgd).1 (seqL_in l fstLt) (by omega) hr2 hs2 (fun b hb => by
      rcases hb with hb | rfl
      · exact Nat.lt_of_lt_of_le (hF b hb) b12.size
      · exact hg2)
    go_wp2_with (go_at_call 22; refine hc3.mono ?_)
    rintro e w3 ⟨v, F3, rfl, h3, hF3, b3⟩
    have hc4 := call_greatest (tms l (seqL l fstLt)) (by rw [timesO_len]; omega) h3 hF3
    go_wp2_with (go_at_call 25; refine hc4.mono ?_)
    rintro e w4 ⟨rfl, b4⟩
    go_wp2
    go_ret3
    have b34 := b3.trans (b4.mono b3.size)
    exact ⟨g, cap, cur, rfl, b12.trans (b34.mono b12.size), Nat.le_trans b1.size hgg, (b34.block g hg2).trans hcell, hcap, hcs, hrow'⟩

theorem fstR_len (l : List Od) : (fstR l).length ≤ l.length := by
  unfold fstR
  split
  · rw [seqL_length]
    exact Nat.le_refl _
  · exact Nat.zero_le _
def fFast : List D → Option Out
  | [.arr _ ds] => (odsOf ds).bind fun l => if l.length ≤ 1048576 then some (.ret [ints (fstR l), I (fstM l), B (goodO l)] []) else none
  | _ => none
@[reducible] def S_impl_FastestSequence : FS := { pm := [.dat 2], rm := [.own 1 0 false, .dat 0, .dat 0], f := fFast }
set_option maxRecDepth 100000 in
theorem M_impl_FastestSequence : Meets gl0 Tryz.prog 9 S_impl_FastestSequence := by
  have he : ∀ args w, (callFunc 9 args).run Tryz.prog w = .ok (.enter 9 args) w := Go.Proofs.enters_of Tryz.func9 (by kernel_rfl) rfl
  refine meets_of_calls he fun ds rs us hd args w F ow hg ha hF _ => ?_
  obtain ⟨d, y, rfl, h2, h3⟩ := args_one ha
  replace hd : fFast [d] = some (.ret rs us) := hd
  unfold fFast at hd
  split at hd
  case h_2 => cases hd
  rename_i z ds e
  cases e
  obtain ⟨l, hl, hd'⟩ := Option.bind_eq_some_iff.1 hd
  clear hd
  split at hd'
  case isFalse => cases hd'
  rename_i hz
  cases hd'
  obtain rfl := odsOf_some _ _ hl
  rcases h3 with h3 | h3
  · cases h3
  replace h3 : RepV w F (.arr z (l.map od)) y := h3
  have h3' := h3
  simp only [RepV, RepC] at h3
  obtain ⟨A, c, us', hy, hc, hr, hz2, hA⟩ := h3
  simp only [List.cons.injEq, and_true] at hy
  subst hy
  rw [rep_ods l us' hr] at hA
  rw [size1 h2]
  rw [List.length_map] at hc h3' ⊢
  have hrep : RepV w F (ods l) (.slice A l.length c) := by
    simp only [RepV, RepC]
    refine ⟨A, c, us', by rw [List.length_map], by rw [List.length_map]; exact hc, hr, fun d hd => ?_, fun hne => ?_⟩
    · obtain ⟨x, _, rfl⟩ := List.mem_map.1 hd
      rfl
    · obtain ⟨b, o, h5, h6, h7⟩ := hA hne
      exact ⟨b, o, h5, h6, by rw [rep_ods l us' hr]; exact h7⟩
  refine (fast_walk l hz A c w F hrep (fun b hb => (hF b hb).1) (fun hne => ?_)).mono ?_
  · obtain ⟨b, o, rfl, h5, h6⟩ := hA (by simpa using hne)
    exact ⟨b, o, rfl, h5, cells_ods l o h6⟩
  · rintro e w' ⟨gg, cap, cur, rfl, hB, hgg, hcell, hcap, hcs, hrow⟩
    refine ⟨_, rfl, F, fun b => if b = gg then some 0 else none, [_, _, _], rfl, post_own _ hB hF (fun b j hb => ?_) rfl rfl rfl rfl fun j => ?_⟩
    · split at hb
      · rename_i e
        subst e
        exact ⟨hgg, (Array.getElem?_eq_some_iff.1 hcell).1⟩
      · cases hb
    · match j with
      | 0 =>
        refine .inr ⟨(fstR l).map I, rfl, fun x hx => ?_, .inr ⟨gg, 0, cap, (fstR l).map (Value.int .i64), cur, _, ?_, ?_, hcell, by omega, RepL_ints _, fun i u hu => ?_, by simp, hgg⟩⟩
        · obtain ⟨s, _, rfl⟩ := List.mem_map.1 hx
          rfl
        · rw [List.length_map]
          rfl
        · rw [List.length_map]
          exact hcap
        · rw [Nat.zero_add]
          exact hrow i u hu
      | 1 => exact .inr (RepV_v.2 ⟨rfl, rfl⟩)
      | 2 => exact .inr (RepV_v.2 ⟨rfl, rfl⟩)
      | j + 3 => exact .inl rfl
end Go.Proofs.YtecaabmaoaacnaaGreatDoor
/-
  The fastest sequence: what the functions compute.
-/
namespace Go.Proofs.YtecaabmaoaacnaaGreatDoor
open Go Go.Proofs Go.V
set_option linter.unusedSimpArgs false

theorem e_spec_orEnd (l : List Od) (s : List Int) (hg : ∀ x ∈ l, isOd x = true) (hs : ∀ k ∈ s, 0 ≤ k ∧ k < l.length) (hl : s.length ≤ 8) : F_spec_orEnd [ods l, ints s] = some (.ret [I (mostL (tms l s))] []) := by
  rw [t_spec_orEnd, most_times hg hs]
  have he := e_spec_orTimes l s hg hs (by omega)
  by_cases hne : s = []
  · subst hne
    simp -implicitDefEqProofs [he, timesO]
  · obtain ⟨s', k, rfl⟩ : ∃ s' k, s = s' ++ [k] := ⟨s.dropLast, s.getLast hne, (List.dropLast_concat_getLast hne).symm⟩
    rw [timesO_snoc] at he
    have hlen := timesO_len l s' (0, 0, 0)
    have hl' : s'.length ≤ 7 := by simp at hl; omega
    generalize ((s' ++ [k]).foldl (runO l) (0, 0, 0)) = r at he
    generalize timesO l (0, 0, 0) s' = T at he hlen
    have hw : IntKind.i64.wrap ((T.length : Int)) = (T.length : Int) := wrap_id (by omega) (by omega)
    have hw1 : IntKind.i64.wrap ((T.length : Int) + 1 - 1) = (T.length : Int) := by rw [wrap_id (by omega) (by omega)]; omega
    have hz : ¬ ((T.length : Int) + 1 = 0) := by omega
    simp -implicitDefEqProofs [he, hw, hw1, hz]
def fstKey (x : Od) : Int := if x.2.1 < x.2.2.1 then x.2.1 else 2000 - x.2.2.1
theorem fst_key {a b : Od} (ha : isOd a = true) (hb : isOd b = true) : fstLt a b = decide (fstKey a < fstKey b) := by
  simp only [isOd, Bool.and_eq_true, decide_eq_true_eq] at ha hb
  unfold fstLt fstKey
  by_cases h1 : a.2.1 < a.2.2.1 <;> by_cases h2 : b.2.1 < b.2.2.1 <;> simp [h1, h2] <;> omega
theorem fstR_key (l : List Od) (h : goodO l = true) : fstR l = nInts (srtK (l.map fstKey) l.length) := by
  unfold fstR
  rw [if_pos h]
  have hg := (goodO_all h).1
  exact seqL_key l fstLt fstKey fun x hx y hy => fst_key (hg x hx) (hg y hy)
theorem e_spec_FastestSequence (l : List Od) (hl : l.length ≤ 1048576) : F_spec_FastestSequence [ods l] = some (.ret [ints (fstR l), I (fstM l), B (goodO l)] []) := by
  rw [t_spec_FastestSequence]
  cases ha : goodO l
  · simp -implicitDefEqProofs [e_spec_orGood l hl, ha, fstR, fstM]
  · have hg := (goodO_all ha).1
    have h8 := (goodO_all ha).2
    simp -implicitDefEqProofs only [e_spec_orGood l hl, ha, callK_ret, sl_zero, un_not, Bool.not_true, Option.bind_some, ifD_B, Bool.false_eq_true, if_false, lenD_arr, List.length_map]
    refine loop_bind (.ext 0 [ods l, ints (l.map fstKey)]) (loop_for l.length (fun i => [ods l, ints ((l.map fstKey).take i), ods l, I l.length, I i]) _ (fun i hi => ?_) ?_ rfl rfl) ?_
    · have hw : IntKind.i64.wrap ((i : Int) + 1) = (i : Int) + 1 := wrap_id (by omega) (by omega)
      have hax := app_ints (l := (l.map fstKey).take i) (m := [fstKey l[i]]) (by simp; omega)
      have ht : (l.map fstKey).take (i + 1) = (l.map fstKey).take i ++ [fstKey l[i]] := by
        rw [List.take_succ_eq_append_getElem (by simpa using hi)]
        simp
      have ho := hg l[i] (List.getElem_mem hi)
      simp only [isOd, Bool.and_eq_true, decide_eq_true_eq] at ho
      have hw2 : IntKind.i64.wrap (2000 - l[i].2.2.1) = 2000 - l[i].2.2.1 := wrap_id (by omega) (by omega)
      rw [ht]
      by_cases hc : l[i].2.1 < l[i].2.2.1
      · have hk : fstKey l[i] = l[i].2.1 := by simp [fstKey, hc]
        rw [hk] at hax ⊢
        simp -implicitDefEqProofs [hi, hw, one_int, chk_int, hax, -appD_eq, hc]
      · have hk : fstKey l[i] = 2000 - l[i].2.2.1 := by simp [fstKey, hc]
        rw [hk] at hax ⊢
        simp -implicitDefEqProofs [hi, hw, hw2, one_int, chk_int, hax, -appD_eq, hc]
    · have ht : (l.map fstKey).take l.length = l.map fstKey := List.take_of_length_le (by simp)
      rw [ht]
      simp
    · have h1 := e_spec_orSorted (l.map fstKey) (by simp; omega)
      rw [List.length_map, ← fstR_key l ha] at h1
      have hr : fstR l = seqL l fstLt := by simp [fstR, ha]
      have h2 := e_spec_orEnd l (fstR l) hg (by rw [hr]; exact seqL_in l fstLt) (by have := fstR_len l; omega)
      have hm : fstM l = mostL (tms l (fstR l)) := by rw [hr]; simp [fstM, ha]
      rw [← hm] at h2
      simp -implicitDefEqProofs [h1, h2]
theorem e_fFast (l : List Od) (hl : l.length ≤ 1048576) : fFast [ods l] = some (.ret [ints (fstR l), I (fstM l), B (goodO l)] []) := by
  simp [fFast, odsOf_map, hl]
end Go.Proofs.YtecaabmaoaacnaaGreatDoor
/-
  The draws of the orders' law.
-/
namespace Go.Proofs.YtecaabmaoaacnaaGreatDoor
open Go Go.V
set_option linter.unusedSimpArgs false

theorem joinC_P {f : (List D → Option Out) → Option Out} {k : List D → Option Out} (P : Option Out → Prop) (p : List D → Prop) (hk : ∀ s, p s → P (k s)) (hf : ∀ j : List D → Option Out, (∀ s, p s → P (j s)) → P (f j)) : P (joinC f k) := hf k hk
theorem bld_od (a b c d : Int) : bldD [(0, 1), (1, 1), (2, 1), (3, 1)] [D.v (Value.int IntKind.i64 0), D.v (Value.int IntKind.i64 0), D.v (Value.int IntKind.i64 0), D.v (Value.int IntKind.i64 0)] [I a, I b, I c, I d] = some (od (a, b, c, d)) := rfl
theorem mk_od (x : Od) : mkArr 4 [od x] = some (ods [x]) := by simp [mkArr, lenOkD]
theorem chk_ods (l : List Od) : chkA (ods l) = some (ods l) := chkA_map fun _ => rfl
theorem app_ods {l m : List Od} (h : l.length + m.length ≤ 1000) : appD 4 32 (ods l) (ods m) = some (ods (l ++ m)) := by
  simp [appD]
  omega
theorem ref_od {l : List Od} {k : Int} (h0 : 0 ≤ k) (h : k < l.length) : refI 4 (ods l) (I k) = some (.ref k.toNat 0) := by
  simp [refI, h0, h]
theorem refAdd_eq (off i f : Nat) : refAdd off (.ref i f) = some (.ref i (f + off)) := rfl
def putF (x : Od) (f : Nat) (v : Int) : Od := match f with
  | 0 => (v, x.2.1, x.2.2.1, x.2.2.2)
  | 1 => (x.1, v, x.2.2.1, x.2.2.2)
  | 2 => (x.1, x.2.1, v, x.2.2.2)
  | _ => (x.1, x.2.1, x.2.2.1, v)
theorem st_od {l : List Od} {k : Nat} (f : Nat) (v : Int) (hf : f < 4) (h : k < l.length) : stD 1 (ods l) (.ref k (0 + f)) (I v) = some (ods (l.set k (putF l[k] f v))) := by
  have hs := stD_part (z := 4) (L := l.map od) (i := k) (f := f) (v := .int .i64 v) (c := [I (l[k]).1, I (l[k]).2.1, I (l[k]).2.2.1, I (l[k]).2.2.2]) (by simp [h]) (by simpa using hf)
  have e : ods (l.set k (putF l[k] f v)) = .arr 4 ((l.map od).set k (od (putF l[k] f v))) := by rw [← List.map_set]
  rw [Nat.zero_add, hs, e]
  match f, hf with
  | 0, _ => rfl
  | 1, _ => rfl
  | 2, _ => rfl
  | 3, _ => rfl
set_option maxHeartbeats 2000000 in
theorem d_orders (c : Cur) (B : Nat) (h : c.ok B) (hB : B ≤ 1000000000) : ∃ (l : List Od) (c' : Cur), F_spec_l1Cur_orders [curD c] = some (.ret [ods l] [curD c']) ∧ l.length ≤ 9 ∧ c'.ok (B + 100) := by
  obtain ⟨v1, c1, e1, l1, u1, k1⟩ := d_pick c 6 B h (by omega) (by omega)
  rw [t_spec_l1Cur_orders]
  simp -implicitDefEqProofs only [sl_zero, sl_succ, liveD_agg, liveD_ref, liveD_arr, ref0_eq, Option.bind_some, Option.map_some, callK_ret, gate_t, gate_f, gate_s, gateC_t, gateC_f, gateC_s, nrmK_some, pickD_B, ifD_B, ifN_B, if_true, if_false, Bool.false_eq_true, un_not, Bool.not_true, Bool.not_false, decide_true, decide_false, and_self, outK_ext, Nat.beq_refl, bin_lss, bin_gtr, bin_leq, bin_geq, bin_eql, bin_neq, bin_add, bin_sub, bin_mul, lenD_arr, lenD_str, List.length_map, ldD_ptr, takeD_f, chkV_v, offD_ptr, List.drop_zero, List.drop_succ_cons, atD_agg, mkArr_nil, Int.reduceLT, Int.reduceLE, Int.reduceEq, e1]
  refine joinC_P (fun X => ∃ (l : List Od) (c' : Cur), X = some (.ret [ods l] [curD c']) ∧ l.length ≤ 9 ∧ c'.ok (B + 100)) (fun s => ∃ (cz : Cur) (n : Int), s = [curD cz, ods [], I 0, I n] ∧ 0 ≤ n ∧ n ≤ 9 ∧ cz.ok (B + 6)) ?_ ?_
  case refine_2 =>
    intro j hj
    obtain ⟨b, c2, e2, k2⟩ := d_one c1 12 _ k1 (by omega) (by omega)
    cases b
    · simp -implicitDefEqProofs only [sl_zero, sl_succ, liveD_agg, liveD_ref, liveD_arr, ref0_eq, Option.bind_some, Option.map_some, callK_ret, gate_t, gate_f, gate_s, gateC_t, gateC_f, gateC_s, nrmK_some, pickD_B, ifD_B, ifN_B, if_true, if_false, Bool.false_eq_true, un_not, Bool.not_true, Bool.not_false, decide_true, decide_false, and_self, outK_ext, Nat.beq_refl, bin_lss, bin_gtr, bin_leq, bin_geq, bin_eql, bin_neq, bin_add, bin_sub, bin_mul, lenD_arr, lenD_str, List.length_map, ldD_ptr, takeD_f, chkV_v, offD_ptr, List.drop_zero, List.drop_succ_cons, atD_agg, mkArr_nil, Int.reduceLT, Int.reduceLE, Int.reduceEq, e2]
      exact hj _ ⟨c2, v1, rfl, by omega, by omega, k2.mono (by omega)⟩
    · obtain ⟨v3, c3, e3, l3, u3, k3⟩ := d_pick c2 2 _ k2 (by omega) (by omega)
      have hw : IntKind.i64.wrap (8 + v3) = 8 + v3 := wrap_id (by omega) (by omega)
      simp -implicitDefEqProofs only [sl_zero, sl_succ, liveD_agg, liveD_ref, liveD_arr, ref0_eq, Option.bind_some, Option.map_some, callK_ret, gate_t, gate_f, gate_s, gateC_t, gateC_f, gateC_s, nrmK_some, pickD_B, ifD_B, ifN_B, if_true, if_false, Bool.false_eq_true, un_not, Bool.not_true, Bool.not_false, decide_true, decide_false, and_self, outK_ext, Nat.beq_refl, bin_lss, bin_gtr, bin_leq, bin_geq, bin_eql, bin_neq, bin_add, bin_sub, bin_mul, lenD_arr, lenD_str, List.length_map, ldD_ptr, takeD_f, chkV_v, offD_ptr, List.drop_zero, List.drop_succ_cons, atD_agg, mkArr_nil, Int.reduceLT, Int.reduceLE, Int.reduceEq, e2, e3, hw]
      exact hj _ ⟨c3, 8 + v3, rfl, by omega, by omega, k3.mono (by omega)⟩
  rintro _ ⟨cz, n, rfl, hn0, hn9, hk⟩
  simp -implicitDefEqProofs only [sl_zero, sl_succ, liveD_agg, liveD_ref, liveD_arr, ref0_eq, Option.bind_some, Option.map_some, callK_ret, gate_t, gate_f, gate_s, gateC_t, gateC_f, gateC_s, nrmK_some, pickD_B, ifD_B, ifN_B, if_true, if_false, Bool.false_eq_true, un_not, Bool.not_true, Bool.not_false, decide_true, decide_false, and_self, outK_ext, Nat.beq_refl, bin_lss, bin_gtr, bin_leq, bin_geq, bin_eql, bin_neq, bin_add, bin_sub, bin_mul, lenD_arr, lenD_str, List.length_map, ldD_ptr, takeD_f, chkV_v, offD_ptr, List.drop_zero, List.drop_succ_cons, atD_agg, mkArr_nil, Int.reduceLT, Int.reduceLE, Int.reduceEq]
  refine loop_wf_bind (fun X => ∃ (l : List Od) (c' : Cur), X = some (.ret [ods l] [curD c']) ∧ l.length ≤ 9 ∧ c'.ok (B + 100)) (fun a : Cur × List Od × Int => [curD a.1, ods a.2.1, I a.2.2, I n]) (fun a => a.1.ok (B + 6 + 8 * a.2.1.length) ∧ (a.2.1.length : Int) ≤ n)
    (fun a => 9 - a.2.1.length) (fun o => ∃ (ca : Cur) (la : List Od), o = .ext 0 [curD ca, ods la, I n] ∧ ca.ok (B + 6 + 8 * 9) ∧ (la.length : Int) = n) (fun a hI => ?_) ⟨hk.mono (by simp), by simpa using hn0⟩ (a := (cz, [], 0)) rfl (fun o ho => ?_)
  · obtain ⟨ca, la, da⟩ := a
    obtain ⟨hI1, hI2⟩ := hI
    simp only at hI1 hI2
    by_cases hlt : (la.length : Int) < n
    · obtain ⟨w1, ca1, x1, -, -, y1⟩ := d_pick ca 4 _ hI1 (by omega) (by omega)
      obtain ⟨w2, ca2, x2, -, -, y2⟩ := d_pick ca1 10 _ y1 (by omega) (by omega)
      obtain ⟨w3, ca3, x3, -, -, y3⟩ := d_pick ca2 10 _ y2 (by omega) (by omega)
      obtain ⟨w4, ca4, x4, -, -, y4⟩ := d_pick ca3 24 _ y3 (by omega) (by omega)
      refine .inl ⟨(ca4, la ++ [(IntKind.i64.wrap (da + IntKind.i64.wrap (1 + w1)), IntKind.i64.wrap (5 * w2), IntKind.i64.wrap (5 * w3), IntKind.i64.wrap (10 * w4))], IntKind.i64.wrap (da + IntKind.i64.wrap (1 + w1))), ?_, ⟨y4.mono (by simp; omega), by simp; omega⟩, by simp; omega⟩
      have ha := app_ods (l := la) (m := [(IntKind.i64.wrap (da + IntKind.i64.wrap (1 + w1)), IntKind.i64.wrap (5 * w2), IntKind.i64.wrap (5 * w3), IntKind.i64.wrap (10 * w4))]) (by simp only [List.length_singleton]; omega)
      simp -implicitDefEqProofs only [sl_zero, sl_succ, liveD_agg, liveD_ref, liveD_arr, ref0_eq, Option.bind_some, Option.map_some, callK_ret, gate_t, gate_f, gate_s, gateC_t, gateC_f, gateC_s, nrmK_some, pickD_B, ifD_B, ifN_B, if_true, if_false, Bool.false_eq_true, un_not, Bool.not_true, Bool.not_false, decide_true, decide_false, and_self, outK_ext, Nat.beq_refl, bin_lss, bin_gtr, bin_leq, bin_geq, bin_eql, bin_neq, bin_add, bin_sub, bin_mul, lenD_arr, lenD_str, List.length_map, ldD_ptr, takeD_f, chkV_v, offD_ptr, List.drop_zero, List.drop_succ_cons, atD_agg, mkArr_nil, Int.reduceLT, Int.reduceLE, Int.reduceEq, hlt, x1, x2, x3, x4, bld_od, mk_od, chk_ods, ha]
    · refine .inr ⟨.ext 0 [curD ca, ods la, I n], ?_, rfl, ca, la, rfl, hI1.mono (by omega), by omega⟩
      simp -implicitDefEqProofs only [sl_zero, sl_succ, liveD_agg, liveD_ref, liveD_arr, ref0_eq, Option.bind_some, Option.map_some, callK_ret, gate_t, gate_f, gate_s, gateC_t, gateC_f, gateC_s, nrmK_some, pickD_B, ifD_B, ifN_B, if_true, if_false, Bool.false_eq_true, un_not, Bool.not_true, Bool.not_false, decide_true, decide_false, and_self, outK_ext, Nat.beq_refl, bin_lss, bin_gtr, bin_leq, bin_geq, bin_eql, bin_neq, bin_add, bin_sub, bin_mul, lenD_arr, lenD_str, List.length_map, ldD_ptr, takeD_f, chkV_v, offD_ptr, List.drop_zero, List.drop_succ_cons, atD_agg, mkArr_nil, Int.reduceLT, Int.reduceLE, Int.reduceEq, hlt]
  · obtain ⟨cb, lb, rfl, g1, g2⟩ := ho
    by_cases hgt : 0 < n
    · obtain ⟨k, cb1, z1, z2, z3, z4⟩ := d_pick cb n _ g1 (by omega) (by omega)
      obtain ⟨q, cb2, y1, -, -, y4⟩ := d_pick cb1 24 _ z4 (by omega) (by omega)
      have hkl : k.toNat < lb.length := by omega
      have hr := ref_od (l := lb) z2 (by omega)
      have m1 : mkArr 1 [I 0, I 1, I 99, I 100] = some (intsD [0, 1, 99, 100]) := rfl
      have m2 : mkArr 1 [I 500, I 501, I (-1)] = some (intsD [500, 501, -1]) := rfl
      have m3 : mkArr 1 [I 0, I 10000, I 10001, I (-1)] = some (intsD [0, 10000, 10001, -1]) := rfl
      by_cases q0 : q = 0
      · obtain ⟨v, cb3, p1, -, p3⟩ := d_among cb2 [0, 1, 99, 100] _ y4 (by omega) (by simp) (by simp)
        refine ⟨lb.set k.toNat (putF lb[k.toNat] 0 v), cb3, ?_, by rw [List.length_set]; omega, p3.mono (by omega)⟩
        simp -implicitDefEqProofs only [sl_zero, sl_succ, liveD_agg, liveD_ref, liveD_arr, ref0_eq, Option.bind_some, Option.map_some, callK_ret, gate_t, gate_f, gate_s, gateC_t, gateC_f, gateC_s, nrmK_some, pickD_B, ifD_B, ifN_B, if_true, if_false, Bool.false_eq_true, un_not, Bool.not_true, Bool.not_false, decide_true, decide_false, and_self, outK_ext, Nat.beq_refl, bin_lss, bin_gtr, bin_leq, bin_geq, bin_eql, bin_neq, bin_add, bin_sub, bin_mul, lenD_arr, lenD_str, List.length_map, ldD_ptr, takeD_f, chkV_v, offD_ptr, List.drop_zero, List.drop_succ_cons, atD_agg, mkArr_nil, Int.reduceLT, Int.reduceLE, Int.reduceEq, hgt, z1, y1, q0, m1, p1, hr, refAdd_eq, st_od 0 v (by omega) hkl]
      by_cases q1 : q = 1
      · obtain ⟨v, cb3, p1, -, p3⟩ := d_among cb2 [500, 501, -1] _ y4 (by omega) (by simp) (by simp)
        refine ⟨lb.set k.toNat (putF lb[k.toNat] 1 v), cb3, ?_, by rw [List.length_set]; omega, p3.mono (by omega)⟩
        simp -implicitDefEqProofs only [sl_zero, sl_succ, liveD_agg, liveD_ref, liveD_arr, ref0_eq, Option.bind_some, Option.map_some, callK_ret, gate_t, gate_f, gate_s, gateC_t, gateC_f, gateC_s, nrmK_some, pickD_B, ifD_B, ifN_B, if_true, if_false, Bool.false_eq_true, un_not, Bool.not_true, Bool.not_false, decide_true, decide_false, and_self, outK_ext, Nat.beq_refl, bin_lss, bin_gtr, bin_leq, bin_geq, bin_eql, bin_neq, bin_add, bin_sub, bin_mul, lenD_arr, lenD_str, List.length_map, ldD_ptr, takeD_f, chkV_v, offD_ptr, List.drop_zero, List.drop_succ_cons, atD_agg, mkArr_nil, Int.reduceLT, Int.reduceLE, Int.reduceEq, hgt, z1, y1, q0, q1, m2, p1, hr, refAdd_eq, st_od 1 v (by omega) hkl]
      by_cases q2 : q = 2
      · obtain ⟨v, cb3, p1, -, p3⟩ := d_among cb2 [500, 501, -1] _ y4 (by omega) (by simp) (by simp)
        refine ⟨lb.set k.toNat (putF lb[k.toNat] 2 v), cb3, ?_, by rw [List.length_set]; omega, p3.mono (by omega)⟩
        simp -implicitDefEqProofs only [sl_zero, sl_succ, liveD_agg, liveD_ref, liveD_arr, ref0_eq, Option.bind_some, Option.map_some, callK_ret, gate_t, gate_f, gate_s, gateC_t, gateC_f, gateC_s, nrmK_some, pickD_B, ifD_B, ifN_B, if_true, if_false, Bool.false_eq_true, un_not, Bool.not_true, Bool.not_false, decide_true, decide_false, and_self, outK_ext, Nat.beq_refl, bin_lss, bin_gtr, bin_leq, bin_geq, bin_eql, bin_neq, bin_add, bin_sub, bin_mul, lenD_arr, lenD_str, List.length_map, ldD_ptr, takeD_f, chkV_v, offD_ptr, List.drop_zero, List.drop_succ_cons, atD_agg, mkArr_nil, Int.reduceLT, Int.reduceLE, Int.reduceEq, hgt, z1, y1, q0, q1, q2, m2, p1, hr, refAdd_eq, st_od 2 v (by omega) hkl]
      by_cases q3 : q = 3
      · obtain ⟨v, cb3, p1, -, p3⟩ := d_among cb2 [0, 10000, 10001, -1] _ y4 (by omega) (by simp) (by simp)
        refine ⟨lb.set k.toNat (putF lb[k.toNat] 3 v), cb3, ?_, by rw [List.length_set]; omega, p3.mono (by omega)⟩
        simp -implicitDefEqProofs only [sl_zero, sl_succ, liveD_agg, liveD_ref, liveD_arr, ref0_eq, Option.bind_some, Option.map_some, callK_ret, gate_t, gate_f, gate_s, gateC_t, gateC_f, gateC_s, nrmK_some, pickD_B, ifD_B, ifN_B, if_true, if_false, Bool.false_eq_true, un_not, Bool.not_true, Bool.not_false, decide_true, decide_false, and_self, outK_ext, Nat.beq_refl, bin_lss, bin_gtr, bin_leq, bin_geq, bin_eql, bin_neq, bin_add, bin_sub, bin_mul, lenD_arr, lenD_str, List.length_map, ldD_ptr, takeD_f, chkV_v, offD_ptr, List.drop_zero, List.drop_succ_cons, atD_agg, mkArr_nil, Int.reduceLT, Int.reduceLE, Int.reduceEq, hgt, z1, y1, q0, q1, q2, q3, m3, p1, hr, refAdd_eq, st_od 3 v (by omega) hkl]
      · refine ⟨lb, cb2, ?_, by omega, y4.mono (by omega)⟩
        simp -implicitDefEqProofs only [sl_zero, sl_succ, liveD_agg, liveD_ref, liveD_arr, ref0_eq, Option.bind_some, Option.map_some, callK_ret, gate_t, gate_f, gate_s, gateC_t, gateC_f, gateC_s, nrmK_some, pickD_B, ifD_B, ifN_B, if_true, if_false, Bool.false_eq_true, un_not, Bool.not_true, Bool.not_false, decide_true, decide_false, and_self, outK_ext, Nat.beq_refl, bin_lss, bin_gtr, bin_leq, bin_geq, bin_eql, bin_neq, bin_add, bin_sub, bin_mul, lenD_arr, lenD_str, List.length_map, ldD_ptr, takeD_f, chkV_v, offD_ptr, List.drop_zero, List.drop_succ_cons, atD_agg, mkArr_nil, Int.reduceLT, Int.reduceLE, Int.reduceEq, hgt, z1, y1, q0, q1, q2, q3]
    · refine ⟨lb, cb, ?_, by omega, g1.mono (by omega)⟩
      simp -implicitDefEqProofs only [sl_zero, sl_succ, liveD_agg, liveD_ref, liveD_arr, ref0_eq, Option.bind_some, Option.map_some, callK_ret, gate_t, gate_f, gate_s, gateC_t, gateC_f, gateC_s, nrmK_some, pickD_B, ifD_B, ifN_B, if_true, if_false, Bool.false_eq_true, un_not, Bool.not_true, Bool.not_false, decide_true, decide_false, and_self, outK_ext, Nat.beq_refl, bin_lss, bin_gtr, bin_leq, bin_geq, bin_eql, bin_neq, bin_add, bin_sub, bin_mul, lenD_arr, lenD_str, List.length_map, ldD_ptr, takeD_f, chkV_v, offD_ptr, List.drop_zero, List.drop_succ_cons, atD_agg, mkArr_nil, Int.reduceLT, Int.reduceLE, Int.reduceEq, hgt]

theorem slice_ints {l : List Int} {v : Int} (h0 : 0 ≤ v) (h : v ≤ l.length) : sliceD false 1 (ints l) (I 0) (I v) = some (ints (l.take v.toNat)) := by
  have := sliceD_nat (z := 1) (i := 0) (j := v.toNat) (l := l.map I) (k := .i64) (k' := .i64) (Nat.zero_le _) (by simp; omega)
  rw [show ((v.toNat : Nat) : Int) = v by omega] at this
  rw [List.drop_zero, ← List.map_take] at this
  exact this
theorem sliceHi_ints {l : List Int} {v : Int} (h0 : 0 ≤ v) (h : v ≤ l.length) : sliceHi false 1 (ints l) (I v) = some (ints (l.drop v.toNat)) := by
  have := sliceHi_nat (z := 1) (i := v.toNat) (l := l.map I) (k := .i64) (by simp; omega)
  rw [show ((v.toNat : Nat) : Int) = v by omega] at this
  rw [← List.map_drop] at this
  exact this
set_option maxHeartbeats 2000000 in
theorem d_sequence (c : Cur) (n : Nat) (B : Nat) (h : c.ok B) (hB : B ≤ 1000000000) (hn : n ≤ 9) : ∃ (s : List Int) (c' : Cur), F_spec_l1Cur_sequence [curD c, I n] = some (.ret [ints s] [curD c']) ∧ s.length ≤ 20 ∧ (∀ x ∈ s, inI x) ∧ c'.ok (B + 100) := by
  rw [t_spec_l1Cur_sequence]
  refine loop_wf_bind (fun X => ∃ (s : List Int) (c' : Cur), X = some (.ret [ints s] [curD c']) ∧ s.length ≤ 20 ∧ (∀ x ∈ s, inI x) ∧ c'.ok (B + 100)) (fun a : Cur × List Int => [curD a.1, I n, ints a.2, I (a.2.length : Int)]) (fun a => a.1.ok (B + 2 * a.2.length) ∧ a.2.length ≤ n ∧ ∀ x ∈ a.2, inI x)
    (fun a => n - a.2.length) (fun o => ∃ (ca : Cur) (la : List Int), o = .ext 0 [curD ca, I n, ints la] ∧ ca.ok (B + 2 * n) ∧ la.length = n ∧ ∀ x ∈ la, inI x) (fun a hI => ?_) ⟨h.mono (by simp), by simp, by simp⟩ (a := (c, [])) rfl (fun o ho => ?_)
  · obtain ⟨ca, la⟩ := a
    obtain ⟨hI1, hI2, hI3⟩ := hI
    simp only at hI1 hI2 hI3
    by_cases hlt : (la.length : Int) < n
    · have hw : IntKind.i64.wrap ((la.length : Int) + 1) = (la.length : Int) + 1 := wrap_id (by omega) (by omega)
      obtain ⟨v, ca1, x1, x2, x3, y1⟩ := d_pick ca ((la.length : Int) + 1) _ hI1 (by omega) (by omega)
      have s1 := slice_ints (l := la) x2 (by omega)
      have s2 := sliceHi_ints (l := la) x2 (by omega)
      have a1 := app_ints (l := []) (m := la.take v.toNat) (by simp; omega)
      have a2 := app_ints (l := la.take v.toNat) (m := [(la.length : Int)]) (by simp; omega)
      have a3 := app_ints (l := la.take v.toNat ++ [(la.length : Int)]) (m := la.drop v.toNat) (by simp; omega)
      have hlen : (la.take v.toNat ++ [(la.length : Int)] ++ la.drop v.toNat).length = la.length + 1 := by simp; omega
      refine .inl ⟨(ca1, la.take v.toNat ++ [(la.length : Int)] ++ la.drop v.toNat), ?_, ⟨by rw [hlen]; exact y1.mono (by omega), by rw [hlen]; omega, fun x hx => ?_⟩, by simp only [hlen]; omega⟩
      · rw [List.nil_append, show ints [] = D.arr 1 [] from rfl] at a1
        simp -implicitDefEqProofs only [sl_zero, sl_succ, liveD_agg, liveD_ref, liveD_arr, ref0_eq, Option.bind_some, Option.map_some, callK_ret, gate_t, gate_f, gate_s, gateC_t, gateC_f, gateC_s, nrmK_some, pickD_B, ifD_B, ifN_B, if_true, if_false, Bool.false_eq_true, un_not, Bool.not_true, Bool.not_false, decide_true, decide_false, and_self, outK_ext, Nat.beq_refl, bin_lss, bin_gtr, bin_leq, bin_geq, bin_eql, bin_neq, bin_add, bin_sub, bin_mul, lenD_arr, lenD_str, List.length_map, ldD_ptr, takeD_f, chkV_v, offD_ptr, List.drop_zero, List.drop_succ_cons, atD_agg, mkArr_nil, Int.reduceLT, Int.reduceLE, Int.reduceEq, hlt, hw, x1, s1, chkA_ints, a1, one_int, a2, s2, a3, hlen, Int.natCast_add, Int.natCast_one]
      · simp only [List.mem_append, List.mem_singleton] at hx
        rcases hx with (hx | rfl) | hx
        · exact hI3 x (List.mem_of_mem_take hx)
        · exact ⟨by omega, by omega⟩
        · exact hI3 x (List.mem_of_mem_drop hx)
    · refine .inr ⟨.ext 0 [curD ca, I n, ints la], ?_, rfl, ca, la, rfl, hI1.mono (by omega), by omega, hI3⟩
      simp -implicitDefEqProofs only [sl_zero, sl_succ, liveD_agg, liveD_ref, liveD_arr, ref0_eq, Option.bind_some, Option.map_some, callK_ret, gate_t, gate_f, gate_s, gateC_t, gateC_f, gateC_s, nrmK_some, pickD_B, ifD_B, ifN_B, if_true, if_false, Bool.false_eq_true, un_not, Bool.not_true, Bool.not_false, decide_true, decide_false, and_self, outK_ext, Nat.beq_refl, bin_lss, bin_gtr, bin_leq, bin_geq, bin_eql, bin_neq, bin_add, bin_sub, bin_mul, lenD_arr, lenD_str, List.length_map, ldD_ptr, takeD_f, chkV_v, offD_ptr, List.drop_zero, List.drop_succ_cons, atD_agg, mkArr_nil, Int.reduceLT, Int.reduceLE, Int.reduceEq, hlt]
  · obtain ⟨cb, lb, rfl, g1, g2, g3⟩ := ho
    obtain ⟨q, cb2, y1, -, -, y4⟩ := d_pick cb 24 _ g1 (by omega) (by omega)
    by_cases q0 : q = 0
    · refine ⟨lb ++ [0], cb2, ?_, by simp; omega, fun x hx => ?_, y4.mono (by omega)⟩
      · have a1 := app_ints (l := lb) (m := [0]) (by simp; omega)
        simp -implicitDefEqProofs only [sl_zero, sl_succ, liveD_agg, liveD_ref, liveD_arr, ref0_eq, Option.bind_some, Option.map_some, callK_ret, gate_t, gate_f, gate_s, gateC_t, gateC_f, gateC_s, nrmK_some, pickD_B, ifD_B, ifN_B, if_true, if_false, Bool.false_eq_true, un_not, Bool.not_true, Bool.not_false, decide_true, decide_false, and_self, outK_ext, Nat.beq_refl, bin_lss, bin_gtr, bin_leq, bin_geq, bin_eql, bin_neq, bin_add, bin_sub, bin_mul, lenD_arr, lenD_str, List.length_map, ldD_ptr, takeD_f, chkV_v, offD_ptr, List.drop_zero, List.drop_succ_cons, atD_agg, mkArr_nil, Int.reduceLT, Int.reduceLE, Int.reduceEq, y1, q0, one_int, chkA_ints, a1]
      · simp only [List.mem_append, List.mem_singleton] at hx
        rcases hx with hx | rfl
        · exact g3 x hx
        · exact ⟨by omega, by omega⟩
    by_cases q1 : q = 1
    · by_cases hp : (0 : Int) < n
      · have m1 : mkArr 1 [I 0, I (n : Int), I (-1)] = some (intsD [0, (n : Int), -1]) := rfl
        obtain ⟨v, cb3, p1, p2, p3⟩ := d_among cb2 [0, (n : Int), -1] _ y4 (by omega) (by simp) (by simp)
        have hr : refI 1 (ints lb) (I 0) = some (.ref 0 0) := by
          have : 0 < lb.length := by omega
          simp [refI, this]
        have hs : stD 1 (ints lb) (.ref 0 0) (I v) = some (ints (lb.set 0 v)) := by
          have := stD_arr1 (z := 1) (L := lb.map I) (i := 0) (v := .int .i64 v) (w := .int .i64 (lb[0]'(by omega))) (by simp [show 0 < lb.length by omega])
          rw [this, ← List.map_set]
        refine ⟨lb.set 0 v, cb3, ?_, by rw [List.length_set]; omega, fun x hx => ?_, p3.mono (by omega)⟩
        · simp -implicitDefEqProofs only [sl_zero, sl_succ, liveD_agg, liveD_ref, liveD_arr, ref0_eq, Option.bind_some, Option.map_some, callK_ret, gate_t, gate_f, gate_s, gateC_t, gateC_f, gateC_s, nrmK_some, pickD_B, ifD_B, ifN_B, if_true, if_false, Bool.false_eq_true, un_not, Bool.not_true, Bool.not_false, decide_true, decide_false, and_self, outK_ext, Nat.beq_refl, bin_lss, bin_gtr, bin_leq, bin_geq, bin_eql, bin_neq, bin_add, bin_sub, bin_mul, lenD_arr, lenD_str, List.length_map, ldD_ptr, takeD_f, chkV_v, offD_ptr, List.drop_zero, List.drop_succ_cons, atD_agg, mkArr_nil, Int.reduceLT, Int.reduceLE, Int.reduceEq, y1, q0, q1, hp, m1, p1, hr, hs]
        · rcases List.mem_or_eq_of_mem_set hx with hx | rfl
          · exact g3 x hx
          · simp only [List.mem_cons, List.not_mem_nil, or_false] at p2
            rcases p2 with rfl | rfl | rfl <;> exact ⟨by omega, by omega⟩
      · refine ⟨lb, cb2, ?_, by omega, g3, y4.mono (by omega)⟩
        simp -implicitDefEqProofs only [sl_zero, sl_succ, liveD_agg, liveD_ref, liveD_arr, ref0_eq, Option.bind_some, Option.map_some, callK_ret, gate_t, gate_f, gate_s, gateC_t, gateC_f, gateC_s, nrmK_some, pickD_B, ifD_B, ifN_B, if_true, if_false, Bool.false_eq_true, un_not, Bool.not_true, Bool.not_false, decide_true, decide_false, and_self, outK_ext, Nat.beq_refl, bin_lss, bin_gtr, bin_leq, bin_geq, bin_eql, bin_neq, bin_add, bin_sub, bin_mul, lenD_arr, lenD_str, List.length_map, ldD_ptr, takeD_f, chkV_v, offD_ptr, List.drop_zero, List.drop_succ_cons, atD_agg, mkArr_nil, Int.reduceLT, Int.reduceLE, Int.reduceEq, y1, q0, q1, hp]
    · refine ⟨lb, cb2, ?_, by omega, g3, y4.mono (by omega)⟩
      simp -implicitDefEqProofs only [sl_zero, sl_succ, liveD_agg, liveD_ref, liveD_arr, ref0_eq, Option.bind_some, Option.map_some, callK_ret, gate_t, gate_f, gate_s, gateC_t, gateC_f, gateC_s, nrmK_some, pickD_B, ifD_B, ifN_B, if_true, if_false, Bool.false_eq_true, un_not, Bool.not_true, Bool.not_false, decide_true, decide_false, and_self, outK_ext, Nat.beq_refl, bin_lss, bin_gtr, bin_leq, bin_geq, bin_eql, bin_neq, bin_add, bin_sub, bin_mul, lenD_arr, lenD_str, List.length_map, ldD_ptr, takeD_f, chkV_v, offD_ptr, List.drop_zero, List.drop_succ_cons, atD_agg, mkArr_nil, Int.reduceLT, Int.reduceLE, Int.reduceEq, y1, q0, q1]
end Go.Proofs.YtecaabmaoaacnaaGreatDoor
/-
  Johnson's rule: orders that are composed first and printed then are finished soonest in the order of their keys.
-/
namespace Go.V

/-- What is left to do of a sequence of orders (composing, printing), from the minutes when both are free. -/
def endJ : Int → Int → List (Int × Int) → Int
  | _, p, [] => p
  | c, p, x :: l => endJ (c + x.1) (max p (c + x.1) + x.2) l
def keyJ (x : Int × Int) : Int := if x.1 < x.2 then x.1 else 2000 - x.2
def okJob (x : Int × Int) : Prop := (0 ≤ x.1 ∧ x.1 ≤ 500) ∧ 0 ≤ x.2 ∧ x.2 ≤ 500
theorem endJ_mono : ∀ (l : List (Int × Int)) (c p q : Int), p ≤ q → endJ c p l ≤ endJ c q l
  | [], _, _, _, h => h
  | x :: l, c, p, q, h => endJ_mono l _ _ _ (by omega)
theorem endJ_swap (l : List (Int × Int)) (c p : Int) {x y : Int × Int} (hx : okJob x) (hy : okJob y) (h : keyJ x ≤ keyJ y) : endJ c p (x :: y :: l) ≤ endJ c p (y :: x :: l) := by
  have e : c + x.1 + y.1 = c + y.1 + x.1 := by omega
  have e1 : endJ c p (x :: y :: l) = endJ (c + x.1 + y.1) (max (max p (c + x.1) + x.2) (c + x.1 + y.1) + y.2) l := rfl
  have e2 : endJ c p (y :: x :: l) = endJ (c + y.1 + x.1) (max (max p (c + y.1) + y.2) (c + y.1 + x.1) + x.2) l := rfl
  rw [e1, e2, e]
  refine endJ_mono l _ _ _ ?_
  unfold keyJ at h
  unfold okJob at hx hy
  split at h <;> split at h <;> omega
/-- An order of the least key may as well be first. -/
theorem endJ_first {x : Int × Int} (hx : okJob x) : ∀ (a b : List (Int × Int)) (c p : Int), (∀ y ∈ a, okJob y ∧ keyJ x ≤ keyJ y) → endJ c p (x :: (a ++ b)) ≤ endJ c p (a ++ x :: b)
  | [], _, _, _, _ => Int.le_refl _
  | y :: a, b, c, p, h => by
    have hy := h y (by simp)
    have h1 := endJ_swap (a ++ b) c p hx hy.1 hy.2
    have h2 := endJ_first hx a b (c + y.1) (max p (c + y.1) + y.2) (fun z hz => h z (by simp [hz]))
    exact Int.le_trans h1 h2
/-- Orders in the order of their keys are finished first. -/
theorem johnson : ∀ (s t : List (Int × Int)) (c p : Int), s.Perm t → (∀ x ∈ s, okJob x) → s.Pairwise (fun x y => keyJ x ≤ keyJ y) → endJ c p s ≤ endJ c p t
  | [], t, c, p, hp, _, _ => by rw [hp.nil_eq]; exact Int.le_refl _
  | x :: s, t, c, p, hp, hk, hs => by
    have hx : x ∈ t := hp.mem_iff.1 (by simp)
    obtain ⟨a, b, rfl⟩ := List.append_of_mem hx
    have hp2 : s.Perm (a ++ b) := List.Perm.cons_inv (hp.trans List.perm_middle)
    have hs' := List.pairwise_cons.1 hs
    have h1 := endJ_first (hk x (by simp)) a b c p (fun y hy => by
      have hm : y ∈ s := hp2.mem_iff.2 (by simp [hy])
      exact ⟨hk y (by simp [hm]), hs'.1 y hm⟩)
    have h2 := johnson s (a ++ b) (c + x.1) (max p (c + x.1) + x.2) hp2 (fun y hy => hk y (by simp [hy])) hs'.2
    exact Int.le_trans h2 h1
end Go.V
/-
  Orders: sequences as rearrangements, times that do not fall, the fastest sequence.
-/
namespace Go.Proofs.YtecaabmaoaacnaaGreatDoor
open Go Go.V
set_option linter.unusedSimpArgs false

theorem ins_perm (lt : Nat → Nat → Bool) (x : Nat) (A : List Nat) : (insS lt x A).Perm (x :: A) := by
  unfold insS
  have := List.perm_middle (a := x) (l₁ := A.take (posG lt x A A.length)) (l₂ := A.drop (posG lt x A A.length))
  rwa [List.take_append_drop] at this
theorem srtK_perm (ks : List Int) : ∀ n, (srtK ks n).Perm (List.range n)
  | 0 => List.Perm.refl _
  | n + 1 => by
    rw [srtK_succ, List.range_succ]
    exact (ins_perm _ _ _).trans ((List.Perm.cons n (srtK_perm ks n)).trans (List.perm_append_singleton n (List.range n)).symm)
theorem pos_facts (lt : Nat → Nat → Bool) (x : Nat) (A : List Nat) : ∀ k, (∀ j, posG lt x A k ≤ j → j < k → lt x (A.getD j 0) = true) ∧ (∀ m, posG lt x A k = m + 1 → lt x (A.getD m 0) = false)
  | 0 => ⟨fun j _ h => absurd h (by omega), fun m h => by simp [posG] at h⟩
  | k + 1 => by
    obtain ⟨h1, h2⟩ := pos_facts lt x A k
    unfold posG
    by_cases h : lt x (A.getD k 0) = true
    · rw [if_pos h]
      refine ⟨fun j hj hk => ?_, h2⟩
      by_cases e : j = k
      · rw [e]; exact h
      · exact h1 j hj (by omega)
    · rw [if_neg h]
      refine ⟨fun j hj hk => absurd hj (by omega), fun m hm => ?_⟩
      have : m = k := by omega
      rw [this]
      simpa using h
theorem ins_sorted (ks : List Int) (x : Nat) (A : List Nat) (h : A.Pairwise fun a b => ks.getD a 0 ≤ ks.getD b 0) : (insS (ltK ks) x A).Pairwise fun a b => ks.getD a 0 ≤ ks.getD b 0 := by
  obtain ⟨h1, h2⟩ := pos_facts (ltK ks) x A A.length
  have hle := posG_le (ltK ks) x A A.length
  unfold insS
  generalize posG (ltK ks) x A A.length = p at *
  have hA := List.pairwise_iff_getElem.1 h
  have hlo : ∀ a ∈ A.take p, ks.getD a 0 ≤ ks.getD x 0 := fun a ha => by
    obtain ⟨i, hi, rfl⟩ := List.mem_iff_getElem.1 ha
    rw [List.length_take] at hi
    cases p with
    | zero => omega
    | succ m =>
      have h3 := h2 m rfl
      simp only [ltK, decide_eq_false_iff_not] at h3
      rw [List.getElem_take]
      have h4 : A.getD m 0 = A[m]'(by omega) := by simp [show m < A.length by omega]
      rw [h4] at h3
      by_cases e : i = m
      · subst e; omega
      · have := hA i m (by omega) (by omega) (by omega)
        omega
  have hhi : ∀ a ∈ A.drop p, ks.getD x 0 ≤ ks.getD a 0 := fun a ha => by
    obtain ⟨i, hi, rfl⟩ := List.mem_iff_getElem.1 ha
    rw [List.length_drop] at hi
    rw [List.getElem_drop]
    have h3 := h1 (p + i) (by omega) (by omega)
    simp only [ltK, decide_eq_true_eq] at h3
    have h4 : A.getD (p + i) 0 = A[p + i]'(by omega) := by simp [show p + i < A.length by omega]
    rw [h4] at h3
    omega
  rw [List.pairwise_append, List.pairwise_cons]
  refine ⟨h.sublist (List.take_sublist _ _), ⟨hhi, h.sublist (List.drop_sublist _ _)⟩, fun a ha b hb => ?_⟩
  rcases List.mem_cons.1 hb with rfl | hb
  · exact hlo a ha
  · exact Int.le_trans (hlo a ha) (hhi b hb)
theorem srtK_sorted (ks : List Int) : ∀ n, (srtK ks n).Pairwise fun a b => ks.getD a 0 ≤ ks.getD b 0
  | 0 => List.Pairwise.nil
  | n + 1 => by
    rw [srtK_succ]
    exact ins_sorted ks n _ (srtK_sorted ks n)

/-- A sequence of all places, each once. -/
theorem dif_perm {n : Nat} {s : List Int} (h : difG n s [] = true) (hl : s.length = n) : (s.map Int.toNat).Perm (List.range n) := by
  obtain ⟨h1, h2, _⟩ := difG_facts s [] h
  have hm : ∀ k ∈ s.map Int.toNat, k < n := by
    intro k hk
    obtain ⟨x, hx, rfl⟩ := List.mem_map.1 hk
    have := h1 x hx
    omega
  have hd : (s.map Int.toNat).Nodup := by
    unfold List.Nodup at h2 ⊢
    rw [List.pairwise_map]
    refine h2.imp_of_mem fun {a b} ha hb hne => ?_
    have := h1 a ha
    have := h1 b hb
    omega
  have e1 := sumTo_mem (f := fun _ => 1) _ hm hd
  rw [sumL_one, List.length_map, hl] at e1
  have all := sumTo_full n (fun k _ => by split <;> omega) e1
  rw [List.perm_ext_iff_of_nodup hd List.nodup_range]
  intro k
  rw [List.mem_range]
  refine ⟨hm k, fun hk => ?_⟩
  have := all k hk
  by_cases hmm : k ∈ s.map Int.toNat
  · exact hmm
  · rw [if_neg hmm] at this; omega
theorem dif_of {n : Nat} : ∀ (s seen : List Int), (∀ x ∈ s, 0 ≤ x ∧ x < n) → s.Nodup → (∀ x ∈ s, x ∉ seen) → difG n s seen = true
  | [], _, _, _, _ => rfl
  | x :: s, seen, h1, h2, h3 => by
    rw [List.nodup_cons] at h2
    have hx := h1 x (by simp)
    simp only [difG, Bool.and_eq_true, decide_eq_true_eq, Bool.not_eq_true', decide_eq_false_iff_not]
    refine ⟨⟨⟨hx.1, by omega⟩, h3 x (by simp)⟩, dif_of s (x :: seen) (fun y hy => h1 y (by simp [hy])) h2.2 fun y hy hm => ?_⟩
    rcases List.mem_cons.1 hm with rfl | hm
    · exact h2.1 hy
    · exact h3 y (by simp [hy]) hm
theorem fst_ask {l : List Od} (h : goodO l = true) : askO l (fstR l) = true := by
  have hp := srtK_perm (l.map fstKey) l.length
  rw [fstR_key l h]
  unfold askO
  rw [h]
  simp only [Bool.true_and, Bool.and_eq_true, decide_eq_true_eq, List.length_map]
  refine ⟨by rw [srtK_length], dif_of _ [] (fun x hx => ?_) ?_ (fun _ _ hm => by cases hm)⟩
  · obtain ⟨k, hk, rfl⟩ := List.mem_map.1 hx
    have := srtK_lt _ _ k hk
    omega
  · unfold List.Nodup
    rw [List.pairwise_map]
    have := hp.symm.nodup List.nodup_range
    unfold List.Nodup at this
    exact this.imp fun hne e => hne (by omega)

/-! ### times -/
theorem times_get (l : List Od) : ∀ (s : List Int) (a : Int × Int × Int) (i : Nat) (h : i < (timesO l a s).length), (timesO l a s)[i] = ((s.take (i + 1)).foldl (runO l) a).2.1
  | [], _, _, h => absurd h (by simp [timesO])
  | k :: s, a, 0, _ => by simp [timesO]
  | k :: s, a, i + 1, h => by
    simp only [timesO, List.getElem_cons_succ, List.take_succ_cons, List.foldl_cons]
    exact times_get l s _ i _
theorem times_up {l : List Od} (hg : ∀ x ∈ l, isOd x = true) {s : List Int} (hs : ∀ k ∈ s, 0 ≤ k ∧ k < l.length) (i : Nat) (h : i + 1 < (timesO l (0, 0, 0) s).length) :
    (timesO l (0, 0, 0) s)[i] ≤ (timesO l (0, 0, 0) s)[i + 1] := by
  rw [times_get, times_get]
  have h' := h
  rw [timesO_len] at h'
  rw [way_take h']
  have hk := hs s[i + 1] (List.getElem_mem h')
  have hlt : s[i + 1].toNat < l.length := by omega
  have ho : isOd (oAt l s[i + 1]) = true := by
    have e : oAt l s[i + 1] = l[s[i + 1].toNat] := by simp [oAt, hlt]
    rw [e]
    exact hg _ (List.getElem_mem hlt)
  simp only [isOd, Bool.and_eq_true, decide_eq_true_eq] at ho
  generalize (s.take (i + 1)).foldl (runO l) (0, 0, 0) = a
  obtain ⟨c, p, w⟩ := a
  simp only [runO]
  omega
theorem times_last (l : List Od) (s : List Int) (h : s.length - 1 < (timesO l (0, 0, 0) s).length) (h0 : 0 < s.length) : (timesO l (0, 0, 0) s)[s.length - 1] = (s.foldl (runO l) (0, 0, 0)).2.1 := by
  rw [times_get, show s.length - 1 + 1 = s.length by omega, List.take_length]

/-! ### Johnson's rule -/
def jobO (l : List Od) (k : Nat) : Int × Int := ((l.getD k (0, 0, 0, 0)).2.1, (l.getD k (0, 0, 0, 0)).2.2.1)
theorem run_end (l : List Od) : ∀ (s : List Int) (a : Int × Int × Int), (s.foldl (runO l) a).2.1 = endJ a.1 a.2.1 ((s.map Int.toNat).map (jobO l))
  | [], _ => rfl
  | k :: s, (c, p, w) => by
    rw [List.foldl_cons, run_end l s]
    rfl
theorem job_key (l : List Od) (k : Nat) (h : k < l.length) : keyJ (jobO l k) = (l.map fstKey).getD k 0 := by
  simp [keyJ, jobO, fstKey, h]
theorem job_ok {l : List Od} (hg : ∀ x ∈ l, isOd x = true) (k : Nat) (h : k < l.length) : okJob (jobO l k) := by
  have ho := hg l[k] (List.getElem_mem h)
  simp only [isOd, Bool.and_eq_true, decide_eq_true_eq] at ho
  simp only [okJob, jobO, List.getD_eq_getElem?_getD, List.getElem?_eq_getElem h, Option.getD_some]
  omega
theorem fst_least {l : List Od} (h : goodO l = true) {s : List Int} (hs : askO l s = true) : fstM l ≤ (s.foldl (runO l) (0, 0, 0)).2.1 := by
  obtain ⟨hg, h8, hl, hd, hin⟩ := askO_facts hs
  obtain ⟨_, _, hl', hd', hin'⟩ := askO_facts (fst_ask h)
  have hm : fstM l = mostL (tms l (fstR l)) := by
    have hr : fstR l = seqL l fstLt := by simp [fstR, h]
    rw [hr]; simp [fstM, h]
  rw [hm, most_times hg hin', run_end, run_end]
  have hk := srtK_lt (l.map fstKey) l.length
  have e1 : (fstR l).map Int.toNat = srtK (l.map fstKey) l.length := by
    rw [fstR_key l h, List.map_map]
    exact List.map_id'' (fun _ => rfl) _
  rw [e1]
  refine johnson _ _ 0 0 (((srtK_perm _ _).trans (dif_perm hd hl).symm).map _) (fun x hx => ?_) ?_
  · obtain ⟨k, hk', rfl⟩ := List.mem_map.1 hx
    exact job_ok hg k (hk k hk')
  · rw [List.pairwise_map]
    refine (srtK_sorted (l.map fstKey) l.length).imp_of_mem fun {a b} ha hb hab => ?_
    rw [job_key l a (hk a ha), job_key l b (hk b hb)]
    exact hab
end Go.Proofs.YtecaabmaoaacnaaGreatDoor
/-
  Contexts and contracts of functions, printed by gen.py.
-/
namespace Go.Proofs.YtecaabmaoaacnaaGreatDoor
open Go.V
set_option maxRecDepth 100000
@[reducible] def ty4 : TI := { n := 1, zero := [.v (.bool false)], bl := true }
/-- loop.example/g01054/laws.FnOrders -/
@[reducible] noncomputable def c_laws_FnOrders : Cx := { K := [.dat 2, .dat 2, .no, .no, .dat 0, .dat 1, .dat 1, .dat 1, .dat 0, .dat 1, .dat 0, .dat 0, .dat 0, .dat 0, .dat 0, .dat 1, .dat 0, .dat 0, .dat 1, .dat 0, .dat 0, .dat 0, .no, .box 4 0 false, .dat 0, .dat 1, .dat 0, .box 4 0 false, .dat 0, .dat 0, .dat 0, .dat 0, .dat 0, .box 4 0 false, .dat 0, .box 4 0 false, .dat 0, .box 4 0 false, .dat 0, .dat 2, .dat 0, .dat 2, .dat 0, .dat 0, .dat 0, .tup [.dat 1, .own 1 0 false], .dat 2, .tup [.dat 1, .own 1 0 false], .dat 1, .dat 1, .tup [.own 1 0 false, .dat 0], .dat 1, .dat 1, .tup [.own 1 0 false, .dat 0], .dat 1, .dat 0, .tup [.own 1 0 false, .dat 0], .dat 1, .dat 1, .tup [.own 1 0 false, .dat 0], .dat 1, .dat 0, .tup [.dat 0, .dat 0], .dat 1, .dat 1, .tup [.dat 0, .dat 0], .dat 0, .dat 0, .tup [.dat 0, .dat 0], .dat 1, .dat 1, .tup [.dat 0, .dat 0], .dat 0, .dat 0, .tup [.own 1 0 false, .dat 0, .dat 0], .dat 1, .tup [.own 1 0 false, .dat 0, .dat 0], .dat 1, .dat 0, .dat 0, .tup [.dat 1, .dat 0, .dat 0], .dat 1, .tup [.dat 1, .dat 0, .dat 0], .dat 1, .dat 0, .dat 0, .dat 0, .dat 0, .dat 0, .dat 0, .dat 1, .dat 1, .dat 0, .dat 0, .dat 0, .dat 0, .dat 0, .dat 0, .dat 0, .dat 0, .dat 0, .dat 0, .dat 0, .dat 0, .dat 0, .dat 0, .dat 0, .dat 0, .dat 0, .dat 0, .dat 0, .dat 1, .dat 1, .dat 0, .dat 0, .dat 0, .dat 0, .dat 0, .dat 0, .dat 0, .dat 0, .dat 0, .dat 0, .dat 0, .dat 0, .dat 0, .dat 0, .dat 0, .dat 1, .dat 0, .dat 0, .dat 0, .dat 0, .dat 0, .dat 0, .dat 0, .dat 0, .dat 0, .dat 0, .dat 0, .dat 0, .dat 1, .dat 0, .dat 0, .dat 0, .dat 0, .dat 1, .dat 0, .dat 0, .dat 0, .dat 1, .dat 0, .dat 0, .ref 23, .dat 0, .dat 0, .dat 0, .dat 1, .dat 1, .dat 0, .dat 0, .dat 1, .dat 0, .dat 0, .dat 0, .dat 0, .dat 0, .dat 0, .dat 0, .dat 0, .dat 0, .dat 1, .dat 0, .dat 0, .dat 0, .dat 0, .dat 1, .dat 0, .dat 1, .dat 0, .dat 1, .dat 0, .dat 0, .dat 1, .dat 0, .dat 0, .dat 0, .dat 0, .dat 1, .dat 0, .dat 0, .dat 0, .tup [.own 1 0 false, .dat 0], .dat 1, .dat 1, .tup [.own 1 0 false, .dat 0], .dat 1, .dat 0, .dat 0, .dat 0, .dat 0, .dat 1, .dat 1, .dat 0, .dat 0, .dat 1, .dat 0, .dat 0, .dat 0, .dat 0, .dat 2, .dat 0, .tup [.dat 0, .dat 0], .dat 0, .tup [.dat 0, .dat 0], .dat 0, .dat 0, .tup [.dat 0, .dat 0], .dat 0, .tup [.dat 0, .dat 0], .dat 0, .dat 0, .dat 2, .dat 0, .tup [.dat 0, .dat 0], .dat 0, .tup [.dat 0, .dat 0], .dat 0, .dat 0, .tup [.dat 0, .dat 0], .dat 0, .tup [.dat 0, .dat 0], .dat 0, .dat 0, .dat 0, .dat 0, .dat 0, .dat 0, .dat 0, .dat 0, .dat 0, .dat 0, .dat 0, .dat 0, .dat 0, .dat 0, .dat 0, .dat 0, .dat 0, .dat 0, .dat 0, .dat 0, .dat 0, .tup [.dat 0, .dat 0], .dat 0, .tup [.dat 0, .dat 0], .dat 0, .dat 0, .dat 0, .dat 0, .dat 0, .dat 0, .dat 0, .dat 0], T := [(3, ty3), (4, ty4), (5, ty5), (9, ty9), (22, ty22), (23, ty23), (24, ty24), (36, ty36)], S := [(4, S_spec_DrawFinishTimes), (5, S_impl_FinishTimes), (6, S_spec_FinishTimes), (7, S_impl_IdlePress), (8, S_spec_IdlePress), (9, S_impl_FastestSequence), (10, S_spec_FastestSequence), (11, S_laws_qInts), (12, S_impl_AreOrders), (13, S_spec_DrawOrderText), (14, S_impl_OrderText), (15, S_spec_OrderText), (16, S_spec_DrawParseOrder), (17, S_impl_ParseOrder), (18, S_spec_ParseOrder)], H := [(0, ([1, 5, 9, 15, 17, 19, 21, 146, 147, 148], [1, 5, 9, 15, 17, 19, 21])), (2, ([1, 5, 9, 15, 17, 19, 24], [1, 5, 15, 17, 19]))], res := [.tmp 4], ios := [], G := gl2 }
@[reducible] def J_laws_FnOrders : List (Nat × List Nat) := [(2047, [1, 5, 15, 17, 19]), (4095, [1])]
noncomputable def F_laws_FnOrders : List D → Option Out := denFJ c_laws_FnOrders J_laws_FnOrders Tryz.f3
@[reducible] noncomputable def S_laws_FnOrders : FS := { pm := [.dat 2, .dat 2], rm := [.dat 0], f := F_laws_FnOrders }
theorem M_laws_FnOrders : Meets gl2 Tryz.prog 3 S_laws_FnOrders := meets_ofJ (J := J_laws_FnOrders) (P := Tryz.prog) (c := c_laws_FnOrders) (fn := Tryz.f3) (pm := S_laws_FnOrders.pm) (rm := S_laws_FnOrders.rm) (by kernel_rfl) (lookCons (meets_mono gl02 M_spec_DrawFinishTimes) (lookCons (meets_mono gl02 M_impl_FinishTimes) (lookCons (meets_mono gl02 M_spec_FinishTimes) (lookCons (meets_mono gl02 M_impl_IdlePress) (lookCons (meets_mono gl02 M_spec_IdlePress) (lookCons (meets_mono gl02 M_impl_FastestSequence) (lookCons (meets_mono gl02 M_spec_FastestSequence) (lookCons (meets_mono gl02 M_laws_qInts) (lookCons (meets_mono gl02 M_impl_AreOrders) (lookCons (meets_mono gl02 M_spec_DrawOrderText) (lookCons (meets_mono gl12 M_impl_OrderText) (lookCons (meets_mono gl02 M_spec_OrderText) (lookCons (meets_mono gl02 M_spec_DrawParseOrder) (lookCons M_impl_ParseOrder (lookCons (meets_mono gl02 M_spec_ParseOrder) lookNil))))))))))))))) follows_mixed (by kernel_rfl) Tryz.func3 (by kernel_rfl) (by kernel_rfl) rfl
end Go.Proofs.YtecaabmaoaacnaaGreatDoor
/-
  What the functions compute: their evaluated texts, printed.
-/
namespace Go.Proofs.YtecaabmaoaacnaaGreatDoor
open Go Go.V
theorem t_laws_FnOrders (x0 x1 : D) : F_laws_FnOrders [x0, x1] =
  ((lenD false x0).bind fun z => (lenD false x1).bind fun z_1 => (bin BinOp.add false [] z z_1).bind fun z => (bin BinOp.gtr false [] z (D.v (Value.int IntKind.i64 1048576))).bind fun z =>
 ifD z (some (Out.ret [D.v (Value.bool true)] [])) (callK (F_spec_DrawFinishTimes [x0]) fun rs _u => (tupAt (D.tup rs) 0).bind fun z => (tupAt (D.tup rs) 1).bind fun y => callK (F_impl_FinishTimes [z, y]) fun rs _u =>
 (tupAt (D.tup rs) 0).bind fun y_1 => (tupAt (tupCut (D.tup rs) 0) 1).bind fun z_2 => callK (F_spec_FinishTimes [z, y]) fun rs _u => (tupAt (D.tup rs) 0).bind fun y_2 => (tupAt (tupCut (D.tup rs) 0) 1).bind fun z_3 =>
 callK (F_impl_IdlePress [z, y]) fun rs _u => (tupAt (D.tup rs) 0).bind fun z_4 => (tupAt (D.tup rs) 1).bind fun z_5 => callK (F_spec_IdlePress [z, y]) fun rs _u => (tupAt (D.tup rs) 0).bind fun z_6 =>
 (tupAt (D.tup rs) 1).bind fun z_7 => callK (fFast [z]) fun rs _u => (tupAt (D.tup rs) 0).bind fun y => (tupAt (tupCut (D.tup rs) 0) 1).bind fun z_8 => (tupAt (tupCut (D.tup rs) 0) 2).bind fun z_9 =>
 callK (F_spec_FastestSequence [z]) fun rs _u => (tupAt (D.tup rs) 0).bind fun z_10 => (tupAt (D.tup rs) 1).bind fun z_11 => (tupAt (D.tup rs) 2).bind fun z_12 => (bin BinOp.neq true [] z_2 z_3).bind fun z_13 =>
 (gate (D.tup []) z_13 false (some y_1)).bind fun z_14 => (gate (D.tup []) z_13 false (some y_2)).bind fun z_15 => gateC z_13 false (callK (F_laws_qInts [z_14, z_15]) fun rs _u => some (Out.nrm [sl rs 0]))
 [D.tup []] fun outs => (gate (D.tup []) z_13 false (un UnOp.not (sl outs 0))).bind fun z_16 => (pickD z_13 (D.v (Value.bool true)) z_16).bind fun z_17 => (gate (D.tup []) z_17 false (some z_5)).bind fun z_18 =>
 (gate (D.tup []) z_17 false (some z_7)).bind fun z_19 => (gate (D.tup []) z_17 false (bin BinOp.neq true [] z_18 z_19)).bind fun z_20 => (pickD z_17 (D.v (Value.bool true)) z_20).bind fun z_21 =>
 (gate (D.tup []) z_21 false (some z_4)).bind fun z_22 => (gate (D.tup []) z_21 false (some z_6)).bind fun z_23 => (gate (D.tup []) z_21 false (bin BinOp.neq false [] z_22 z_23)).bind fun z_24 =>
 (pickD z_21 (D.v (Value.bool true)) z_24).bind fun z_25 => (gate (D.tup []) z_25 false (some z_9)).bind fun z_26 => (gate (D.tup []) z_25 false (some z_12)).bind fun z_27 => (gate (D.tup []) z_25 false
 (bin BinOp.neq true [] z_26 z_27)).bind fun z_28 => (pickD z_25 (D.v (Value.bool true)) z_28).bind fun z_29 => (gate (D.tup []) z_29 false (some y)).bind fun z_30 => (gate (D.tup []) z_29 false (some z_10)).bind
 fun z_31 => gateC z_29 false (callK (F_laws_qInts [z_30, z_31]) fun rs _u => some (Out.nrm [sl rs 0])) [D.tup []] fun outs => (gate (D.tup []) z_29 false (un UnOp.not (sl outs 0))).bind fun z_32 => (pickD z_29 (D.v
 (Value.bool true)) z_32).bind fun z_33 => (gate (D.tup []) z_33 false (some z_8)).bind fun z_34 => (gate (D.tup []) z_33 false (some z_11)).bind fun z_35 => (gate (D.tup []) z_33 false (bin BinOp.neq false [] z_34
 z_35)).bind fun z_36 => (pickD z_33 (D.v (Value.bool true)) z_36).bind fun z_37 => (gate (D.tup []) z_37 false (some z_5)).bind fun z_38 => (gate (D.tup []) z_37 false (some z_2)).bind fun z_39 => (gate (D.tup []) z_37
 false (bin BinOp.neq true [] z_38 z_39)).bind fun z_40 => (pickD z_37 (D.v (Value.bool true)) z_40).bind fun z_41 => (gate (D.tup []) z_41 false (some z_9)).bind fun z_42 => (gate (D.tup []) z_41 false (some z)).bind fun
 z_43 => gateC z_41 false (callK (F_impl_AreOrders [z_43]) fun rs _u => some (Out.nrm [sl rs 0])) [D.tup []] fun outs => (gate (D.tup []) z_41 false (bin BinOp.neq true [] z_42 (sl outs 0))).bind fun z_44 => (pickD z_41
 (D.v (Value.bool true)) z_44).bind fun z_45 => (gate (D.tup []) z_45 false (some z_2)).bind fun z_46 => (gate (D.tup []) z_45 false (some z_46)).bind fun z_47 => (gate (D.tup []) z_47 true (some z_9)).bind fun z_48 =>
 (gate (D.tup []) z_47 true (un UnOp.not z_48)).bind fun z_49 => (gate (D.tup []) z_45 false (pickD z_47 z_49 (D.v (Value.bool false)))).bind fun z_50 => (pickD z_45 (D.v (Value.bool true)) z_50).bind fun z_51 => ifD z_51
 (some (Out.ret [D.v (Value.bool false)] [])) (joinC (fun j => (gate (D.tup []) z_2 true (some z)).bind fun z_52 => (gate (D.tup []) z_2 true (lenD false z_52)).bind fun z_53 => (gate (D.tup []) z_2 true (bin BinOp.gtr
 false [] z_53 (D.v (Value.int IntKind.i64 0)))).bind fun z_54 => (pickD z_2 z_54 (D.v (Value.bool false))).bind fun z_55 => ifD z_55 ((lenD false z).bind fun z_56 => (loopC (fun s => (bin BinOp.lss false [] (sl s 9) (sl s
 8)).bind fun z => ifD z ((Option.map D.ptr (elemD 4 (sl s 7) (sl s 9))).bind fun z => ((ldD true 4 z).bind chkV).bind fun z => (stD 4 (D.agg [D.v (Value.int IntKind.i64 0), D.v (Value.int IntKind.i64 0), D.v (Value.int
 IntKind.i64 0), D.v (Value.int IntKind.i64 0)]) (D.ref 0 0) z).bind fun b => (liveD b (D.ref 0 2)).bind fun z => ((atD b z).bind (takeD false 1)).bind fun z => (bin BinOp.add false [] (sl s 6) z).bind fun z => (bin
 BinOp.add false [] (sl s 9) (D.v (Value.int IntKind.i64 1))).bind fun z_57 => some (Out.nrm [sl s 0, sl s 1, sl s 2, sl s 3, sl s 4, sl s 5, z, sl s 7, sl s 8, z_57])) (some (Out.ext 0 [sl s 0, sl s 1, sl s 2, sl s 3, sl
 s 4, sl s 5, sl s 6]))) [x1, z, y_2, y, z_9, z_11, z_6, z, z_56, D.v (Value.int IntKind.i64 0)]).bind fun o => outK o (fun i s => ifN (i.beq 0) ((lenD false (sl s 2)).bind fun z => (bin BinOp.sub false [] z (D.v
 (Value.int IntKind.i64 1))).bind fun z => (Option.map D.ptr (elemD 1 (sl s 2) z)).bind fun z => ((ldD false 1 z).bind chkV).bind fun z => (bin BinOp.neq false [] z (sl s 6)).bind fun z => (gate (D.tup []) z false (some
 (sl s 6))).bind fun z_57 => (gate (D.tup []) z false (some (sl s 5))).bind fun z_58 => (gate (D.tup []) z false (bin BinOp.lss false [] z_57 z_58)).bind fun z_59 => (pickD z (D.v (Value.bool true)) z_59).bind fun z => ifD
 z (some (Out.ret [D.v (Value.bool false)] [])) ((loopC (fun s => (lenD false (sl s 2)).bind fun z => (bin BinOp.lss false [] (sl s 6) z).bind fun z => ifD z ((Option.map D.ptr (elemD 1 (sl s 2) (sl s 6))).bind fun z =>
 ((ldD false 1 z).bind chkV).bind fun z => (bin BinOp.sub false [] (sl s 6) (D.v (Value.int IntKind.i64 1))).bind fun z_60 => (Option.map D.ptr (elemD 1 (sl s 2) z_60)).bind fun z_61 => ((ldD false 1 z_61).bind chkV).bind
 fun z_62 => (bin BinOp.lss false [] z z_62).bind fun z => ifD z (some (Out.ret [D.v (Value.bool false)] [])) ((bin BinOp.add false [] (sl s 6) (D.v (Value.int IntKind.i64 1))).bind fun z => some (Out.nrm [sl s 0, sl s 1,
 sl s 2, sl s 3, sl s 4, sl s 5, z]))) (some (Out.ext 2 [sl s 0, sl s 1, sl s 3, sl s 4, sl s 5]))) [sl s 0, sl s 1, sl s 2, sl s 3, sl s 4, sl s 5, D.v (Value.int IntKind.i64 1)]).bind fun o => outK o (fun i s => ifN
 (i.beq 2) (j [sl s 0, sl s 1, sl s 2, sl s 3, sl s 4]) none) fun a b => some (Out.ret a b))) none) fun a b => some (Out.ret a b)) (j [x1, z, y, z_9, z_11])) fun s => joinC (fun j => (gate (D.tup []) (sl s 3) true (some
 (sl s 1))).bind fun z => (gate (D.tup []) (sl s 3) true (lenD false z)).bind fun z => (gate (D.tup []) (sl s 3) true (bin BinOp.gtr false [] z (D.v (Value.int IntKind.i64 0)))).bind fun z => (pickD (sl s 3) z (D.v
 (Value.bool false))).bind fun z => ifD z (callK (F_impl_FinishTimes [sl s 1, sl s 2]) fun rs _u => (tupAt (D.tup rs) 0).bind fun y => (tupAt (tupCut (D.tup rs) 0) 1).bind fun z => (un UnOp.not z).bind fun z => (gate
 (D.tup []) z false (some y)).bind fun z_52 => (gate (D.tup []) z false (some y)).bind fun z_53 => (gate (D.tup []) z false (lenD false z_53)).bind fun z_54 => (gate (D.tup []) z false (bin BinOp.sub false [] z_54 (D.v
 (Value.int IntKind.i64 1)))).bind fun z_55 => (gate (D.tup []) z false (Option.map D.ptr (elemD 1 z_52 z_55))).bind fun z_56 => (gate (D.tup []) z false ((ldD false 1 z_56).bind chkV)).bind fun z_57 => (gate (D.tup []) z
 false (some (sl s 4))).bind fun z_58 => (gate (D.tup []) z false (bin BinOp.neq false [] z_57 z_58)).bind fun z_59 => (pickD z (D.v (Value.bool true)) z_59).bind fun z => ifD z (some (Out.ret [D.v (Value.bool false)] []))
 (j [sl s 0])) (j [sl s 0])) fun s => callK (F_spec_DrawOrderText [sl s 0]) fun rs _u => (stD 4 (D.agg [D.v (Value.int IntKind.i64 0), D.v (Value.int IntKind.i64 0), D.v (Value.int IntKind.i64 0), D.v (Value.int
 IntKind.i64 0)]) (D.ref 0 0) (sl rs 0)).bind fun b => (fldD true 4 0 b).bind fun z => callK (F_impl_OrderText [z]) fun rs _u => (tupAt (D.tup rs) 0).bind fun z => (tupAt (D.tup rs) 1).bind fun z_52 => (fldD true 4 0
 b).bind fun z_53 => callK (F_spec_OrderText [z_53]) fun rs _u => (tupAt (D.tup rs) 0).bind fun z_54 => (tupAt (D.tup rs) 1).bind fun z_55 => callK (F_spec_DrawParseOrder [sl s 0]) fun rs _u => callK (F_impl_ParseOrder [sl
 rs 0]) fun rs_1 _u => (tupAt (D.tup rs_1) 0).bind fun z_56 => (tupAt (D.tup rs_1) 1).bind fun z_57 => (stD 4 (D.agg [D.v (Value.int IntKind.i64 0), D.v (Value.int IntKind.i64 0), D.v (Value.int IntKind.i64 0), D.v
 (Value.int IntKind.i64 0)]) (D.ref 0 0) z_56).bind fun b_1 => callK (F_spec_ParseOrder [sl rs 0]) fun rs _u => (tupAt (D.tup rs) 0).bind fun z_58 => (tupAt (D.tup rs) 1).bind fun z_59 => (stD 4 (D.agg [D.v (Value.int
 IntKind.i64 0), D.v (Value.int IntKind.i64 0), D.v (Value.int IntKind.i64 0), D.v (Value.int IntKind.i64 0)]) (D.ref 0 0) z_58).bind fun b_2 => (bin BinOp.neq true [] z_52 z_55).bind fun z_60 => (gate (D.tup []) z_60
 false (some z)).bind fun z_61 => (gate (D.tup []) z_60 false (some z_54)).bind fun z_62 => (gate (D.tup []) z_60 false (bin BinOp.neq false [] z_61 z_62)).bind fun z_63 => (pickD z_60 (D.v (Value.bool true)) z_63).bind
 fun z_64 => (gate (D.tup []) z_64 false (some z_57)).bind fun z_65 => (gate (D.tup []) z_64 false (some z_59)).bind fun z_66 => (gate (D.tup []) z_64 false (bin BinOp.neq true [] z_65 z_66)).bind fun z_67 => (pickD z_64
 (D.v (Value.bool true)) z_67).bind fun z_68 => (gate (D.tup []) z_68 false (fldD true 4 0 b_1)).bind fun z_69 => (gate (D.tup []) z_68 false (fldD true 4 0 b_2)).bind fun z_70 => (gate (D.tup []) z_68 false (bin BinOp.neq
 false [1, 1, 1, 1] z_69 z_70)).bind fun z_71 => (pickD z_68 (D.v (Value.bool true)) z_71).bind fun z_72 => ifD z_72 (some (Out.ret [D.v (Value.bool false)] [])) (ifD z_52 (callK (F_impl_ParseOrder [z]) fun rs _u => (tupAt
 (D.tup rs) 0).bind fun z => (tupAt (D.tup rs) 1).bind fun z_73 => (stD 4 (D.agg [D.v (Value.int IntKind.i64 0), D.v (Value.int IntKind.i64 0), D.v (Value.int IntKind.i64 0), D.v (Value.int IntKind.i64 0)]) (D.ref 0 0)
 z).bind fun b_3 => (gate (D.tup []) z_73 true (fldD true 4 0 b_3)).bind fun z => (gate (D.tup []) z_73 true (fldD true 4 0 b)).bind fun z_74 => (gate (D.tup []) z_73 true (bin BinOp.eql false [1, 1, 1, 1] z z_74)).bind
 fun z => (pickD z_73 z (D.v (Value.bool false))).bind fun z => some (Out.ret [z] [])) (some (Out.ret [D.v (Value.bool true)] [])))))) := by kernel_rfl
end Go.Proofs.YtecaabmaoaacnaaGreatDoor
/-
  The orders' law: draws of its arguments.
-/
namespace Go.Proofs.YtecaabmaoaacnaaGreatDoor
open Go Go.V
set_option linter.unusedSimpArgs false

theorem curZ_eq (l : List Int) : curZ l = curD ⟨l, 0, 0⟩ := rfl
theorem box_cur (l : List Int) : boxD 3 (.agg [bytesD l, I 0, D.v (.int .u64 0)]) = some (curZ l) := by simp
theorem tS (l : List UInt8) : (D.v (Value.string { data := { toList := l } })) = T ⟨⟨l⟩⟩ := rfl
theorem e_laws_qInts (l : List Int) (h : l.length ≤ 1048576) : F_laws_qInts [ints l, ints l] = some (.ret [B true] []) := by
  rw [t_laws_qInts]
  simp only [lenD_arr, List.length_map, Option.bind_some, bin_neq, decide_true, Bool.not_true, ifD_B, Bool.false_eq_true, if_false]
  refine loop_bind (.ext 0 []) (loop_for l.length (fun i => [ints l, ints l, I l.length, I i]) _ (fun i hi => ?_) ?_ rfl rfl) ?_
  · have hw : IntKind.i64.wrap ((i : Int) + 1) = (i : Int) + 1 := wrap_id (by omega) (by omega)
    simp -implicitDefEqProofs [hi, hw]
  · simp
  · simp
theorem d_DrawFinishTimes (l : List Int) (h : Bytes l) : ∃ (o : List Od) (s : List Int), F_spec_DrawFinishTimes [bytesD l] = some (.ret [ods o, ints s] []) ∧ o.length ≤ 9 ∧ s.length ≤ 20 ∧ ∀ x ∈ s, inI x := by
  obtain ⟨o, c1, e1, g1, k1⟩ := d_orders ⟨l, 0, 0⟩ 0 (cur0 h) (by omega)
  rw [← curZ_eq] at e1
  obtain ⟨s, c2, e2, g2, g3, k2⟩ := d_sequence c1 o.length _ k1 (by omega) g1
  rw [t_spec_DrawFinishTimes]
  exact ⟨o, s, by simp -implicitDefEqProofs only [sl_zero, sl_succ, liveD_agg, liveD_ref, liveD_arr, ref0_eq, Option.bind_some, Option.map_some, callK_ret, gate_t, gate_f, gate_s, gateC_t, gateC_f, gateC_s, nrmK_some, pickD_B, ifD_B, ifN_B, if_true, if_false, Bool.false_eq_true, un_not, Bool.not_true, Bool.not_false, decide_true, decide_false, and_self, outK_ext, Nat.beq_refl, bin_lss, bin_gtr, bin_leq, bin_geq, bin_eql, bin_neq, bin_add, bin_sub, bin_mul, lenD_arr, lenD_str, List.length_map, ldD_ptr, takeD_f, chkV_v, offD_ptr, List.drop_zero, List.drop_succ_cons, atD_agg, mkArr_nil, Int.reduceLT, Int.reduceLE, Int.reduceEq, bldCur, box_cur, e1, e2], g1, g2, g3⟩
theorem st_box (x : Od) : stD 4 (.agg [I 0, I 0, I 0, I 0]) (.ref 0 0) (od x) = some (od x) := rfl
theorem fld_box (x : Od) : fldD true 4 0 (od x) = some (od x) := rfl
theorem bld_one (a : Int) : bldD [(0, 1)] [D.v (Value.int IntKind.i64 0), D.v (Value.int IntKind.i64 0), D.v (Value.int IntKind.i64 0), D.v (Value.int IntKind.i64 0)] [I a] = some (od (a, 0, 0, 0)) := rfl
theorem tk_od (x : Od) : (takeD true 4 [I x.1, I x.2.1, I x.2.2.1, I x.2.2.2]).bind chkV = some (od x) := rfl
theorem d_DrawOrderText (l : List Int) (h : Bytes l) : ∃ x : Od, F_spec_DrawOrderText [bytesD l] = some (.ret [od x] []) := by
  obtain ⟨o, c1, e1, g1, k1⟩ := d_orders ⟨l, 0, 0⟩ 0 (cur0 h) (by omega)
  rw [← curZ_eq] at e1
  rw [t_spec_DrawOrderText]
  by_cases h0 : (o.length : Int) = 0
  · obtain ⟨v, c2, e2, -, -⟩ := d_among c1 [1, 0] _ k1 (by omega) (by simp) (by simp)
    have m1 : mkArr 1 [I 1, I 0] = some (intsD [1, 0]) := rfl
    exact ⟨(v, 0, 0, 0), by simp -implicitDefEqProofs only [sl_zero, sl_succ, liveD_agg, liveD_ref, liveD_arr, ref0_eq, Option.bind_some, Option.map_some, callK_ret, gate_t, gate_f, gate_s, gateC_t, gateC_f, gateC_s, nrmK_some, pickD_B, ifD_B, ifN_B, if_true, if_false, Bool.false_eq_true, un_not, Bool.not_true, Bool.not_false, decide_true, decide_false, and_self, outK_ext, Nat.beq_refl, bin_lss, bin_gtr, bin_leq, bin_geq, bin_eql, bin_neq, bin_add, bin_sub, bin_mul, lenD_arr, lenD_str, List.length_map, ldD_ptr, takeD_f, chkV_v, offD_ptr, List.drop_zero, List.drop_succ_cons, atD_agg, mkArr_nil, Int.reduceLT, Int.reduceLE, Int.reduceEq, bldCur, box_cur, e1, h0, m1, e2, bld_one, st_box, fld_box]⟩
  · obtain ⟨k, c2, e2, g2, g3, -⟩ := d_pick c1 o.length _ k1 (by omega) (by omega)
    have ha := ord_at (l := o) (k := k) ⟨g2, by omega⟩
    exact ⟨oAt o k, by simp -implicitDefEqProofs only [sl_zero, sl_succ, liveD_agg, liveD_ref, liveD_arr, ref0_eq, Option.bind_some, Option.map_some, callK_ret, gate_t, gate_f, gate_s, gateC_t, gateC_f, gateC_s, nrmK_some, pickD_B, ifD_B, ifN_B, if_true, if_false, Bool.false_eq_true, un_not, Bool.not_true, Bool.not_false, decide_true, decide_false, and_self, outK_ext, Nat.beq_refl, bin_lss, bin_gtr, bin_leq, bin_geq, bin_eql, bin_neq, bin_add, bin_sub, bin_mul, lenD_arr, lenD_str, List.length_map, ldD_ptr, takeD_f, chkV_v, offD_ptr, List.drop_zero, List.drop_succ_cons, atD_agg, mkArr_nil, Int.reduceLT, Int.reduceLE, Int.reduceEq, bldCur, box_cur, e1, h0, e2, ha, tk_od, st_box, fld_box]⟩
theorem odT_size {x : Od} (h : isOd x = true) : (odT x).size ≤ 100 := by
  obtain ⟨h1, h2, h3, h4⟩ := isOd_iff.1 h
  have s1 := intT_size 4 (n := x.1) (by omega) (by omega)
  have s2 := intT_size 4 (n := x.2.1) (by omega) (by omega)
  have s3 := intT_size 4 (n := x.2.2.1) (by omega) (by omega)
  have s4 := intT_size 4 (n := x.2.2.2) (by omega) (by omega)
  simp only [odT, ByteArray.size_append, sz1, sz4]
  omega
def exOt : List ByteArray := [⟨⟨[]⟩⟩, ⟨⟨[35, 49, 32, 51, 48, 43, 49, 48, 32, 98, 121, 32, 54, 48]⟩⟩, ⟨⟨[35, 48, 49, 32, 51, 48, 43, 49, 48, 32, 98, 121, 32, 54, 48]⟩⟩, ⟨⟨[35, 49, 32, 51, 48, 32, 98, 121, 32, 54, 48]⟩⟩,
  ⟨⟨[35, 49, 32, 51, 48, 43, 49, 48, 32, 97, 116, 32, 54, 48]⟩⟩, ⟨⟨[35, 49, 48, 48, 32, 49, 43, 49, 32, 98, 121, 32, 49]⟩⟩, ⟨⟨[35, 49, 32, 53, 48, 49, 43, 49, 32, 98, 121, 32, 49]⟩⟩, ⟨⟨[49, 32, 51, 48, 43, 49, 48, 32, 98, 121, 32, 54, 48]⟩⟩, ⟨⟨[32, 51, 48, 43, 49, 48, 32, 98, 121, 32, 54, 48]⟩⟩]
theorem exOt_mk : mkArr 1 [T ⟨⟨[]⟩⟩, T ⟨⟨[35, 49, 32, 51, 48, 43, 49, 48, 32, 98, 121, 32, 54, 48]⟩⟩, T ⟨⟨[35, 48, 49, 32, 51, 48, 43, 49, 48, 32, 98, 121, 32, 54, 48]⟩⟩, T ⟨⟨[35, 49, 32, 51, 48, 32, 98, 121, 32, 54, 48]⟩⟩,
  T ⟨⟨[35, 49, 32, 51, 48, 43, 49, 48, 32, 97, 116, 32, 54, 48]⟩⟩, T ⟨⟨[35, 49, 48, 48, 32, 49, 43, 49, 32, 98, 121, 32, 49]⟩⟩, T ⟨⟨[35, 49, 32, 53, 48, 49, 43, 49, 32, 98, 121, 32, 49]⟩⟩, T ⟨⟨[49, 32, 51, 48, 43, 49, 48, 32, 98, 121, 32, 54, 48]⟩⟩, T ⟨⟨[32, 51, 48, 43, 49, 48, 32, 98, 121, 32, 54, 48]⟩⟩] = some (txs exOt) := mkTxs (l := exOt)
theorem exOt_size : ∀ s ∈ exOt, s.size ≤ 20 := by decide
theorem d_DrawParseOrder (l : List Int) (h : Bytes l) : ∃ s : ByteArray, F_spec_DrawParseOrder [bytesD l] = some (.ret [T s] []) ∧ s.size ≤ 1000 := by
  obtain ⟨v1, c1, e1, l1, u1, k1⟩ := d_pick0 l h 20 (by omega)
  obtain ⟨v2, c2, e2, l2, u2, k2⟩ := d_pick c1 50 _ k1 (by omega) (by omega)
  obtain ⟨v3, c3, e3, l3, u3, k3⟩ := d_pick c2 50 _ k2 (by omega) (by omega)
  obtain ⟨v4, c4, e4, l4, u4, k4⟩ := d_pick c3 300 _ k3 (by omega) (by omega)
  obtain ⟨v5, c5, e5, l5, u5, k5⟩ := d_pick c4 4 _ k4 (by omega) (by omega)
  have hw : IntKind.i64.wrap (1 + v1) = 1 + v1 := wrap_id (by omega) (by omega)
  have hd : isOd (1 + v1, v2, v3, v4) = true := isOd_iff.2 ⟨by simp only; omega, by simp only; omega, by simp only; omega, by simp only; omega⟩
  have ht := e_spec_orText _ hd
  have hz := odT_size hd
  rw [t_spec_DrawParseOrder]
  by_cases h0 : v5 = 0
  · obtain ⟨s, c6, e6, g6, k6⟩ := d_spoilt c5 (odT (1 + v1, v2, v3, v4)) ⟨⟨[35, 32, 43, 98, 121, 48, 49, 57]⟩⟩ _ k5 (by omega) (by omega) ⟨by decide, by decide⟩
    exact ⟨s, by simp -implicitDefEqProofs only [sl_zero, sl_succ, liveD_agg, liveD_ref, liveD_arr, ref0_eq, Option.bind_some, Option.map_some, callK_ret, gate_t, gate_f, gate_s, gateC_t, gateC_f, gateC_s, nrmK_some, pickD_B, ifD_B, ifN_B, if_true, if_false, Bool.false_eq_true, un_not, Bool.not_true, Bool.not_false, decide_true, decide_false, and_self, outK_ext, Nat.beq_refl, bin_lss, bin_gtr, bin_leq, bin_geq, bin_eql, bin_neq, bin_add, bin_sub, bin_mul, lenD_arr, lenD_str, List.length_map, ldD_ptr, takeD_f, chkV_v, offD_ptr, List.drop_zero, List.drop_succ_cons, atD_agg, mkArr_nil, Int.reduceLT, Int.reduceLE, Int.reduceEq, tS, bldCur, box_cur, e1, hw, e2, e3, e4, bld_od, ht, e5, h0, e6], by omega⟩
  by_cases h1 : v5 = 1
  · obtain ⟨s, c6, e6, g6, k6⟩ := d_of c5 exOt _ k5 (by omega) (by decide) (by decide)
    have := exOt_size s g6
    exact ⟨s, by simp -implicitDefEqProofs only [sl_zero, sl_succ, liveD_agg, liveD_ref, liveD_arr, ref0_eq, Option.bind_some, Option.map_some, callK_ret, gate_t, gate_f, gate_s, gateC_t, gateC_f, gateC_s, nrmK_some, pickD_B, ifD_B, ifN_B, if_true, if_false, Bool.false_eq_true, un_not, Bool.not_true, Bool.not_false, decide_true, decide_false, and_self, outK_ext, Nat.beq_refl, bin_lss, bin_gtr, bin_leq, bin_geq, bin_eql, bin_neq, bin_add, bin_sub, bin_mul, lenD_arr, lenD_str, List.length_map, ldD_ptr, takeD_f, chkV_v, offD_ptr, List.drop_zero, List.drop_succ_cons, atD_agg, mkArr_nil, Int.reduceLT, Int.reduceLE, Int.reduceEq, tS, bldCur, box_cur, e1, hw, e2, e3, e4, bld_od, ht, e5, h1, exOt_mk, e6], by omega⟩
  · exact ⟨odT (1 + v1, v2, v3, v4), by simp -implicitDefEqProofs only [sl_zero, sl_succ, liveD_agg, liveD_ref, liveD_arr, ref0_eq, Option.bind_some, Option.map_some, callK_ret, gate_t, gate_f, gate_s, gateC_t, gateC_f, gateC_s, nrmK_some, pickD_B, ifD_B, ifN_B, if_true, if_false, Bool.false_eq_true, un_not, Bool.not_true, Bool.not_false, decide_true, decide_false, and_self, outK_ext, Nat.beq_refl, bin_lss, bin_gtr, bin_leq, bin_geq, bin_eql, bin_neq, bin_add, bin_sub, bin_mul, lenD_arr, lenD_str, List.length_map, ldD_ptr, takeD_f, chkV_v, offD_ptr, List.drop_zero, List.drop_succ_cons, atD_agg, mkArr_nil, Int.reduceLT, Int.reduceLE, Int.reduceEq, tS, bldCur, box_cur, e1, hw, e2, e3, e4, bld_od, ht, e5, h0, h1], by omega⟩
end Go.Proofs.YtecaabmaoaacnaaGreatDoor
/-
  The orders' law.
-/
namespace Go.Proofs.YtecaabmaoaacnaaGreatDoor
open Go Go.V
set_option linter.unusedSimpArgs false

theorem tpO0 (l : List Od) (ds : List D) : tupAt (.tup (ods l :: ds)) 0 = some (ods l) := rfl
theorem tpI0 (l : List Int) (ds : List D) : tupAt (.tup (ints l :: ds)) 0 = some (ints l) := rfl
theorem tpI1 (a : D) (l : List Int) (ds : List D) : tupAt (.tup (a :: ints l :: ds)) 1 = some (ints l) := rfl
theorem tpv0 (v : Value) (ds : List D) : tupAt (.tup (.v v :: ds)) 0 = some (.v v) := rfl
theorem tpv1 (a : D) (v : Value) (ds : List D) : tupAt (.tup (a :: .v v :: ds)) 1 = some (.v v) := rfl
theorem tpv2 (a b : D) (v : Value) (ds : List D) : tupAt (.tup (a :: b :: .v v :: ds)) 2 = some (.v v) := rfl
theorem tpg0 (x : Od) (ds : List D) : tupAt (.tup (od x :: ds)) 0 = some (od x) := rfl
theorem tpC1 (a : D) (v : Value) (ds : List D) : tupAt (tupCut (.tup (a :: .v v :: ds)) 0) 1 = some (.v v) := rfl
theorem tpC2 (a : D) (u v : Value) (ds : List D) : tupAt (tupCut (.tup (a :: .v u :: .v v :: ds)) 0) 2 = some (.v v) := rfl
theorem od_ne (x : Od) : bin .neq false [1, 1, 1, 1] (od x) (od x) = some (B false) := by simp [bin, allEq]
theorem od_eq (x : Od) : bin .eql false [1, 1, 1, 1] (od x) (od x) = some (B true) := by simp [bin, allEq]

theorem sum_print : ∀ (l : List Od) (i : Nat) (a b : Int), foldI (fun _ a (x : Od) => a + x.2.2.1) i l (a + b) = a + l.foldl (fun a x => a + x.2.2.1) b
  | [], _, _, _ => rfl
  | x :: l, i, a, b => by
    simp only [foldI, List.foldl_cons]
    rw [← sum_print l (i + 1) a (b + x.2.2.1)]
    congr 1
    omega
theorem sum_prints (l : List Od) (a : Int) : foldI (fun _ a (x : Od) => a + x.2.2.1) 0 l a = a + printS l := by
  have := sum_print l 0 a 0
  rwa [Int.add_zero] at this
theorem ld_box (x : Od) : ((atD (od x) (.ref 0 2)).bind (takeD false 1)) = some (I x.2.2.1) := rfl
theorem od_get {l : List Od} {i : Nat} (h : i < l.length) : elemD 4 (ods l) (I (i : Int)) = some [I l[i].1, I l[i].2.1, I l[i].2.2.1, I l[i].2.2.2] := by
  rw [elemD_int (by omega)]
  simp [h, D.cells]
theorem int_get {l : List Int} {i : Nat} (h : i < l.length) : elemD 1 (ints l) (I (i : Int)) = some [I l[i]] := by
  rw [elemD_int (by omega)]
  simp [h, D.cells]
set_option maxRecDepth 100000 in
set_option maxHeartbeats 4000000 in
theorem law_Orders (code more : List Int) (hc : code.length ≤ 9223372036854775807) (hm : more.length ≤ 9223372036854775807) (hb1 : ∀ n ∈ code, 0 ≤ n ∧ n ≤ 255) (hb2 : ∀ n ∈ more, 0 ≤ n ∧ n ≤ 255) : F_laws_FnOrders [bytesD code, bytesD more] = some (.ret [B true] []) := by
  rw [t_laws_FnOrders]
  by_cases hbig : 1048576 < IntKind.i64.wrap ((code.length : Int) + (more.length : Int))
  · simp -implicitDefEqProofs only [sl_zero, sl_succ, liveD_agg, liveD_ref, liveD_arr, ref0_eq, Option.bind_some, Option.map_some, callK_ret, gate_t, gate_f, gate_s, gateC_t, gateC_f, gateC_s, nrmK_some, pickD_B, ifD_B, ifN_B, if_true, if_false, Bool.false_eq_true, un_not, Bool.not_true, Bool.not_false, decide_true, decide_false, and_self, outK_ext, Nat.beq_refl, bin_lss, bin_gtr, bin_leq, bin_geq, bin_eql, bin_neq, bin_add, bin_sub, bin_mul, lenD_arr, lenD_str, List.length_map, ldD_ptr, takeD_f, chkV_v, offD_ptr, List.drop_zero, List.drop_succ_cons, atD_agg, mkArr_nil, Int.reduceLT, Int.reduceLE, Int.reduceEq, hbig]
  obtain ⟨o, s, e1, z1, z2, z3⟩ := d_DrawFinishTimes code ⟨hb1, hc⟩
  have i1 := e_impl_FinishTimes o s (by omega) (by omega) z3
  have s1 := e_spec_FinishTimes o s (by omega)
  have i2 := e_impl_IdlePress o s (by omega) (by omega) z3
  have s2 := e_spec_IdlePress o s (by omega)
  have f1 := e_fFast o (by omega)
  have f2 := e_spec_FastestSequence o (by omega)
  have g1 := e_impl_AreOrders o (by omega)
  have q1 := e_laws_qInts (finR o s) (by have := finR_len o s; omega)
  have q2 := e_laws_qInts (fstR o) (by have := fstR_len o; omega)
  have hcase : (askO o s = false ∧ goodO o = false) ∨ (askO o s = false ∧ goodO o = true) ∨ (askO o s = true ∧ goodO o = true) := by
    cases hA : askO o s
    · cases hg : goodO o
      · exact .inl ⟨rfl, rfl⟩
      · exact .inr (.inl ⟨rfl, rfl⟩)
    · refine .inr (.inr ⟨rfl, ?_⟩)
      simp only [askO, Bool.and_eq_true] at hA
      exact hA.1.1
  simp -implicitDefEqProofs only [sl_zero, sl_succ, liveD_agg, liveD_ref, liveD_arr, ref0_eq, Option.bind_some, Option.map_some, callK_ret, gate_t, gate_f, gate_s, gateC_t, gateC_f, gateC_s, nrmK_some, pickD_B, ifD_B, ifN_B, if_true, if_false, Bool.false_eq_true, un_not, Bool.not_true, Bool.not_false, decide_true, decide_false, and_self, outK_ext, Nat.beq_refl, bin_lss, bin_gtr, bin_leq, bin_geq, bin_eql, bin_neq, bin_add, bin_sub, bin_mul, lenD_arr, lenD_str, List.length_map, ldD_ptr, takeD_f, chkV_v, offD_ptr, List.drop_zero, List.drop_succ_cons, atD_agg, mkArr_nil, Int.reduceLT, Int.reduceLE, Int.reduceEq, hbig, e1, tpO0, tpI0, tpI1, tpv0, tpv1, tpv2, tpC1, tpC2, i1, s1, i2, s2, f1, f2, q1, q2, g1, bin_neqB, beq_self_eq_true, eq_self]
  rcases hcase with ⟨hA, hg⟩ | ⟨hA, hg⟩ | ⟨hA, hg⟩
  all_goals
    simp -implicitDefEqProofs only [sl_zero, sl_succ, liveD_agg, liveD_ref, liveD_arr, ref0_eq, Option.bind_some, Option.map_some, callK_ret, gate_t, gate_f, gate_s, gateC_t, gateC_f, gateC_s, nrmK_some, pickD_B, ifD_B, ifN_B, if_true, if_false, Bool.false_eq_true, un_not, Bool.not_true, Bool.not_false, decide_true, decide_false, and_self, outK_ext, Nat.beq_refl, bin_lss, bin_gtr, bin_leq, bin_geq, bin_eql, bin_neq, bin_add, bin_sub, bin_mul, lenD_arr, lenD_str, List.length_map, ldD_ptr, takeD_f, chkV_v, offD_ptr, List.drop_zero, List.drop_succ_cons, atD_agg, mkArr_nil, Int.reduceLT, Int.reduceLE, Int.reduceEq, hA, hg, eq_self]
    refine joinC_of (fun st => st = [bytesD more, ods o, ints (fstR o), B (goodO o), I (fstM o)]) ?_ ?_
  case refine_2 => exact fun j hj => hj _ (by rw [hg])
  case refine_2 => exact fun j hj => hj _ (by rw [hg])
  case refine_2 =>
    intro j hj
    replace hj := hj [bytesD more, ods o, ints (fstR o), B true, I (fstM o)] (by rw [hg])
    by_cases h0 : (0 : Int) < o.length
    case neg =>
      simp -implicitDefEqProofs only [sl_zero, sl_succ, liveD_agg, liveD_ref, liveD_arr, ref0_eq, Option.bind_some, Option.map_some, callK_ret, gate_t, gate_f, gate_s, gateC_t, gateC_f, gateC_s, nrmK_some, pickD_B, ifD_B, ifN_B, if_true, if_false, Bool.false_eq_true, un_not, Bool.not_true, Bool.not_false, decide_true, decide_false, and_self, outK_ext, Nat.beq_refl, bin_lss, bin_gtr, bin_leq, bin_geq, bin_eql, bin_neq, bin_add, bin_sub, bin_mul, lenD_arr, lenD_str, List.length_map, ldD_ptr, takeD_f, chkV_v, offD_ptr, List.drop_zero, List.drop_succ_cons, atD_agg, mkArr_nil, Int.reduceLT, Int.reduceLE, Int.reduceEq, h0]
      exact hj
    obtain ⟨hgo, h8, hsl, hdf, hin⟩ := askO_facts hA
    have hT : finR o s = tms o s := by simp [finR, hA]
    have hI : idlR o s = (s.foldl (runO o) (0, 0, 0)).2.2 := by simp [idlR, hA]
    have hid := idle_eq hdf hsl
    have hwi := way_in hgo hin s.length (Nat.le_refl _)
    rw [List.take_length] at hwi
    have hlst := fst_least hg hA
    simp -implicitDefEqProofs only [sl_zero, sl_succ, liveD_agg, liveD_ref, liveD_arr, ref0_eq, Option.bind_some, Option.map_some, callK_ret, gate_t, gate_f, gate_s, gateC_t, gateC_f, gateC_s, nrmK_some, pickD_B, ifD_B, ifN_B, if_true, if_false, Bool.false_eq_true, un_not, Bool.not_true, Bool.not_false, decide_true, decide_false, and_self, outK_ext, Nat.beq_refl, bin_lss, bin_gtr, bin_leq, bin_geq, bin_eql, bin_neq, bin_add, bin_sub, bin_mul, lenD_arr, lenD_str, List.length_map, ldD_ptr, takeD_f, chkV_v, offD_ptr, List.drop_zero, List.drop_succ_cons, atD_agg, mkArr_nil, Int.reduceLT, Int.reduceLE, Int.reduceEq, h0]
    refine loop_bind _ (loop_foldi o (fun i a => [bytesD more, ods o, ints (finR o s), ints (fstR o), B true, I (fstM o), I a, ods o, I o.length, I i]) (fun i a => 0 ≤ a ∧ a ≤ 100000 + 500 * (i : Int)) (fun _ a x => a + x.2.2.1) (fun a => .ext 0 [bytesD more, ods o, ints (finR o s), ints (fstR o), B true, I (fstM o), I a]) _ (fun i a hi hA => ?_) (fun a _ => ?_) (fun _ => rfl) ?_ rfl) ?_
    · have hw : IntKind.i64.wrap ((i : Int) + 1) = (i : Int) + 1 := wrap_id (by omega) (by omega)
      have ho := hgo o[i] (List.getElem_mem hi)
      simp only [isOd, Bool.and_eq_true, decide_eq_true_eq] at ho
      have hwa : IntKind.i64.wrap (a + o[i].2.2.1) = a + o[i].2.2.1 := wrap_id (by omega) (by omega)
      have hi' : (i : Int) < o.length := by omega
      exact ⟨by simp -implicitDefEqProofs only [sl_zero, sl_succ, liveD_agg, liveD_ref, liveD_arr, ref0_eq, Option.bind_some, Option.map_some, callK_ret, gate_t, gate_f, gate_s, gateC_t, gateC_f, gateC_s, nrmK_some, pickD_B, ifD_B, ifN_B, if_true, if_false, Bool.false_eq_true, un_not, Bool.not_true, Bool.not_false, decide_true, decide_false, and_self, outK_ext, Nat.beq_refl, bin_lss, bin_gtr, bin_leq, bin_geq, bin_eql, bin_neq, bin_add, bin_sub, bin_mul, lenD_arr, lenD_str, List.length_map, ldD_ptr, takeD_f, chkV_v, offD_ptr, List.drop_zero, List.drop_succ_cons, atD_agg, mkArr_nil, Int.reduceLT, Int.reduceLE, Int.reduceEq, hi', hw, hwa, od_get hi, tk_od, st_box, ld_box, Int.natCast_add, Int.natCast_one], by omega⟩
    · simp -implicitDefEqProofs only [sl_zero, sl_succ, liveD_agg, liveD_ref, liveD_arr, ref0_eq, Option.bind_some, Option.map_some, callK_ret, gate_t, gate_f, gate_s, gateC_t, gateC_f, gateC_s, nrmK_some, pickD_B, ifD_B, ifN_B, if_true, if_false, Bool.false_eq_true, un_not, Bool.not_true, Bool.not_false, decide_true, decide_false, and_self, outK_ext, Nat.beq_refl, bin_lss, bin_gtr, bin_leq, bin_geq, bin_eql, bin_neq, bin_add, bin_sub, bin_mul, lenD_arr, lenD_str, List.length_map, ldD_ptr, takeD_f, chkV_v, offD_ptr, List.drop_zero, List.drop_succ_cons, atD_agg, mkArr_nil, Int.reduceLT, Int.reduceLE, Int.reduceEq, Int.lt_irrefl]
    · rw [hI]
      have : 500 * (s.length : Int) * s.length ≤ 500 * 8 * 8 := by
        have h1 : (s.length : Int) ≤ 8 := by omega
        have h2 : (s.length : Int) * s.length ≤ 8 * 8 := Int.mul_le_mul h1 h1 (by omega) (by omega)
        rw [Int.mul_assoc]
        omega
      omega
    · rw [sum_prints]
      have hTl : (finR o s).length = s.length := by rw [hT]; exact timesO_len o s _
      have e1 : idlR o s + printS o = (s.foldl (runO o) (0, 0, 0)).2.1 := by omega
      have e2 : (finR o s)[s.length - 1]'(by omega) = (s.foldl (runO o) (0, 0, 0)).2.1 := by
        have := times_last o s (by rw [timesO_len]; omega) (by omega)
        simpa only [hT] using this
      have h3 := int_get (l := finR o s) (i := s.length - 1) (by omega)
      rw [e2, show ((s.length - 1 : Nat) : Int) = (s.length : Int) - 1 by omega] at h3
      have hw : IntKind.i64.wrap ((s.length : Int) - 1) = (s.length : Int) - 1 := wrap_id (by omega) (by omega)
      have hnl : ¬ (s.foldl (runO o) (0, 0, 0)).2.1 < fstM o := by omega
      rw [e1]
      simp -implicitDefEqProofs only [sl_zero, sl_succ, liveD_agg, liveD_ref, liveD_arr, ref0_eq, Option.bind_some, Option.map_some, callK_ret, gate_t, gate_f, gate_s, gateC_t, gateC_f, gateC_s, nrmK_some, pickD_B, ifD_B, ifN_B, if_true, if_false, Bool.false_eq_true, un_not, Bool.not_true, Bool.not_false, decide_true, decide_false, and_self, outK_ext, Nat.beq_refl, bin_lss, bin_gtr, bin_leq, bin_geq, bin_eql, bin_neq, bin_add, bin_sub, bin_mul, lenD_arr, lenD_str, List.length_map, ldD_ptr, takeD_f, chkV_v, offD_ptr, List.drop_zero, List.drop_succ_cons, atD_agg, mkArr_nil, Int.reduceLT, Int.reduceLE, Int.reduceEq, hTl, hw, h3, eq_self, hnl]
      refine loop_bind _ (loop_for (s.length - 1) (fun i => [bytesD more, ods o, ints (finR o s), ints (fstR o), B true, I (fstM o), I ((i : Int) + 1)]) (.ext 2 [bytesD more, ods o, ints (fstR o), B true, I (fstM o)]) (fun i hi => ?_) ?_ rfl rfl) ?_
      · have hw1 : IntKind.i64.wrap ((i : Int) + 1 + 1) = (i : Int) + 1 + 1 := wrap_id (by omega) (by omega)
        have hw2 : IntKind.i64.wrap ((i : Int) + 1 - 1) = (i : Int) := by rw [wrap_id (by omega) (by omega)]; omega
        have h4 := int_get (l := finR o s) (i := i) (by omega)
        have h5 := int_get (l := finR o s) (i := i + 1) (by omega)
        have h6 : ¬ (finR o s)[i + 1]'(by omega) < (finR o s)[i]'(by omega) := by
          have := times_up hgo hin i (by rw [timesO_len]; omega)
          have h8 : (finR o s)[i]'(by omega) ≤ (finR o s)[i + 1]'(by omega) := by simpa only [hT] using this
          omega
        have h7 : (i : Int) + 1 < s.length := by omega
        rw [Int.natCast_add, Int.natCast_one] at h5
        simp -implicitDefEqProofs only [sl_zero, sl_succ, liveD_agg, liveD_ref, liveD_arr, ref0_eq, Option.bind_some, Option.map_some, callK_ret, gate_t, gate_f, gate_s, gateC_t, gateC_f, gateC_s, nrmK_some, pickD_B, ifD_B, ifN_B, if_true, if_false, Bool.false_eq_true, un_not, Bool.not_true, Bool.not_false, decide_true, decide_false, and_self, outK_ext, Nat.beq_refl, bin_lss, bin_gtr, bin_leq, bin_geq, bin_eql, bin_neq, bin_add, bin_sub, bin_mul, lenD_arr, lenD_str, List.length_map, ldD_ptr, takeD_f, chkV_v, offD_ptr, List.drop_zero, List.drop_succ_cons, atD_agg, mkArr_nil, Int.reduceLT, Int.reduceLE, Int.reduceEq, hTl, h7, h4, h5, hw1, hw2, h6, Int.natCast_add, Int.natCast_one]
      · have h7 : ¬ ((s.length - 1 : Nat) : Int) + 1 < s.length := by omega
        simp -implicitDefEqProofs only [sl_zero, sl_succ, liveD_agg, liveD_ref, liveD_arr, ref0_eq, Option.bind_some, Option.map_some, callK_ret, gate_t, gate_f, gate_s, gateC_t, gateC_f, gateC_s, nrmK_some, pickD_B, ifD_B, ifN_B, if_true, if_false, Bool.false_eq_true, un_not, Bool.not_true, Bool.not_false, decide_true, decide_false, and_self, outK_ext, Nat.beq_refl, bin_lss, bin_gtr, bin_leq, bin_geq, bin_eql, bin_neq, bin_add, bin_sub, bin_mul, lenD_arr, lenD_str, List.length_map, ldD_ptr, takeD_f, chkV_v, offD_ptr, List.drop_zero, List.drop_succ_cons, atD_agg, mkArr_nil, Int.reduceLT, Int.reduceLE, Int.reduceEq, hTl, h7]
      · simp -implicitDefEqProofs only [sl_zero, sl_succ, liveD_agg, liveD_ref, liveD_arr, ref0_eq, Option.bind_some, Option.map_some, callK_ret, gate_t, gate_f, gate_s, gateC_t, gateC_f, gateC_s, nrmK_some, pickD_B, ifD_B, ifN_B, if_true, if_false, Bool.false_eq_true, un_not, Bool.not_true, Bool.not_false, decide_true, decide_false, and_self, outK_ext, Nat.beq_refl, bin_lss, bin_gtr, bin_leq, bin_geq, bin_eql, bin_neq, bin_add, bin_sub, bin_mul, lenD_arr, lenD_str, List.length_map, ldD_ptr, takeD_f, chkV_v, offD_ptr, List.drop_zero, List.drop_succ_cons, atD_agg, mkArr_nil, Int.reduceLT, Int.reduceLE, Int.reduceEq]
        exact hj
  all_goals
    rintro _ rfl
    refine joinC_of (fun st => st = [bytesD more]) ?_ ?_
    case refine_2 =>
      intro j hj
      replace hj := hj [bytesD more] rfl
      rw [hg]
      first
        | (simp -implicitDefEqProofs only [sl_zero, sl_succ, liveD_agg, liveD_ref, liveD_arr, ref0_eq, Option.bind_some, Option.map_some, callK_ret, gate_t, gate_f, gate_s, gateC_t, gateC_f, gateC_s, nrmK_some, pickD_B, ifD_B, ifN_B, if_true, if_false, Bool.false_eq_true, un_not, Bool.not_true, Bool.not_false, decide_true, decide_false, and_self, outK_ext, Nat.beq_refl, bin_lss, bin_gtr, bin_leq, bin_geq, bin_eql, bin_neq, bin_add, bin_sub, bin_mul, lenD_arr, lenD_str, List.length_map, ldD_ptr, takeD_f, chkV_v, offD_ptr, List.drop_zero, List.drop_succ_cons, atD_agg, mkArr_nil, Int.reduceLT, Int.reduceLE, Int.reduceEq]; exact hj)
        | (by_cases h0 : (0 : Int) < o.length
           case neg => simp -implicitDefEqProofs only [sl_zero, sl_succ, liveD_agg, liveD_ref, liveD_arr, ref0_eq, Option.bind_some, Option.map_some, callK_ret, gate_t, gate_f, gate_s, gateC_t, gateC_f, gateC_s, nrmK_some, pickD_B, ifD_B, ifN_B, if_true, if_false, Bool.false_eq_true, un_not, Bool.not_true, Bool.not_false, decide_true, decide_false, and_self, outK_ext, Nat.beq_refl, bin_lss, bin_gtr, bin_leq, bin_geq, bin_eql, bin_neq, bin_add, bin_sub, bin_mul, lenD_arr, lenD_str, List.length_map, ldD_ptr, takeD_f, chkV_v, offD_ptr, List.drop_zero, List.drop_succ_cons, atD_agg, mkArr_nil, Int.reduceLT, Int.reduceLE, Int.reduceEq, h0]; exact hj
           obtain ⟨hgo, h8, hsl, hdf, hin⟩ := askO_facts (fst_ask hg)
           have hA' := fst_ask hg
           have hT : finR o (fstR o) = tms o (fstR o) := by simp [finR, hA']
           have hTl : (finR o (fstR o)).length = o.length := by rw [hT, ← hsl]; exact timesO_len o _ _
           have k1 := e_impl_FinishTimes o (fstR o) (by omega) (by omega) (fun x hx => by have := hin x hx; exact ⟨by omega, by omega⟩)
           rw [hA'] at k1
           have e2 : (finR o (fstR o))[o.length - 1]'(by omega) = fstM o := by
             have h9 := times_last o (fstR o) (by rw [timesO_len]; omega) (by omega)
             have hr : fstR o = seqL o fstLt := by simp [fstR, hg]
             have hm : fstM o = mostL (tms o (fstR o)) := by rw [hr]; simp [fstM, hg]
             rw [hm, most_times hgo hin, ← h9]
             simp only [hT, hsl]
           have h3 := int_get (l := finR o (fstR o)) (i := o.length - 1) (by omega)
           rw [e2, show ((o.length - 1 : Nat) : Int) = (o.length : Int) - 1 by omega] at h3
           have hw : IntKind.i64.wrap ((o.length : Int) - 1) = (o.length : Int) - 1 := wrap_id (by omega) (by omega)
           simp -implicitDefEqProofs only [sl_zero, sl_succ, liveD_agg, liveD_ref, liveD_arr, ref0_eq, Option.bind_some, Option.map_some, callK_ret, gate_t, gate_f, gate_s, gateC_t, gateC_f, gateC_s, nrmK_some, pickD_B, ifD_B, ifN_B, if_true, if_false, Bool.false_eq_true, un_not, Bool.not_true, Bool.not_false, decide_true, decide_false, and_self, outK_ext, Nat.beq_refl, bin_lss, bin_gtr, bin_leq, bin_geq, bin_eql, bin_neq, bin_add, bin_sub, bin_mul, lenD_arr, lenD_str, List.length_map, ldD_ptr, takeD_f, chkV_v, offD_ptr, List.drop_zero, List.drop_succ_cons, atD_agg, mkArr_nil, Int.reduceLT, Int.reduceLE, Int.reduceEq, h0, k1, tpI0, tpC1, hTl, hw, h3, eq_self]
           exact hj)
    rintro _ rfl
    obtain ⟨x, e2⟩ := d_DrawOrderText more ⟨hb2, hm⟩
    obtain ⟨t, e3, zt⟩ := d_DrawParseOrder more ⟨hb2, hm⟩
    have k1 := e_impl_OrderText x
    have k2 := e_spec_OrderText x
    have k3 := e_impl_ParseOrder t (by omega)
    have k4 := e_spec_ParseOrder t (by omega)
    rw [← order_eq] at k4
    simp -implicitDefEqProofs only [sl_zero, sl_succ, liveD_agg, liveD_ref, liveD_arr, ref0_eq, Option.bind_some, Option.map_some, callK_ret, gate_t, gate_f, gate_s, gateC_t, gateC_f, gateC_s, nrmK_some, pickD_B, ifD_B, ifN_B, if_true, if_false, Bool.false_eq_true, un_not, Bool.not_true, Bool.not_false, decide_true, decide_false, and_self, outK_ext, Nat.beq_refl, bin_lss, bin_gtr, bin_leq, bin_geq, bin_eql, bin_neq, bin_add, bin_sub, bin_mul, lenD_arr, lenD_str, List.length_map, ldD_ptr, takeD_f, chkV_v, offD_ptr, List.drop_zero, List.drop_succ_cons, atD_agg, mkArr_nil, Int.reduceLT, Int.reduceLE, Int.reduceEq, e2, st_box, fld_box, k1, k2, tpv0, tpv1, tpg0, e3, k3, k4, bin_neqB, beq_self_eq_true, bin_neqS, eq_self, od_ne]
    cases hx : isOd x
    · simp -implicitDefEqProofs only [sl_zero, sl_succ, liveD_agg, liveD_ref, liveD_arr, ref0_eq, Option.bind_some, Option.map_some, callK_ret, gate_t, gate_f, gate_s, gateC_t, gateC_f, gateC_s, nrmK_some, pickD_B, ifD_B, ifN_B, if_true, if_false, Bool.false_eq_true, un_not, Bool.not_true, Bool.not_false, decide_true, decide_false, and_self, outK_ext, Nat.beq_refl, bin_lss, bin_gtr, bin_leq, bin_geq, bin_eql, bin_neq, bin_add, bin_sub, bin_mul, lenD_arr, lenD_str, List.length_map, ldD_ptr, takeD_f, chkV_v, offD_ptr, List.drop_zero, List.drop_succ_cons, atD_agg, mkArr_nil, Int.reduceLT, Int.reduceLE, Int.reduceEq]
    · have hz := odT_size hx
      have k5 := e_impl_ParseOrder (odT x) (by omega)
      rw [orderI_od hx] at k5
      simp -implicitDefEqProofs only [sl_zero, sl_succ, liveD_agg, liveD_ref, liveD_arr, ref0_eq, Option.bind_some, Option.map_some, callK_ret, gate_t, gate_f, gate_s, gateC_t, gateC_f, gateC_s, nrmK_some, pickD_B, ifD_B, ifN_B, if_true, if_false, Bool.false_eq_true, un_not, Bool.not_true, Bool.not_false, decide_true, decide_false, and_self, outK_ext, Nat.beq_refl, bin_lss, bin_gtr, bin_leq, bin_geq, bin_eql, bin_neq, bin_add, bin_sub, bin_mul, lenD_arr, lenD_str, List.length_map, ldD_ptr, takeD_f, chkV_v, offD_ptr, List.drop_zero, List.drop_succ_cons, atD_agg, mkArr_nil, Int.reduceLT, Int.reduceLE, Int.reduceEq, eq_self, k5, tpg0, tpv1, st_box, fld_box, ordR, Option.getD_some, Option.isSome_some, od_eq]
end Go.Proofs.YtecaabmaoaacnaaGreatDoor
