/-
  laws.toForme, laws.toFormeS, walked by hand.
-/
import Derived.Test.YtankikbbdfgkbaaRows
import Derived.Test.YtankikbbdfgkbaaM6
import Derived.Deep.RegionHeld3
import Derived.Deep.DrawnRows
namespace Go.Proofs.Ytankikbbdfgkbaa
open Go Go.Proofs Go.V Go.RowKit
set_option linter.unusedSimpArgs false
set_option linter.unusedVariables false

theorem at_alloc {w : World} (o : Obj) {n : Nat} (h : n = w.heap.size) : (w.alloc o).heap[n]? = some o := by
  subst h
  exact Array.getElem?_push_size
theorem past_alloc {w : World} (o : Obj) {n : Nat} {x : Obj} (h : w.heap[n]? = some x) : (w.alloc o).heap[n]? = some x :=
  ((World.grownBy_alloc w o none).block n (Array.getElem?_eq_some_iff.1 h).1 (by simp)).trans h
theorem own_slice {w : World} {F own : Nat → Prop} {z : Nat} {d : D} {y : Value} (h : OwnV w F own z d y) : ∃ A n c, y = .slice A n c := by
  obtain ⟨l, _, _, h3⟩ := h
  rcases h3 with ⟨rfl, _⟩ | ⟨g, o, c, us, cs, e, h4, _⟩
  · exact ⟨_, _, _, rfl⟩
  · exact ⟨_, _, _, h4⟩
set_option maxRecDepth 100000 in
theorem call_toStringS (l : List ByteArray) (h : l.length ≤ 1048576) {w : World} {F : Nat → Prop} {y : Value} (hr : RepV w F (txs l) y) (hF : ∀ b, F b → b < w.heap.size) :
    Calls Try.prog 76 #[y] w fun e w' => ∃ v, e = .returned v ∧ OwnV w' (fun _ => False) (ownB v) 1 (txs l) v ∧ (∀ b, ownB v b → w.heap.size ≤ b ∧ b < w'.heap.size) ∧ Below w.heap.size w w' := by
  refine (calls_of_meets' (ow := fun _ => none) (F := F) (ds := [txs l]) (rs := [txs l]) (us := []) (args := #[y]) (Go.Proofs.enters_of Try.func76 (by kernel_rfl) rfl) M_laws_toStringS (e_laws_toStringS l h) gOk_nil
    (show ArgOk w _ _ (.dat 2) (txs l) y ∧ True from ⟨.inr hr, trivial⟩) (fun b hb => ⟨hF b hb, rfl⟩) (fun b i h => by cases h)).mono ?_
  rintro e w' ⟨v, rfl, F', R, vs, rfl, hp⟩
  have hl := hp.len
  obtain ⟨u, rfl⟩ := List.length_eq_one_iff.1 (hl.trans rfl)
  have h0 := hp.res 0
  rcases h0 with h0 | h0
  · cases h0
  obtain ⟨m, e1, h2, h3⟩ := h0
  refine ⟨u, rfl, ⟨m, e1, h2, ?_⟩, fun b hb => ?_, ⟨hp.os, hp.tape, hp.output, hp.size, fun b hb => hp.keep b hb rfl⟩⟩
  · rcases h3 with h3 | ⟨g, o, c, us, cs, e, h4, h5, h6, h7, h8, h9, _⟩
    · exact .inl h3
    · have h4' : u = .slice (some ⟨g, o, none⟩) m.length c := h4
      exact .inr ⟨g, o, c, us, cs, e, h4, h5, h6, h7, RepL_mono (fun b hb => hb.elim) (fun b hb => hb.elim) _ _ h8, h9, by show ownB u g; rw [h4']; rfl⟩
  · rcases h3 with ⟨h3, _⟩ | ⟨g, o, c, us, cs, e, h4, h5, h6, h7, h8, h9, h10, h11⟩
    · have h3' : u = .slice none 0 0 := h3
      rw [ownB, h3'] at hb
      cases hb
    · have h4' : u = .slice (some ⟨g, o, none⟩) m.length c := h4
      rw [ownB, h4'] at hb
      have hb' : g = b := Option.some.inj hb
      subst hb'
      exact ⟨h11, (Array.getElem?_eq_some_iff.1 h6).1⟩
set_option maxHeartbeats 4000000 in
set_option maxRecDepth 1000000 in
theorem toForme_walk (x : Fm) (hx : x.2.1.length ≤ 1048576) (y : Value) (w : World) (F : Nat → Prop) (hr : RepV w F (txs x.2.1) y) (hF : ∀ b, F b → b < w.heap.size) :
    Calls Try.prog 56 #[.agg #[.int .i64 x.1, y, .bool x.2.2.1, .int .i64 x.2.2.2]] w fun e w' => ∃ v, e = .returned (.agg #[.int .i64 x.1, v, .bool x.2.2.1, .int .i64 x.2.2.2]) ∧ OwnV w' (fun _ => False) (ownB v) 1 (txs x.2.1) v ∧ (∀ b, ownB v b → w.heap.size ≤ b ∧ b < w'.heap.size) ∧ Below w.heap.size w w' := by
  go_enter Try.func56, Try.ntmps56
  have hb3 : ∀ a b c, Below w.heap.size w (((w.alloc a).alloc b).alloc c) := fun a b c => (((Below.refl _ w).alloc (Nat.le_refl _) _).alloc (by simp) _).alloc (by simp; omega) _
  have hc := fun (a b c : Obj) => call_toStringS x.2.1 hx (w := ((w.alloc a).alloc b).alloc c) (F := F) (y := y) (RepV_mono (fun _ h => h) (fun i hi => (hb3 a b c).block i (hF i hi)) hr) (fun i hi => Nat.lt_of_lt_of_le (hF i hi) (hb3 a b c).size)
  go_wp2_with (go_at_call 76; refine (hc _ _ _).mono ?_)
  rintro e w4 ⟨v, rfl, hv, hvb, b4⟩
  obtain ⟨vA, vn, vc, rfl⟩ := own_slice hv
  have H1 : w4.heap[w.heap.size]? = some (.cells #[.int .i64 x.1, y, .bool x.2.2.1, .int .i64 x.2.2.2] 81 (0, 0)) := (b4.block _ (by simp; omega)).trans (past_alloc _ (past_alloc _ (at_alloc _ rfl)))
  have H2 : w4.heap[w.heap.size + 1]? = some (.cells #[.int .i64 0, .slice none 0 0, .bool false, .int .i64 0] 63 (0, 0)) := (b4.block _ (by simp)).trans (past_alloc _ (at_alloc _ (by simp)))
  have H3 : w4.heap[w.heap.size + 1 + 1]? = some (.cells #[.int .i64 x.1, .slice none 0 0, .bool false, .int .i64 0] 63 (0, 0)) := (b4.block _ (by simp)).trans (at_alloc _ (by simp))
  have c12 : w4.cell? ⟨w.heap.size, 2, none⟩ = some (.bool x.2.2.1) := by rw [Lib.cell_of_heap H1]; rfl
  have c13 : w4.cell? ⟨w.heap.size, 3, none⟩ = some (.int .i64 x.2.2.2) := by rw [Lib.cell_of_heap H1]; rfl
  have c31 : w4.cell? ⟨w.heap.size + 1 + 1, 1, none⟩ = some (.slice none 0 0) := by rw [Lib.cell_of_heap H3]; rfl
  have f31 := Lib.frozen_of_heap H3 1
  have f32 := Lib.frozen_of_heap H3 2
  have f33 := Lib.frozen_of_heap H3 3
  have c32 : w4.cell? ⟨w.heap.size + 1 + 1, 2, none⟩ = some (.bool false) := by rw [Lib.cell_of_heap H3]; rfl
  have c33 : w4.cell? ⟨w.heap.size + 1 + 1, 3, none⟩ = some (.int .i64 0) := by rw [Lib.cell_of_heap H3]; rfl
  have H7 : (((w4.setCell ⟨w.heap.size + 1 + 1, 1, none⟩ (.slice vA vn vc)).setCell ⟨w.heap.size + 1 + 1, 2, none⟩ (.bool x.2.2.1)).setCell ⟨w.heap.size + 1 + 1, 3, none⟩ (.int .i64 x.2.2.2)).heap[w.heap.size + 1 + 1]? = some (.cells #[.int .i64 x.1, .slice vA vn vc, .bool x.2.2.1, .int .i64 x.2.2.2] 63 (0, 0)) := by
    rw [heap_setCell_same _ _ _ _ _ _ (heap_setCell_same _ _ _ _ _ _ (heap_setCell_same _ _ _ _ _ _ H3))]
    rfl
  have H72 : (((w4.setCell ⟨w.heap.size + 1 + 1, 1, none⟩ (.slice vA vn vc)).setCell ⟨w.heap.size + 1 + 1, 2, none⟩ (.bool x.2.2.1)).setCell ⟨w.heap.size + 1 + 1, 3, none⟩ (.int .i64 x.2.2.2)).heap[w.heap.size + 1]? = some (.cells #[.int .i64 0, .slice none 0 0, .bool false, .int .i64 0] 63 (0, 0)) := by
    rw [heap_setCell_other _ _ _ _ (by simp), heap_setCell_other _ _ _ _ (by simp), heap_setCell_other _ _ _ _ (by simp), H2]
  have B7 : Below w.heap.size w (((w4.setCell ⟨w.heap.size + 1 + 1, 1, none⟩ (.slice vA vn vc)).setCell ⟨w.heap.size + 1 + 1, 2, none⟩ (.bool x.2.2.1)).setCell ⟨w.heap.size + 1 + 1, 3, none⟩ (.int .i64 x.2.2.2)) :=
    ((((hb3 _ _ _).trans (b4.mono (hb3 _ _ _).size)).setCell (by simp; omega) _).setCell (by simp; omega) _).setCell (by simp; omega) _
  have O7 := own_keep (w' := ((w4.setCell ⟨w.heap.size + 1 + 1, 1, none⟩ (.slice vA vn vc)).setCell ⟨w.heap.size + 1 + 1, 2, none⟩ (.bool x.2.2.1)).setCell ⟨w.heap.size + 1 + 1, 3, none⟩ (.int .i64 x.2.2.2)) hv (fun b hb => by
    have := (hvb b hb).1
    simp at this
    rw [heap_setCell_other _ _ _ _ (by simp; omega), heap_setCell_other _ _ _ _ (by simp; omega), heap_setCell_other _ _ _ _ (by simp; omega)])
  have L7 : ∀ b, ownB (.slice vA vn vc) b → w.heap.size + 1 + 1 < b ∧ b < w4.heap.size := fun b hb => by
    have := hvb b hb
    simp at this
    omega
  have S7 : (((w4.setCell ⟨w.heap.size + 1 + 1, 1, none⟩ (.slice vA vn vc)).setCell ⟨w.heap.size + 1 + 1, 2, none⟩ (.bool x.2.2.1)).setCell ⟨w.heap.size + 1 + 1, 3, none⟩ (.int .i64 x.2.2.2)).heap.size = w4.heap.size := by simp [World.setCell]
  have d0 := Lib.cell_of_heap H7 0
  have d1 := Lib.cell_of_heap H7 1
  have d2 := Lib.cell_of_heap H7 2
  have d3 := Lib.cell_of_heap H7 3
  have e0 := Lib.cell_of_heap H72 0
  have e1 := Lib.cell_of_heap H72 1
  have e2 := Lib.cell_of_heap H72 2
  have e3 := Lib.cell_of_heap H72 3
  have g0 := Lib.frozen_of_heap H72 0
  have g1 := Lib.frozen_of_heap H72 1
  have g2 := Lib.frozen_of_heap H72 2
  have g3 := Lib.frozen_of_heap H72 3
  simp only [List.getElem?_toArray, List.getElem?_cons_zero, List.getElem?_cons_succ] at d0 d1 d2 d3 e0 e1 e2 e3
  go_wp2
  generalize ((w4.setCell ⟨w.heap.size + 1 + 1, 1, none⟩ (.slice vA vn vc)).setCell ⟨w.heap.size + 1 + 1, 2, none⟩ (.bool x.2.2.1)).setCell ⟨w.heap.size + 1 + 1, 3, none⟩ (.int .i64 x.2.2.2) = W7 at *
  have H11 : ((((W7.setCell ⟨w.heap.size + 1, 0, none⟩ (.int .i64 x.1)).setCell ⟨w.heap.size + 1, 1, none⟩ (.slice vA vn vc)).setCell ⟨w.heap.size + 1, 2, none⟩ (.bool x.2.2.1)).setCell ⟨w.heap.size + 1, 3, none⟩ (.int .i64 x.2.2.2)).heap[w.heap.size + 1]? = some (.cells #[.int .i64 x.1, .slice vA vn vc, .bool x.2.2.1, .int .i64 x.2.2.2] 63 (0, 0)) := by
    rw [heap_setCell_same _ _ _ _ _ _ (heap_setCell_same _ _ _ _ _ _ (heap_setCell_same _ _ _ _ _ _ (heap_setCell_same _ _ _ _ _ _ H72)))]
    rfl
  have d0 := Lib.cell_of_heap H11 0
  have d1 := Lib.cell_of_heap H11 1
  have d2 := Lib.cell_of_heap H11 2
  have d3 := Lib.cell_of_heap H11 3
  simp only [List.getElem?_toArray, List.getElem?_cons_zero, List.getElem?_cons_succ] at d0 d1 d2 d3
  refine bodyPost_ret (by simp [results, Try.results56, go_sem, d0, d1, d2, d3]; try rfl) rfl ?_
  refine ⟨_, rfl, own_keep O7 (fun b hb => ?_), fun b hb => ?_, (((B7.setCell (by simp) _).setCell (by simp) _).setCell (by simp) _).setCell (by simp) _⟩
  · have := (L7 b hb).1
    rw [heap_setCell_other _ _ _ _ (by simp; omega), heap_setCell_other _ _ _ _ (by simp; omega), heap_setCell_other _ _ _ _ (by simp; omega), heap_setCell_other _ _ _ _ (by simp; omega)]
  · have := L7 b hb
    simp [World.setCell, S7]
    omega
end Go.Proofs.Ytankikbbdfgkbaa
/-
  laws.toFormeS, walked by hand.
-/
namespace Go.Proofs.Ytankikbbdfgkbaa
open Go Go.Proofs Go.V Go.RowKit
set_option linter.unusedSimpArgs false
set_option linter.unusedVariables false

theorem rowsF_put : ∀ (l : List Fm) (ys : List Value) (i : Nat) (x : Fm) (y : Value), i < l.length → ys.length = l.length → rowsF (l.set i x) (ys.set i y) = ((((rowsF l ys).set (i * 4) (.int .i64 x.1)).set (i * 4 + 1) y).set (i * 4 + 2) (.bool x.2.2.1)).set (i * 4 + 3) (.int .i64 x.2.2.2)
  | a :: l, b :: ys, 0, x, y, _, _ => by simp [rowsF, cellsF]
  | a :: l, b :: ys, i + 1, x, y, h1, h2 => by
    have ih := rowsF_put l ys i x y (by simpa using h1) (by simpa using h2)
    simp only [rowsF, List.set_cons_succ, cellsF, List.cons_append, List.nil_append]
    rw [ih]
    have e0 : (i + 1) * 4 = i * 4 + 4 := by omega
    simp [e0, Nat.add_assoc, List.set_cons_succ]
  | [], _, _, _, _, h1, _ => by simp at h1
  | _ :: _, [], _, _, _, _, h2 => by simp at h2
abbrev putF (w : World) (g i : Nat) (x : Fm) (y : Value) : World := (((w.setCell ⟨g, i * 4, none⟩ (.int .i64 x.1)).setCell ⟨g, i * 4 + 1, none⟩ y).setCell ⟨g, i * 4 + 2, none⟩ (.bool x.2.2.1)).setCell ⟨g, i * 4 + 3, none⟩ (.int .i64 x.2.2.2)
theorem putF_other (w : World) (g i : Nat) (x : Fm) (y : Value) {b : Nat} (h : b ≠ g) : (putF w g i x y).heap[b]? = w.heap[b]? := by
  rw [heap_setCell_other _ _ _ _ (by simpa using h), heap_setCell_other _ _ _ _ (by simpa using h), heap_setCell_other _ _ _ _ (by simpa using h), heap_setCell_other _ _ _ _ (by simpa using h)]
theorem putF_size (w : World) (g i : Nat) (x : Fm) (y : Value) : (putF w g i x y).heap.size = w.heap.size := by simp [putF, World.setCell]
theorem FmsAt_put {w : World} {B g cap : Nat} {l : List Fm} {ys : List Value} (h : FmsAt w B (.slice (some ⟨g, 0, none⟩) l.length cap) ys l) {i : Nat} (hi : i < l.length) (x : Fm) (y : Value) (hy : OwnV w (fun _ => False) (ownB y) 1 (txs x.2.1) y)
    (hb : ∀ b, ownB y b → B ≤ b ∧ b ≠ g) (hd : ∀ j z, j ≠ i → ys[j]? = some z → y.ownBlock = none ∨ y.ownBlock ≠ z.ownBlock) :
    FmsAt (putF w g i x y) B (.slice (some ⟨g, 0, none⟩) l.length cap) (ys.set i y) (l.set i x) := by
  refine ⟨by simp [h.len], ?_, fun j x' y' hj hyj => ?_, fun j y' b hyj hb' => ?_, fun j k y' z' hjk hj hk => ?_⟩
  · rw [List.length_set, rowsF_put l ys i x y hi h.len]
    exact ownsRow_set (ownsRow_set (ownsRow_set (ownsRow_set h.own rfl _ _) rfl _ _) rfl _ _) rfl _ _
  · by_cases e : j = i
    · subst e
      rw [List.getElem?_set_self hi] at hj
      rw [List.getElem?_set_self (by rw [h.len]; exact hi)] at hyj
      obtain rfl := Option.some.inj hj
      obtain rfl := Option.some.inj hyj
      exact own_keep hy fun b hb1 => putF_other _ _ _ _ _ (hb b hb1).2
    · rw [List.getElem?_set_ne (fun h => e h.symm)] at hj hyj
      exact own_keep (h.row j x' y' hj hyj) fun b hb1 => putF_other _ _ _ _ _ fun h1 => (h.blk j y' b hyj hb1).2 (by rw [h1]; rfl)
  · by_cases e : j = i
    · subst e
      rw [List.getElem?_set_self (by rw [h.len]; exact hi)] at hyj
      obtain rfl := Option.some.inj hyj
      exact ⟨(hb b hb').1, fun h1 => (hb b hb').2 (Option.some.inj h1).symm⟩
    · rw [List.getElem?_set_ne (fun h => e h.symm)] at hyj
      exact h.blk j y' b hyj hb'
  · by_cases e : j = i
    · subst e
      rw [List.getElem?_set_self (by rw [h.len]; exact hi)] at hj
      obtain rfl := Option.some.inj hj
      rw [List.getElem?_set_ne hjk] at hk
      exact hd k z' (fun h => hjk h.symm) hk
    · rw [List.getElem?_set_ne (fun h => e h.symm)] at hj
      by_cases e2 : k = i
      · subst e2
        rw [List.getElem?_set_self (by rw [h.len]; exact hi)] at hk
        obtain rfl := Option.some.inj hk
        rcases hd j y' e hj with h1 | h1
        · rw [h1]
          cases y'.ownBlock <;> simp
        · exact .inr fun h2 => h1 h2.symm
      · rw [List.getElem?_set_ne (fun h => e2 h.symm)] at hk
        exact h.dis j k y' z' hjk hj hk
def zFm : Fm := (0, [], false, 0)
theorem rowsF_made : ∀ n, rowsF (List.replicate n zFm) (List.replicate n (.slice none 0 0)) = (madeCells (Value.agg #[.int .i64 0, .slice none 0 0, .bool false, .int .i64 0]).cells (n * 4)).toList := by
  intro n
  apply List.ext_getElem?
  intro j
  have hl : (rowsF (List.replicate n zFm) (List.replicate n (.slice none 0 0))).length = n * 4 := by rw [rowsF_len _ _ (by simp)]; simp
  by_cases hj : j < n * 4
  · have h1 := rowsF_at (List.replicate n zFm) (List.replicate n (.slice none 0 0)) (j / 4) zFm (.slice none 0 0) (by rw [List.getElem?_replicate, if_pos (by omega)]) (by rw [List.getElem?_replicate, if_pos (by omega)]) (j % 4) (by omega)
    rw [show j / 4 * 4 + j % 4 = j by omega] at h1
    rw [h1]
    simp only [madeCells, Array.getElem?_toList, Array.getElem?_map, Array.getElem?_range, hj, if_true, Option.map_some]
    have h4 : j % 4 = 0 ∨ j % 4 = 1 ∨ j % 4 = 2 ∨ j % 4 = 3 := by omega
    have hs : (Value.agg #[.int .i64 0, .slice none 0 0, .bool false, .int .i64 0]).cells.size = 4 := rfl
    rw [hs]
    rcases h4 with e | e | e | e <;> rw [e] <;> rfl
  · rw [List.getElem?_eq_none (by omega), List.getElem?_eq_none (by simp [madeCells]; omega)]
theorem own_nil (w : World) (F own : Nat → Prop) (z : Nat) : OwnV w F own z (.arr z []) (.slice none 0 0) := ⟨[], rfl, fun _ h => by simp at h, .inl ⟨rfl, rfl⟩⟩
theorem FmsAt_made {w : World} {B : Nat} {V : Value} {n : Nat} (h : w.ownsRow B 63 4 V n (madeCells (Value.agg #[.int .i64 0, .slice none 0 0, .bool false, .int .i64 0]).cells (n * 4)).toList) : FmsAt w B V (List.replicate n (.slice none 0 0)) (List.replicate n zFm) := by
  have hy0 : ∀ {i : Nat} {y : Value}, (List.replicate n (Value.slice none 0 0))[i]? = some y → i < n ∧ y = .slice none 0 0 := fun {i y} hy => by
    rw [List.getElem?_replicate] at hy
    by_cases h : i < n
    · rw [if_pos h] at hy
      exact ⟨h, (Option.some.inj hy).symm⟩
    · rw [if_neg h] at hy
      cases hy
  refine ⟨by simp, by rw [rowsF_made, List.length_replicate]; exact h, fun i x y hx hy => ?_, fun i y b hy hb => ?_, fun i j y z _ hy _ => ?_⟩
  · obtain ⟨h1, rfl⟩ := hy0 hy
    rw [List.getElem?_replicate, if_pos h1] at hx
    obtain rfl := Option.some.inj hx
    exact own_nil _ _ _ _
  · obtain ⟨_, rfl⟩ := hy0 hy
    cases hb
  · obtain ⟨_, rfl⟩ := hy0 hy
    exact .inl rfl
theorem FmsAt.lt {w : World} {B : Nat} {V : Value} {ys : List Value} {l : List Fm} (h : FmsAt w B V ys l) : ∀ b, FmS V ys b → B ≤ b ∧ b < w.heap.size := by
  rintro b (hb | ⟨y, hy, hb⟩)
  · exact h.own.lt b hb
  · obtain ⟨i, hi⟩ := List.mem_iff_getElem?.1 hy
    have hl : i < l.length := by rw [← h.len]; exact (List.getElem?_eq_some_iff.1 hi).1
    exact ⟨(h.blk i y b hi hb).1, own_lt (h.row i l[i] y (by simp) hi) b hb⟩
theorem FmsAt.keep {w w' : World} {B : Nat} {V : Value} {ys : List Value} {l : List Fm} (h : FmsAt w B V ys l) (hk : ∀ b, FmS V ys b → w'.heap[b]? = w.heap[b]?) : FmsAt w' B V ys l := by
  refine ⟨h.len, ?_, fun i x y hx hy => own_keep (h.row i x y hx hy) fun b hb => hk b (.inr ⟨y, List.mem_of_getElem? hy, hb⟩), h.blk, h.dis⟩
  obtain ⟨h1, h2 | ⟨g, cap, cur, hg, h3, h4, h5⟩⟩ := h.own
  · exact ⟨h1, .inl h2⟩
  · exact ⟨h1, .inr ⟨g, cap, cur, hg, h3, (hk g (.inl (by rw [ownB, hg]; rfl))).trans h4, h5⟩⟩
theorem FmsAt.base {w : World} {B B' : Nat} {V : Value} {ys : List Value} {l : List Fm} (h : FmsAt w B V ys l) (hb : B' ≤ B) : FmsAt w B' V ys l := by
  refine ⟨h.len, ?_, h.row, fun i y b hy hyb => ⟨Nat.le_trans hb (h.blk i y b hy hyb).1, (h.blk i y b hy hyb).2⟩, h.dis⟩
  obtain ⟨h1, h2 | ⟨g, cap, cur, hg, h3, h4, h5⟩⟩ := h.own
  · exact ⟨h1, .inl h2⟩
  · exact ⟨h1, .inr ⟨g, cap, cur, hg, Nat.le_trans hb h3, h4, h5⟩⟩
theorem fm_cells {w : World} {F : Nat → Prop} {l : List Fm} {us : List Value} (h : RepL w F (l.map fm) us) {i : Nat} (hi : i < l.length) :
    ∃ A n c, us[i * 4]? = some (.int .i64 l[i].1) ∧ us[i * 4 + 1]? = some (.slice A n c) ∧ us[i * 4 + 2]? = some (.bool l[i].2.2.1) ∧ us[i * 4 + 3]? = some (.int .i64 l[i].2.2.2) ∧ RepV w F (txs l[i].2.1) (.slice A n c) := by
  obtain ⟨p, m, q, rfl, hp, hm, hc, _⟩ := RepL_get (z := 4) _ _ h (fun d hd => by obtain ⟨x, _, rfl⟩ := List.mem_map.1 hd; rfl) i (fm l[i]) (by simp [hi])
  simp only [RepC, RepL_cons, RepL_nil] at hc
  obtain ⟨⟨v1, v2, rfl, ⟨rfl, _⟩, v3, v4, rfl, hx, v5, v6, rfl, ⟨rfl, _⟩, v7, v8, rfl, ⟨rfl, _⟩, rfl⟩, _⟩ := hc
  obtain ⟨A, c, us', rfl, h2⟩ := hx
  refine ⟨A, _, c, ?_, ?_, ?_, ?_, ⟨A, c, us', rfl, h2⟩⟩ <;> rw [List.append_assoc, List.getElem?_append_right (by omega), hp] <;> simp [show ∀ k, i * 4 + k - i * 4 = k from fun k => by omega]
def toF (l : List Fm) (i : Nat) : List Fm := l.take i ++ List.replicate (l.length - i) zFm
def toY (vs : List Value) (n : Nat) : List Value := vs ++ List.replicate (n - vs.length) (.slice none 0 0)
theorem toF_len (l : List Fm) {i : Nat} (h : i ≤ l.length) : (toF l i).length = l.length := by simp [toF]; omega
theorem toF_succ (l : List Fm) {i : Nat} (h : i < l.length) : toF l (i + 1) = (toF l i).set i l[i] := by
  unfold toF
  rw [List.take_succ_eq_append_getElem h, List.set_append_right _ _ (by rw [List.length_take]; omega), List.length_take, Nat.min_eq_left (Nat.le_of_lt h), Nat.sub_self, show l.length - i = (l.length - (i + 1)) + 1 by omega, List.replicate_succ, List.set_cons_zero, List.append_assoc, List.singleton_append]
theorem toY_succ (vs : List Value) {n : Nat} (v : Value) (h : vs.length < n) : toY (vs ++ [v]) n = (toY vs n).set vs.length v := by
  unfold toY
  rw [List.set_append_right _ _ (Nat.le_refl _), Nat.sub_self, show n - vs.length = (n - (vs ++ [v]).length) + 1 by simp; omega, List.replicate_succ, List.set_cons_zero]
  simp
theorem info_Forme : (Try.prog.info? 63).map (fun i => (i.zero, i.size, i.bytes)) = some (some (.agg #[.int .i64 0, .slice none 0 0, .bool false, .int .i64 0]), 4, 48) := by kernel_rfl
set_option maxHeartbeats 4000000 in
set_option maxRecDepth 1000000 in
theorem toFormeS_walk (l : List Fm) (hln : l.length ≤ 1048576) (hls : ∀ x ∈ l, x.2.1.length ≤ 1048576) (y0 : Value) (w : World) (F : Nat → Prop) (hr : RepV w F (fms l) y0) (hF : ∀ b, F b → b < w.heap.size) :
    Calls Try.prog 33 #[y0] w fun e w' => ∃ g cap ys, e = .returned (.slice (some ⟨g, 0, none⟩) l.length cap) ∧ FmsAt w' w.heap.size (.slice (some ⟨g, 0, none⟩) l.length cap) ys l ∧ Below w.heap.size w w' := by
  obtain ⟨i0, hi0, hz0, hz1, hz2⟩ := info_parts info_Forme
  obtain ⟨A, c, us, e0, hc0, hus, _, hA⟩ := hr
  simp only [List.cons.injEq, and_true, List.length_map] at e0
  subst e0
  rw [List.length_map] at hc0
  go_enter Try.func33, Try.ntmps33
  go_wp2_with (at_make; refine wpList_make_full _ rfl _ _ _ rfl w.heap.size 63 i0 _ 4 (by kernel_rfl) hi0 hz0 hz1 _ _ _ _ l.length rfl rfl rfl rfl (by rw [hz2]; omega) (by unfold maxLen; omega) (Nat.le_refl _) ?_)
  intro w1 hown1 hg1
  go_wp2
  go_loopw [4] (fun vi wr => ∃ (i : Nat) (vs : List Value), vi = .int .i64 i ∧ i ≤ l.length ∧ vs.length = i ∧ FmsAt wr w.heap.size (.slice (some ⟨w.heap.size, 0, none⟩) l.length l.length) (toY vs l.length) (toF l i) ∧ Below w.heap.size w wr) (fun vi _ => l.length - (intOf vi).toNat)
  case atStart =>
    refine ⟨0, [], rfl, Nat.zero_le _, rfl, ?_, hg1.os, hg1.tape, hg1.output, hg1.size, fun b hb => hg1.block b hb (by simp)⟩
    have := FmsAt_made hown1
    simpa [toF, toY] using this
  case round =>
    obtain ⟨i, vs, rfl, hin, hvs, hF1, hB⟩ := hrel
    by_cases hp : i < l.length
    · have hpi : (i : Int) < (l.length : Int) := by omega
      obtain ⟨b, o, rfl, hFb, hcell⟩ := hA (by intro h; simp at h; subst h; simp at hp)
      obtain ⟨A', n', c', u0, u1, u2, u3, hry⟩ := fm_cells hus hp
      have hcb : ∀ {k : Nat} {u : Value}, us[k]? = some u → wr.cell? ⟨b, o + k, none⟩ = some u := fun {k u} hu => (World.cell?_of_block (w := w) (hB.block b (hF b hFb))).trans (hcell k u hu)
      have c0 := hcb u0
      have c1 := hcb u1
      have c2 := hcb u2
      have c3 := hcb u3
      simp only [← Nat.add_assoc] at c1 c2 c3
      have hxl := hls l[i] (List.getElem_mem hp)
      have hcall := toForme_walk l[i] hxl (.slice A' n' c') wr F (RepV_mono (fun _ h => h) (fun b hb => hB.block b (hF b hb)) hry) (fun b hb => Nat.lt_of_lt_of_le (hF b hb) hB.size)
      have hsucc := toF_succ l hp
      generalize l[i] = x at *
      go_wp2_with (go_at_call 56; refine hcall.mono ?_)
      rintro e w4 ⟨v, rfl, hv, hvb, hB4⟩
      obtain ⟨A4, n4, c4, rfl⟩ := own_slice hv
      have hlt1 := hF1.lt
      have hF4 := hF1.keep (w' := w4) fun b hb => hB4.block b (hlt1 b hb).2
      have hown4 := hF4.own
      rw [toF_len l hin] at hown4
      have hg : w.heap.size < wr.heap.size := (hlt1 _ (.inl rfl)).2
      have hrl : (rowsF (toF l i) (toY vs l.length)).length = l.length * 4 := by rw [rowsF_len _ _ (by simp [toF, toY]; omega), toF_len l hin]
      generalize hrw : rowsF (toF l i) (toY vs l.length) = R at *
      have k0 : ∀ f, f < 4 → ∃ u, R[i * 4 + f]? = some u := fun f hf => ⟨_, List.getElem?_eq_getElem (by omega)⟩
      obtain ⟨z0, q0⟩ := k0 0 (by omega)
      obtain ⟨z1, q1⟩ := k0 1 (by omega)
      obtain ⟨z2, q2⟩ := k0 2 (by omega)
      obtain ⟨z3, q3⟩ := k0 3 (by omega)
      have hw1 := ownsRow_set hown4 rfl (i * 4) (.int .i64 x.1)
      have hw2 := ownsRow_set hw1 rfl (i * 4 + 1) (.slice A4 n4 c4)
      have hw3 := ownsRow_set hw2 rfl (i * 4 + 2) (.bool x.2.2.1)
      have d0 := own_cell hown4 (j := i * 4) q0
      have d1 := own_cell hw1 (j := i * 4 + 1) (by rw [List.getElem?_set_ne (by omega)]; exact q1)
      have d2 := own_cell hw2 (j := i * 4 + 2) (by rw [List.getElem?_set_ne (by omega), List.getElem?_set_ne (by omega)]; exact q2)
      have d3 := own_cell hw3 (j := i * 4 + 3) (by rw [List.getElem?_set_ne (by omega), List.getElem?_set_ne (by omega), List.getElem?_set_ne (by omega)]; exact q3)
      have e0 := own_froz hown4 (i * 4)
      have e1 := own_froz hw1 (i * 4 + 1)
      have e2 := own_froz hw2 (i * 4 + 2)
      have e3 := own_froz hw3 (i * 4 + 3)
      go_wp2
      refine ⟨⟨i + 1, vs ++ [.slice A4 n4 c4], congrArg (Value.int .i64) (by omega), by omega, by simp [hvs], ?_, ?_⟩, ?_⟩
      · rw [hsucc, toY_succ vs _ (by omega), hvs]
        have hp4 := FmsAt_put (i := i) (by rw [toF_len l hin]; exact hF4) (by rw [toF_len l hin]; exact hp) x (.slice A4 n4 c4) hv (fun b hb => by have := (hvb b hb).1; omega) (fun j z hj hz => ?_)
        · rw [toF_len l hin] at hp4
          exact hp4
        · cases hzb : z.ownBlock with
          | none => cases (Value.slice A4 n4 c4).ownBlock <;> simp
          | some b =>
              refine .inr fun h => ?_
              have h1 := (hvb b h).1
              have h2 := (hlt1 b (.inr ⟨z, List.mem_of_getElem? hz, hzb⟩)).2
              omega
      · exact ((((hB.trans (hB4.mono hB.size)).setCell (Nat.le_refl _) _).setCell (Nat.le_refl _) _).setCell (Nat.le_refl _) _).setCell (Nat.le_refl _) _
      · show l.length - ((i : Int) + 1).toNat < l.length - (i : Int).toNat
        omega
    · have hpi : ¬ (i : Int) < (l.length : Int) := by omega
      have hie : i = l.length := by omega
      subst hie
      go_wp2
      go_ret
      refine ⟨_, _, rfl, ⟨toY vs l.length, ?_⟩, hB⟩
      have he : toF l l.length = l := by simp [toF]
      rwa [he] at hF1
end Go.Proofs.Ytankikbbdfgkbaa
/-
  Shops in memory; laws.toShop, walked by hand.
-/
namespace Go.Proofs.Ytankikbbdfgkbaa
open Go Go.Proofs Go.V Go.RowKit
set_option linter.unusedSimpArgs false
set_option linter.unusedVariables false

theorem own_rep {w : World} {F own F' : Nat → Prop} {z : Nat} {d : D} {y : Value} (h : OwnV w F own z d y) (h1 : ∀ b, F b → F' b) (h2 : ∀ b, own b → F' b) : RepV w F' d y := by
  obtain ⟨l, rfl, hw, ⟨rfl, rfl⟩ | ⟨g, o, c, us, cs, e, rfl, hc, hg, hs, hr, hu, ho⟩⟩ := h
  · exact ⟨none, 0, [], rfl, Nat.le_refl _, RepL_nil.2 rfl, hw, fun h => absurd rfl h⟩
  · exact ⟨_, c, us, rfl, hc, RepL_mono h1 (fun _ _ => rfl) _ _ hr, hw, fun _ => ⟨g, o, rfl, h2 g ho, fun i u hi => by simp [World.cell?, hg, hu i u hi]⟩⟩
theorem rep_fms {w : World} {F : Nat → Prop} : ∀ (l : List Fm) (ys : List Value), ys.length = l.length → (∀ (i : Nat) (x : Fm) (y : Value), l[i]? = some x → ys[i]? = some y → RepV w F (txs x.2.1) y) → RepL w F (l.map fm) (rowsF l ys)
  | [], [], _, _ => RepL_nil.2 rfl
  | x :: l, y :: ys, h, hr => by
    refine RepL_cons.2 ⟨cellsF x y, rowsF l ys, rfl, ?_, rep_fms l ys (by simpa using h) fun i x y hx hy => hr (i + 1) x y hx hy⟩
    have h0 := hr 0 x y rfl rfl
    simp only [RepC, RepL_cons, RepL_nil]
    exact ⟨⟨[_], [_, _, _], rfl, ⟨rfl, rfl⟩, [_], [_, _], rfl, h0, [_], [_], rfl, ⟨rfl, rfl⟩, [_], [], rfl, ⟨rfl, rfl⟩, rfl⟩, rfl⟩
  | [], _ :: _, h, _ => by simp at h
  | _ :: _, [], h, _ => by simp at h
theorem FmsAt.rep {w : World} {B : Nat} {V : Value} {ys : List Value} {l : List Fm} (h : FmsAt w B V ys l) : RepV w (FmS V ys) (fms l) V := by
  have hr : RepL w (FmS V ys) (l.map fm) (rowsF l ys) := rep_fms l ys h.len fun i x y hx hy => own_rep (h.row i x y hx hy) (fun _ h => h.elim) fun b hb => .inr ⟨y, List.mem_of_getElem? hy, hb⟩
  have hw : ∀ d ∈ l.map fm, d.width = 4 := fun d hd => by obtain ⟨x, _, rfl⟩ := List.mem_map.1 hd; rfl
  have ho := h.own
  obtain ⟨h1, ⟨rfl, h2⟩ | ⟨g, cap, cur, rfl, h3, h4, h5, _⟩⟩ := h.own
  · have : l = [] := List.eq_nil_of_length_eq_zero h2
    subst this
    exact ⟨none, 0, _, rfl, Nat.le_refl _, hr, hw, fun h => absurd rfl h⟩
  · refine ⟨_, cap, _, by rw [List.length_map], by rw [List.length_map]; exact h5, hr, hw, fun _ => ⟨g, 0, rfl, .inl rfl, fun i u hi => ?_⟩⟩
    rw [Nat.zero_add]
    exact own_cell ho hi
/-- A shop in memory of its own. -/
structure ShopAt (w : World) (B : Nat) (v Vb Vf : Value) (ys : List Value) (s : Sp) : Prop where
  val : v = .agg #[Vb, Vf, .int .i64 s.2.2.1, .int .i64 s.2.2.2]
  box : OwnV w (fun _ => False) (ownB Vb) 4 (bxs s.1) Vb
  bge : ∀ b, ownB Vb b → B ≤ b
  fms : FmsAt w B Vf ys s.2.1
  dis : ∀ b, ownB Vb b → ¬ FmS Vf ys b
def ShS (Vb Vf : Value) (ys : List Value) : Nat → Prop := fun b => ownB Vb b ∨ FmS Vf ys b
theorem ShopAt.lt {w : World} {B : Nat} {v Vb Vf : Value} {ys : List Value} {s : Sp} (h : ShopAt w B v Vb Vf ys s) : ∀ b, ShS Vb Vf ys b → B ≤ b ∧ b < w.heap.size := by
  rintro b (hb | hb)
  · exact ⟨h.bge b hb, own_lt h.box b hb⟩
  · exact h.fms.lt b hb
theorem ShopAt.keep {w w' : World} {B : Nat} {v Vb Vf : Value} {ys : List Value} {s : Sp} (h : ShopAt w B v Vb Vf ys s) (hk : ∀ b, ShS Vb Vf ys b → w'.heap[b]? = w.heap[b]?) : ShopAt w' B v Vb Vf ys s :=
  ⟨h.val, own_keep h.box fun b hb => hk b (.inl hb), h.bge, h.fms.keep fun b hb => hk b (.inr hb), h.dis⟩
theorem ShopAt.below {w w' : World} {B : Nat} {v Vb Vf : Value} {ys : List Value} {s : Sp} (h : ShopAt w B v Vb Vf ys s) (hk : Below w.heap.size w w') : ShopAt w' B v Vb Vf ys s := h.keep fun b hb => hk.block b (h.lt b hb).2
theorem ShopAt.rep {w : World} {B : Nat} {v Vb Vf : Value} {ys : List Value} {s : Sp} (h : ShopAt w B v Vb Vf ys s) : RepV w (ShS Vb Vf ys) (sp s) v := by
  obtain ⟨rfl, h1, _, h2, _⟩ := h
  refine ⟨[_, _, _, _], rfl, ?_⟩
  have e1 : RepV w (ShS Vb Vf ys) (bxs s.1) Vb := own_rep h1 (fun _ h => h.elim) fun b hb => .inl hb
  have e2 : RepV w (ShS Vb Vf ys) (V.D.arr 4 (s.2.1.map fm)) Vf := RepV_mono (fun b hb => .inr hb) (fun _ _ => rfl) h2.rep
  simp only [RepC, RepL_cons, RepL_nil]
  exact ⟨⟨[_], [_, _, _], rfl, e1, [_], [_, _], rfl, e2, [_], [_], rfl, ⟨rfl, rfl⟩, [_], [], rfl, ⟨rfl, rfl⟩, rfl⟩, rfl⟩
theorem shop_parts {w : World} {F : Nat → Prop} {s : Sp} {v : Value} (h : RepV w F (sp s) v) : ∃ A n c A' n' c', v = .agg #[.slice A n c, .slice A' n' c', .int .i64 s.2.2.1, .int .i64 s.2.2.2] ∧ RepV w F (bxs s.1) (.slice A n c) ∧ RepV w F (V.D.arr 4 (s.2.1.map fm)) (.slice A' n' c') := by
  obtain ⟨vs, rfl, h⟩ := h
  simp only [RepC, RepL_cons, RepL_nil] at h
  obtain ⟨⟨v1, v2, rfl, h1, v3, v4, rfl, h2, v5, v6, rfl, ⟨rfl, _⟩, v7, v8, rfl, ⟨rfl, _⟩, rfl⟩, _⟩ := h
  have h1' := h1
  have h2' := h2
  obtain ⟨A, c, _, rfl, _⟩ := h1
  obtain ⟨A', c', _, rfl, _⟩ := h2
  exact ⟨A, _, c, A', _, c', rfl, by simp only [RepV, RepC]; exact h1', by simp only [RepV, RepC]; exact h2'⟩
theorem calls_to {f : Nat} {z : Nat} {ff : List D → Option Out} {d : D} (he : ∀ args w, (callFunc f args).run Try.prog w = .ok (.enter f args) w) (hm : Meets gl0 Try.prog f { pm := [.dat 2], rm := [.own z 0 false], f := ff }) (hd : ff [d] = some (.ret [d] [])) (hbad : d ≠ .bad) {w : World} {F : Nat → Prop} {y : Value} (hr : RepV w F d y) (hF : ∀ b, F b → b < w.heap.size) :
    Calls Try.prog f #[y] w fun e w' => ∃ A n c, e = .returned (.slice A n c) ∧ OwnV w' (fun _ => False) (ownB (.slice A n c)) z d (.slice A n c) ∧ (∀ b, ownB (.slice A n c) b → w.heap.size ≤ b ∧ b < w'.heap.size) ∧ Below w.heap.size w w' := by
  refine (calls_of_meets' (ow := fun _ => none) (F := F) (ds := [d]) (rs := [d]) (us := []) (args := #[y]) he hm hd gOk_nil
    (show ArgOk w _ _ (.dat 2) d y ∧ True from ⟨.inr hr, trivial⟩) (fun b hb => ⟨hF b hb, rfl⟩) (fun b i h => by cases h)).mono ?_
  rintro e w' ⟨v, rfl, F', R, vs, rfl, hp⟩
  have hl := hp.len
  obtain ⟨u, rfl⟩ := List.length_eq_one_iff.1 (hl.trans rfl)
  have h0 := hp.res 0
  rcases h0 with h0 | h0
  · exact absurd h0 hbad
  obtain ⟨m, e1, h2, h3⟩ := h0
  have hB : Below w.heap.size w w' := ⟨hp.os, hp.tape, hp.output, hp.size, fun b hb => hp.keep b hb rfl⟩
  rcases h3 with ⟨h3, h30⟩ | ⟨g, o, c, us, cs, e, h4, h5, h6, h7, h8, h9, _, h11⟩
  · have h3' : u = .slice none 0 0 := h3
    subst h3'
    exact ⟨_, _, _, rfl, ⟨m, e1, h2, .inl ⟨rfl, h30⟩⟩, (fun b hb => by cases hb), hB⟩
  · have h4' : u = .slice (some ⟨g, o, none⟩) m.length c := h4
    subst h4'
    exact ⟨_, _, _, rfl, ⟨m, e1, h2, .inr ⟨g, o, c, us, cs, e, rfl, h5, h6, h7, RepL_mono (fun b hb => hb.elim) (fun b hb => hb.elim) _ _ h8, h9, rfl⟩⟩, fun b hb => by
      have hb' : g = b := Option.some.inj hb
      subst hb'
      exact ⟨h11, (Array.getElem?_eq_some_iff.1 h6).1⟩, hB⟩
set_option maxRecDepth 100000 in
theorem call_toBoxS (l : List Bx) (h : l.length ≤ 1048576) {w : World} {F : Nat → Prop} {y : Value} (hr : RepV w F (bxs l) y) (hF : ∀ b, F b → b < w.heap.size) :
    Calls Try.prog 32 #[y] w fun e w' => ∃ A n c, e = .returned (.slice A n c) ∧ OwnV w' (fun _ => False) (ownB (.slice A n c)) 4 (bxs l) (.slice A n c) ∧ (∀ b, ownB (.slice A n c) b → w.heap.size ≤ b ∧ b < w'.heap.size) ∧ Below w.heap.size w w' :=
  calls_to (Go.Proofs.enters_of Try.func32 (by kernel_rfl) rfl) M_laws_toBoxS (e_laws_toBoxS l h) (by simp) hr hF
set_option maxHeartbeats 4000000 in
set_option maxRecDepth 1000000 in
theorem toShop_walk (s : Sp) (hs : okSp s) (v0 : Value) (w : World) (F : Nat → Prop) (hr : RepV w F (sp s) v0) (hF : ∀ b, F b → b < w.heap.size) :
    Calls Try.prog 9 #[v0] w fun e w' => ∃ v Vb g cap ys, e = .returned v ∧ ShopAt w' w.heap.size v Vb (.slice (some ⟨g, 0, none⟩) s.2.1.length cap) ys s ∧ Below w.heap.size w w' := by
  obtain ⟨A, n, c, A', n', c', rfl, hb, hf⟩ := shop_parts hr
  go_enter Try.func9, Try.ntmps9
  have hb3 : ∀ a b c, Below w.heap.size w (((w.alloc a).alloc b).alloc c) := fun a b c => (((Below.refl _ w).alloc (Nat.le_refl _) _).alloc (by simp) _).alloc (by simp; omega) _
  have hc1 := fun (a b c : Obj) => call_toBoxS s.1 hs.1.1 (w := ((w.alloc a).alloc b).alloc c) (F := F) (RepV_mono (fun _ h => h) (fun i hi => (hb3 a b c).block i (hF i hi)) hb) (fun i hi => Nat.lt_of_lt_of_le (hF i hi) (hb3 a b c).size)
  go_wp2_with (go_at_call 32; refine (hc1 _ _ _).mono ?_)
  rintro e w4 ⟨bA, bn, bc, rfl, hv, hvb, b4⟩
  have H1 : w4.heap[w.heap.size]? = some (.cells #[.slice A n c, .slice A' n' c', .int .i64 s.2.2.1, .int .i64 s.2.2.2] 25 (0, 0)) := (b4.block _ (by simp; omega)).trans (past_alloc _ (past_alloc _ (at_alloc _ rfl)))
  have H2 : w4.heap[w.heap.size + 1]? = some (.cells #[.slice none 0 0, .slice none 0 0, .int .i64 0, .int .i64 0] 33 (0, 0)) := (b4.block _ (by simp)).trans (past_alloc _ (at_alloc _ (by simp)))
  have H3 : w4.heap[w.heap.size + 1 + 1]? = some (.cells #[.slice none 0 0, .slice none 0 0, .int .i64 0, .int .i64 0] 33 (0, 0)) := (b4.block _ (by simp)).trans (at_alloc _ (by simp))
  have hB4 : Below w.heap.size w w4 := (hb3 _ _ _).trans (b4.mono (hb3 _ _ _).size)
  have hvb4 : ∀ b, ownB (.slice bA bn bc) b → w.heap.size + 1 + 1 < b ∧ b < w4.heap.size := fun b hb => by
    have := hvb b hb
    simp at this
    omega
  have hlt4 : w.heap.size + 1 + 1 < w4.heap.size := by
    have := b4.size
    simp at this
    omega
  clear hc1 hvb b4 hb3
  have f30 := Lib.frozen_of_heap H3 0
  have c30 := Lib.cell_of_heap H3 0
  have H3' := heap_setCell_same _ _ 0 _ _ (.slice bA bn bc) H3
  have H1' : (w4.setCell ⟨w.heap.size + 1 + 1, 0, none⟩ (.slice bA bn bc)).heap[w.heap.size]? = some (.cells #[.slice A n c, .slice A' n' c', .int .i64 s.2.2.1, .int .i64 s.2.2.2] 25 (0, 0)) := (heap_setCell_other _ _ _ _ (by simp; omega)).trans H1
  have H2' : (w4.setCell ⟨w.heap.size + 1 + 1, 0, none⟩ (.slice bA bn bc)).heap[w.heap.size + 1]? = some (.cells #[.slice none 0 0, .slice none 0 0, .int .i64 0, .int .i64 0] 33 (0, 0)) := (heap_setCell_other _ _ _ _ (by simp)).trans H2
  have c11 := Lib.cell_of_heap H1' 1
  simp only [List.getElem?_toArray, List.getElem?_cons_zero, List.getElem?_cons_succ] at c30 c11
  have hB4' : Below w.heap.size w (w4.setCell ⟨w.heap.size + 1 + 1, 0, none⟩ (.slice bA bn bc)) := hB4.setCell (by simp; omega) _
  have hc2 := toFormeS_walk s.2.1 hs.2.1 hs.2.2 (.slice A' n' c') (w4.setCell ⟨w.heap.size + 1 + 1, 0, none⟩ (.slice bA bn bc)) F (RepV_mono (fun _ h => h) (fun i hi => hB4'.block i (hF i hi)) hf) (fun i hi => Nat.lt_of_lt_of_le (hF i hi) hB4'.size)
  go_wp2_with (go_at_call 33; refine hc2.mono ?_)
  rintro e w5 ⟨g, cap, ys, rfl, hF5, b5⟩
  have hv5 := own_keep (w' := w5) hv fun b hb => by
    have h1 := hvb4 b hb
    rw [b5.block b (by simp [World.setCell]; omega), heap_setCell_other _ _ _ _ (by simp; omega)]
  have hsz : (w4.setCell ⟨w.heap.size + 1 + 1, 0, none⟩ (.slice bA bn bc)).heap.size = w4.heap.size := by simp [World.setCell]
  rw [hsz] at hF5 b5
  have hB5 : Below w.heap.size w w5 := hB4'.trans (b5.mono (by omega))
  have K1 := (b5.block _ (by omega)).trans H1'
  have K2 := (b5.block _ (by omega)).trans H2'
  have K3 := (b5.block _ (by omega)).trans H3'
  have hF5lt := hF5.lt
  have hs5 := b5.size
  rw [hsz] at hs5
  clear hc2 H1 H2 H3 H1' H2' H3' hB4 hB4' hv f30 c30 c11 b5 hsz
  simp only [List.setIfInBounds_toArray, List.set_cons_zero] at K3
  have c12 := Lib.cell_of_heap K1 2
  have c13 := Lib.cell_of_heap K1 3
  have c31 := Lib.cell_of_heap K3 1
  have c32 := Lib.cell_of_heap K3 2
  have c33 := Lib.cell_of_heap K3 3
  have f31 := Lib.frozen_of_heap K3 1
  have f32 := Lib.frozen_of_heap K3 2
  have f33 := Lib.frozen_of_heap K3 3
  simp only [List.getElem?_toArray, List.getElem?_cons_zero, List.getElem?_cons_succ] at c12 c13 c31 c32 c33
  have H7 : (((w5.setCell ⟨w.heap.size + 1 + 1, 1, none⟩ (.slice (some ⟨g, 0, none⟩) s.2.1.length cap)).setCell ⟨w.heap.size + 1 + 1, 2, none⟩ (.int .i64 s.2.2.1)).setCell ⟨w.heap.size + 1 + 1, 3, none⟩ (.int .i64 s.2.2.2)).heap[w.heap.size + 1 + 1]? = some (.cells #[.slice bA bn bc, .slice (some ⟨g, 0, none⟩) s.2.1.length cap, .int .i64 s.2.2.1, .int .i64 s.2.2.2] 33 (0, 0)) := by
    rw [heap_setCell_same _ _ _ _ _ _ (heap_setCell_same _ _ _ _ _ _ (heap_setCell_same _ _ _ _ _ _ K3))]
    rfl
  have H72 : (((w5.setCell ⟨w.heap.size + 1 + 1, 1, none⟩ (.slice (some ⟨g, 0, none⟩) s.2.1.length cap)).setCell ⟨w.heap.size + 1 + 1, 2, none⟩ (.int .i64 s.2.2.1)).setCell ⟨w.heap.size + 1 + 1, 3, none⟩ (.int .i64 s.2.2.2)).heap[w.heap.size + 1]? = some (.cells #[.slice none 0 0, .slice none 0 0, .int .i64 0, .int .i64 0] 33 (0, 0)) := by
    rw [heap_setCell_other _ _ _ _ (by simp), heap_setCell_other _ _ _ _ (by simp), heap_setCell_other _ _ _ _ (by simp), K2]
  have B7 : Below w.heap.size w (((w5.setCell ⟨w.heap.size + 1 + 1, 1, none⟩ (.slice (some ⟨g, 0, none⟩) s.2.1.length cap)).setCell ⟨w.heap.size + 1 + 1, 2, none⟩ (.int .i64 s.2.2.1)).setCell ⟨w.heap.size + 1 + 1, 3, none⟩ (.int .i64 s.2.2.2)) :=
    ((hB5.setCell (by simp; omega) _).setCell (by simp; omega) _).setCell (by simp; omega) _
  have S5 : ShopAt w5 w.heap.size (.agg #[.slice bA bn bc, .slice (some ⟨g, 0, none⟩) s.2.1.length cap, .int .i64 s.2.2.1, .int .i64 s.2.2.2]) (.slice bA bn bc) (.slice (some ⟨g, 0, none⟩) s.2.1.length cap) ys s :=
    ⟨rfl, hv5, fun b hb => by have := (hvb4 b hb).1; omega, hF5.base (by omega), fun b hb h => by
      have h1 := (hvb4 b hb).2
      have h2 := (hF5lt b h).1
      omega⟩
  have L5 : ∀ b, ShS (.slice bA bn bc) (.slice (some ⟨g, 0, none⟩) s.2.1.length cap) ys b → w.heap.size + 1 + 1 < b := fun b hb => by
    rcases hb with hb | hb
    · exact (hvb4 b hb).1
    · have := (hF5lt b hb).1
      omega
  have S7 : ShopAt (((w5.setCell ⟨w.heap.size + 1 + 1, 1, none⟩ (.slice (some ⟨g, 0, none⟩) s.2.1.length cap)).setCell ⟨w.heap.size + 1 + 1, 2, none⟩ (.int .i64 s.2.2.1)).setCell ⟨w.heap.size + 1 + 1, 3, none⟩ (.int .i64 s.2.2.2)) w.heap.size (.agg #[.slice bA bn bc, .slice (some ⟨g, 0, none⟩) s.2.1.length cap, .int .i64 s.2.2.1, .int .i64 s.2.2.2]) (.slice bA bn bc) (.slice (some ⟨g, 0, none⟩) s.2.1.length cap) ys s := S5.keep fun b hb => by
    have := L5 b hb
    rw [heap_setCell_other _ _ _ _ (by simp; omega), heap_setCell_other _ _ _ _ (by simp; omega), heap_setCell_other _ _ _ _ (by simp; omega)]
  have d0 := Lib.cell_of_heap H7 0
  have d1 := Lib.cell_of_heap H7 1
  have d2 := Lib.cell_of_heap H7 2
  have d3 := Lib.cell_of_heap H7 3
  have e0 := Lib.cell_of_heap H72 0
  have e1 := Lib.cell_of_heap H72 1
  have e2 := Lib.cell_of_heap H72 2
  have e3 := Lib.cell_of_heap H72 3
  have g0 := Lib.frozen_of_heap H72 0
  have g1 := Lib.frozen_of_heap H72 1
  have g2 := Lib.frozen_of_heap H72 2
  have g3 := Lib.frozen_of_heap H72 3
  simp only [List.getElem?_toArray, List.getElem?_cons_zero, List.getElem?_cons_succ] at d0 d1 d2 d3 e0 e1 e2 e3
  clear hF5lt hv5 hvb4 hF5
  go_wp2
  generalize ((w5.setCell ⟨w.heap.size + 1 + 1, 1, none⟩ (.slice (some ⟨g, 0, none⟩) s.2.1.length cap)).setCell ⟨w.heap.size + 1 + 1, 2, none⟩ (.int .i64 s.2.2.1)).setCell ⟨w.heap.size + 1 + 1, 3, none⟩ (.int .i64 s.2.2.2) = W7 at *
  have H11 : ((((W7.setCell ⟨w.heap.size + 1, 0, none⟩ (.slice bA bn bc)).setCell ⟨w.heap.size + 1, 1, none⟩ (.slice (some ⟨g, 0, none⟩) s.2.1.length cap)).setCell ⟨w.heap.size + 1, 2, none⟩ (.int .i64 s.2.2.1)).setCell ⟨w.heap.size + 1, 3, none⟩ (.int .i64 s.2.2.2)).heap[w.heap.size + 1]? = some (.cells #[.slice bA bn bc, .slice (some ⟨g, 0, none⟩) s.2.1.length cap, .int .i64 s.2.2.1, .int .i64 s.2.2.2] 33 (0, 0)) := by
    rw [heap_setCell_same _ _ _ _ _ _ (heap_setCell_same _ _ _ _ _ _ (heap_setCell_same _ _ _ _ _ _ (heap_setCell_same _ _ _ _ _ _ H72)))]
    rfl
  have d0 := Lib.cell_of_heap H11 0
  have d1 := Lib.cell_of_heap H11 1
  have d2 := Lib.cell_of_heap H11 2
  have d3 := Lib.cell_of_heap H11 3
  simp only [List.getElem?_toArray, List.getElem?_cons_zero, List.getElem?_cons_succ] at d0 d1 d2 d3
  refine bodyPost_ret (by simp [results, Try.results9, go_sem, d0, d1, d2, d3]; try rfl) rfl ?_
  refine ⟨_, _, g, cap, ys, rfl, S7.keep fun b hb => ?_, (((B7.setCell (by simp) _).setCell (by simp) _).setCell (by simp) _).setCell (by simp) _⟩
  have := L5 b hb
  rw [heap_setCell_other _ _ _ _ (by simp; omega), heap_setCell_other _ _ _ _ (by simp; omega), heap_setCell_other _ _ _ _ (by simp; omega), heap_setCell_other _ _ _ _ (by simp; omega)]
end Go.Proofs.Ytankikbbdfgkbaa
/-
  Sizes of shops, numbers marked and held; laws.markShop, walked by hand.
-/
namespace Go.Proofs.Ytankikbbdfgkbaa
open Go Go.Proofs Go.V Go.RowKit
set_option linter.unusedSimpArgs false
set_option linter.unusedVariables false

theorem e_laws_eqIntS (l : List Int) (h : l.length ≤ 1048577) : F_laws_eqIntS [ints l, ints l] = some (.ret [B true] []) := by
  rw [t_laws_eqIntS]
  simp only [lenD_arr, List.length_map, Option.bind_some, bin_neq, decide_true, Bool.not_true, ifD_B, Bool.false_eq_true, if_false]
  refine loop_bind _ (loop_for l.length (fun i => [ints l, ints l, I i]) (.ext 0 []) (fun i hi => ?_) ?_ rfl rfl) ?_
  · have hw : IntKind.i64.wrap ((i : Int) + 1) = (i : Int) + 1 := wrap_id (by omega) (by omega)
    simp -implicitDefEqProofs [hi, hw]
  · simp
  · simp
def marksI (k : Int) (n : Nat) : List Int := (List.range n).map fun (j : Nat) => k + (j : Int)
theorem e_laws_markIntS (l : List Int) (k : Int) (h : l.length ≤ 1048577) (h1 : 0 ≤ k) (h2 : k ≤ 100000000) : F_laws_markIntS [ints l, I k] = some (.ret [I (k + l.length)] [ints (marksI k l.length)]) := by
  rw [t_laws_markIntS]
  refine loop_bind _ (loop_for l.length (fun i => [.arr 1 (markL (fun (j : Nat) => I (k + (j : Int))) (fun n => I n) l i), I (k + i), I i]) (.ext 0 [ints (marksI k l.length), I (k + l.length)]) (fun i hi => ?_) ?_ rfl ?_) ?_
  · have hw : IntKind.i64.wrap ((i : Int) + 1) = (i : Int) + 1 := wrap_id (by omega) (by omega)
    have w1 : IntKind.i64.wrap (k + (i : Int) + 1) = k + (i + 1) := by rw [wrap_id (by omega) (by omega)]; omega
    have hg := markL_get (g := fun (j : Nat) => I (k + (j : Int))) (f := fun n => I n) hi
    have hs := markL_set (g := fun (j : Nat) => I (k + (j : Int))) (f := fun n => I n) hi
    have hl := markL_length (g := fun (j : Nat) => I (k + (j : Int))) (f := fun n => I n) (Nat.le_of_lt hi)
    generalize markL (fun (j : Nat) => I (k + (j : Int))) (fun n => I n) l i = L at *
    have s1 := stD_arr1 (z := 1) (v := .int .i64 (k + i)) hg
    simp [hi, hl, hw, w1, s1]
    exact hs
  · simp [markL_full, marksI]
  · simp [markL_zero (g := fun (j : Nat) => I (k + (j : Int))) (f := fun n => I n)]
  · simp
theorem e_laws_heldIntS (k : Int) (n : Nat) (h : n ≤ 1048577) (h1 : 0 ≤ k) (h2 : k ≤ 100000000) : F_laws_heldIntS [ints (marksI k n), I k] = some (.ret [I (k + n)] []) := by
  rw [t_laws_heldIntS]
  refine loop_bind _ (loop_for n (fun i => [ints (marksI k n), I (k + i), I i]) (.ext 0 [I (k + n)]) (fun i hi => ?_) ?_ rfl ?_) ?_
  · have hw : IntKind.i64.wrap ((i : Int) + 1) = (i : Int) + 1 := wrap_id (by omega) (by omega)
    have w1 : IntKind.i64.wrap (k + (i : Int) + 1) = k + (i + 1) := by rw [wrap_id (by omega) (by omega)]; omega
    simp [marksI, hi, hw, w1]
  · simp [marksI]
  · simp
  · simp
theorem alloc_lt {w : World} (o : Obj) {b : Nat} (h : b < w.heap.size) : (w.alloc o).heap[b]? = w.heap[b]? := (World.grownBy_alloc w o none).block b h (by simp)
def lens : List Fm → Int
  | [] => 0
  | x :: l => x.2.1.length + lens l
theorem lens_nn : ∀ l, 0 ≤ lens l
  | [] => Int.le_refl _
  | x :: l => by have := lens_nn l; simp only [lens]; omega
theorem totF_lens : ∀ l : List Fm, totF l = 3 * l.length + lens l
  | [] => rfl
  | x :: l => by have := totF_lens l; simp only [totF, lens, List.length_cons]; omega
theorem sz_loopT {body : List D → Option Out} {K : Out → Option Out} {R : Option Out → Prop} (l : List Fm) (st : Nat → Int → List D)
    (hs : ∀ (i : Nat) (hi : i < l.length) (m : Int), 0 ≤ m → m ≤ 1048576 → body (st i m) = some (.ret [I (-1)] []) ∨ ∃ m', body (st i m) = some (.nrm (st (i + 1) m')) ∧ 0 ≤ m' ∧ m' + l[i].2.1.length ≤ m)
    (he : ∀ m, body (st l.length m) = some (.ext 0 [I m])) (m0 : Int) (h0 : 0 ≤ m0) (h1 : m0 ≤ 1048576) {s0 : List D} (h : s0 = st 0 m0)
    (hk1 : R (K (.ret [I (-1)] []))) (hk2 : ∀ m, 0 ≤ m → m + lens l ≤ m0 → R (K (.ext 0 [I m]))) : R ((loopC body s0).bind K) := by
  have key : ∀ (n i : Nat) (m : Int), i + n = l.length → 0 ≤ m → m ≤ m0 → ∃ o, Runs body (st i m) o ∧ (o = .ret [I (-1)] [] ∨ ∃ m', o = .ext 0 [I m'] ∧ 0 ≤ m' ∧ m' + lens (l.drop i) ≤ m) := by
    intro n
    induction n with
    | zero =>
      intro i m hi g0 g1
      have : i = l.length := by omega
      subst this
      exact ⟨_, Runs.one (he m) rfl, .inr ⟨m, rfl, g0, by simp [lens]⟩⟩
    | succ n ih =>
      intro i m hi g0 g1
      have hlt : i < l.length := by omega
      rcases hs i hlt m g0 (by omega) with e | ⟨m', e, k0, k1⟩
      · exact ⟨_, Runs.one e rfl, .inl rfl⟩
      · obtain ⟨o, r1, r2⟩ := ih (i + 1) m' (by omega) k0 (by omega)
        refine ⟨o, .nrm e r1, r2.imp_right ?_⟩
        rintro ⟨m2, rfl, q0, q1⟩
        refine ⟨m2, rfl, q0, ?_⟩
        rw [List.drop_eq_getElem_cons hlt, lens]
        omega
  obtain ⟨o, r1, r2⟩ := key l.length 0 m0 (by omega) h0 (Int.le_refl _)
  rw [h, r1.loop]
  rcases r2 with rfl | ⟨m, rfl, g0, g1⟩
  · exact hk1
  · exact hk2 m g0 g1
theorem sz_StringS (l : List ByteArray) (n : Int) (h : l.length ≤ 9223372036854775807 ∧ ∀ x ∈ l, x.size ≤ 9223372036854775807) (h0 : 0 ≤ n) (h1 : n ≤ 1048576) : ∃ m, F_laws_szStringS [txs l, I n] = some (.ret [I m] []) ∧ m ≤ n ∧ (0 ≤ m → m + l.length ≤ n) := by
  have hl := h.1
  rw [t_laws_szStringS]
  have hw : IntKind.i64.wrap (n - l.length) = n - l.length := wrap_id (by omega) (by omega)
  by_cases hn : n - (l.length : Int) < 0
  · exact ⟨-1, by simp -implicitDefEqProofs [hw, hn], by omega, by omega⟩
  simp -implicitDefEqProofs [hw, hn]
  refine sz_loop (R := fun X => ∃ m, X = some (.ret [I m] []) ∧ m ≤ n ∧ (0 ≤ m → m + l.length ≤ n)) l (fun i m => [txs l, I m, I i]) (fun _ => True) (fun i hi m g0 g1 => ?_) (fun m => ?_) (n - l.length) (by omega) (by omega) rfl ?_ (fun m g0 g1 gP => ?_)
  · have hwi : IntKind.i64.wrap ((i : Int) + 1) = (i : Int) + 1 := wrap_id (by omega) (by omega)
    have hs := h.2 l[i] (List.getElem_mem hi)
    have hwm : IntKind.i64.wrap (m - l[i].size) = m - l[i].size := wrap_id (by omega) (by omega)
    by_cases hm : m - (l[i].size : Int) < 0
    · exact .inl (by simp -implicitDefEqProofs [hi, hwm, hm])
    · exact .inr ⟨m - l[i].size, by simp -implicitDefEqProofs [hi, hwm, hm, hwi], by omega, by omega, trivial⟩
  · simp -implicitDefEqProofs
  · exact ⟨-1, by simp -implicitDefEqProofs, by omega, by omega⟩
  · exact ⟨m, by simp -implicitDefEqProofs, by omega, fun _ => by omega⟩
theorem sz_Forme (x : Fm) (n : Int) (h : x.2.1.length ≤ 9223372036854775807 ∧ ∀ c ∈ x.2.1, c.size ≤ 9223372036854775807) (h0 : 0 ≤ n) (h1 : n ≤ 1048576) : ∃ m, F_laws_szForme [fm x, I n] = some (.ret [I m] []) ∧ m ≤ n ∧ (0 ≤ m → m + x.2.1.length ≤ n) := by
  rw [t_laws_szForme]
  obtain ⟨m, e, k1, k2⟩ := sz_StringS x.2.1 n h h0 h1
  by_cases hm : m < 0
  · exact ⟨-1, by simp -implicitDefEqProofs [e, hm], by omega, by omega⟩
  · exact ⟨m, by simp -implicitDefEqProofs [e, hm], k1, k2⟩
theorem sz_FormeS (l : List Fm) (n : Int) (h : l.length ≤ 9223372036854775807 ∧ ∀ x ∈ l, x.2.1.length ≤ 9223372036854775807 ∧ ∀ c ∈ x.2.1, c.size ≤ 9223372036854775807) (h0 : 0 ≤ n) (h1 : n ≤ 1048576) : ∃ m, F_laws_szFormeS [fms l, I n] = some (.ret [I m] []) ∧ m ≤ n ∧ (0 ≤ m → m + l.length + lens l ≤ n) := by
  have hl := h.1
  rw [t_laws_szFormeS]
  have hw : IntKind.i64.wrap (n - l.length) = n - l.length := wrap_id (by omega) (by omega)
  by_cases hn : n - (l.length : Int) < 0
  · exact ⟨-1, by simp -implicitDefEqProofs [hw, hn], by omega, by omega⟩
  simp -implicitDefEqProofs [hw, hn]
  refine sz_loopT (R := fun X => ∃ m, X = some (.ret [I m] []) ∧ m ≤ n ∧ (0 ≤ m → m + l.length + lens l ≤ n)) l (fun i m => [fms l, I m, I i]) (fun i hi m g0 g1 => ?_) (fun m => ?_) (n - l.length) (by omega) (by omega) rfl ?_ (fun m g0 g1 => ?_)
  · have hwi : IntKind.i64.wrap ((i : Int) + 1) = (i : Int) + 1 := wrap_id (by omega) (by omega)
    obtain ⟨m', e, k1, k2⟩ := sz_Forme l[i] m (h.2 _ (List.getElem_mem hi)) g0 g1
    by_cases hm : m' < 0
    · exact .inl (by simp -implicitDefEqProofs [hi, e, hm])
    · exact .inr ⟨m', by simp -implicitDefEqProofs [hi, e, hm, hwi], by omega, k2 (by omega)⟩
  · simp -implicitDefEqProofs
  · exact ⟨-1, by simp -implicitDefEqProofs, by omega, by omega⟩
  · have := lens_nn l
    exact ⟨m, by simp -implicitDefEqProofs, by omega, fun _ => by omega⟩
theorem sz_Shop (s : Sp) (h : inSp s) : ∃ m, F_laws_szShop [sp s, I 1048576] = some (.ret [I m] []) ∧ m ≤ 1048576 ∧ (0 ≤ m → okSp s ∧ totF s.2.1 ≤ 3145728) := by
  obtain ⟨m0, e0, k0, k0'⟩ := e_laws_szShop s h
  refine ⟨m0, e0, k0, fun hm0 => ⟨k0' hm0, ?_⟩⟩
  rw [t_laws_szShop] at e0
  obtain ⟨m1, e1, k1, k2⟩ := e_laws_szBoxS s.1 1048576 h.1 (by omega) (by omega)
  by_cases h1 : m1 < 0
  · simp -implicitDefEqProofs [e1, h1] at e0
    omega
  obtain ⟨m2, e2, g1, g2⟩ := sz_FormeS s.2.1 m1 h.2 (by omega) k1
  by_cases h2 : m2 < 0
  · simp -implicitDefEqProofs [e1, h1, e2, h2] at e0
    omega
  · have := g2 (by omega)
    rw [totF_lens]
    have := lens_nn s.2.1
    omega
/-- The shop with its memory marked. -/
noncomputable def mkS (k : Int) (s : Sp) : Sp := (mksB k s.1.length, mkF (k + 4 * s.1.length) s.2.1, s.2.2.1, s.2.2.2)
set_option maxHeartbeats 4000000 in
set_option maxRecDepth 1000000 in
theorem markShop_walk (s : Sp) (k : Int) (hs : okSp s) (hk : 0 < k) (hK : k + 4 * s.1.length + totF s.2.1 ≤ 1000000000) (w : World) (B g cap : Nat) (v Vb : Value) (ys : List Value) (h : ShopAt w B v Vb (.slice (some ⟨g, 0, none⟩) s.2.1.length cap) ys s) :
    Calls Try.prog 13 #[v, .int .i64 k] w fun e w' => e = .returned (.int .i64 (k + 4 * s.1.length + totF s.2.1)) ∧ ShopAt w' B v Vb (.slice (some ⟨g, 0, none⟩) s.2.1.length cap) ys (mkS k s) ∧ KeptX (ShS Vb (.slice (some ⟨g, 0, none⟩) s.2.1.length cap) ys) w w' := by
  have ht := totF_nn s.2.1
  have hlt := h.lt
  obtain ⟨rfl, hb, hge, hf, hd⟩ := h
  obtain ⟨bA, bn, bc, rfl⟩ := own_slice hb
  go_enter Try.func13, Try.ntmps13
  have hc1 := fun (a : Obj) => call_markBoxS s.1 k (by have := hs.1.1; omega) hk (by omega) (w := w.alloc a) (y := .slice bA bn bc) (own_keep hb fun b h1 => alloc_lt _ (own_lt hb b h1)) (fun b h1 => by have := own_lt hb b h1; simp; omega)
  go_wp2_with (go_at_call 37; refine (hc1 _).mono ?_)
  rintro e w2 ⟨rfl, hb2, hx2⟩
  have H1 : w2.heap[w.heap.size]? = some (.cells #[.slice bA bn bc, .slice (some ⟨g, 0, none⟩) s.2.1.length cap, .int .i64 s.2.2.1, .int .i64 s.2.2.2] 33 (0, 0)) := (hx2.block _ (by simp) fun h1 => by have := own_lt hb _ h1; omega).trans (at_alloc _ rfl)
  have c1 := Lib.cell_of_heap H1 1
  simp only [List.getElem?_toArray, List.getElem?_cons_zero, List.getElem?_cons_succ] at c1
  have hX2 : KeptX (ownB (.slice bA bn bc)) w w2 := by
    refine ⟨hx2.os, hx2.tape, hx2.output, Nat.le_trans (by simp) hx2.size, fun b h1 h2 => (hx2.block b (by simp; omega) h2).trans (alloc_lt _ h1)⟩
  have hf2 := hf.keep (w' := w2) fun b hb1 => hX2.block b (hlt b (.inr hb1)).2 fun h1 => hd b h1 hb1
  have hc2 := markF_walk s.2.1 (k + 4 * s.1.length) (by omega) (by omega) hs.2.1 hs.2.2 w2 B g cap ys hf2
  go_wp2_with (go_at_call 38; refine hc2.mono ?_)
  rintro e w3 ⟨rfl, hf3, hx3⟩
  go_wp2
  go_ret
  refine ⟨rfl, ⟨rfl, own_keep hb2 fun b h1 => hx3.block b (own_lt hb2 b h1) (hd b h1), hge, hf3, hd⟩, (hX2.mono fun b h1 => .inl h1).trans (hx3.mono fun b h1 => .inr h1)⟩
end Go.Proofs.Ytankikbbdfgkbaa
/-
  Calls of what the law of LockedFormes calls.
-/
namespace Go.Proofs.Ytankikbbdfgkbaa
open Go Go.Proofs Go.V Go.RowKit
set_option linter.unusedSimpArgs false
set_option linter.unusedVariables false

theorem len_two {vs : List Value} (h : vs.length = 2) : ∃ a b, vs = [a, b] := match vs, h with
  | [a, b], _ => ⟨a, b, rfl⟩
theorem calls_two {f : Nat} {z : Nat} {ff : List D → Option Out} {a d : D} {b : Value} (he : ∀ args w, (callFunc f args).run Try.prog w = .ok (.enter f args) w) (hm : Meets gl0 Try.prog f { pm := [.dat 2], rm := [.own z 0 false, .dat 0], f := ff }) (hd : ff [a] = some (.ret [d, .v b] [])) (hbad : d ≠ .bad) {w : World} {F : Nat → Prop} {y : Value} (hr : RepV w F a y) (hF : ∀ b, F b → b < w.heap.size) :
    Calls Try.prog f #[y] w fun e w' => ∃ A n c, e = .returned (.tuple #[.slice A n c, b]) ∧ OwnV w' (fun _ => False) (ownB (.slice A n c)) z d (.slice A n c) ∧ (∀ b, ownB (.slice A n c) b → w.heap.size ≤ b ∧ b < w'.heap.size) ∧ Below w.heap.size w w' := by
  refine (calls_of_meets' (ow := fun _ => none) (F := F) (ds := [a]) (rs := [d, .v b]) (us := []) (args := #[y]) he hm hd gOk_nil
    (show ArgOk w _ _ (.dat 2) a y ∧ True from ⟨.inr hr, trivial⟩) (fun b hb => ⟨hF b hb, rfl⟩) (fun b i h => by cases h)).mono ?_
  rintro e w' ⟨v, rfl, F', R, vs, rfl, hp⟩
  have hl := hp.len
  obtain ⟨u, u2, rfl⟩ := len_two (hl.trans rfl)
  have h0 := hp.res 0
  have h1 := hp.res 1
  rcases h0 with h0 | h0
  · exact absurd h0 hbad
  rcases h1 with h1 | h1
  · cases h1
  obtain ⟨hu2, _⟩ := RepV_v.1 h1
  have hu2' : u2 = b := hu2
  subst hu2'
  obtain ⟨m, e1, h2, h3⟩ := h0
  have hB : Below w.heap.size w w' := ⟨hp.os, hp.tape, hp.output, hp.size, fun b hb => hp.keep b hb rfl⟩
  rcases h3 with ⟨h3, h30⟩ | ⟨g, o, c, us, cs, e, h4, h5, h6, h7, h8, h9, _, h11⟩
  · have h3' : u = .slice none 0 0 := h3
    subst h3'
    exact ⟨_, _, _, rfl, ⟨m, e1, h2, .inl ⟨rfl, h30⟩⟩, (fun b hb => by cases hb), hB⟩
  · have h4' : u = .slice (some ⟨g, o, none⟩) m.length c := h4
    subst h4'
    refine ⟨_, _, _, rfl, ⟨m, e1, h2, .inr ⟨g, o, c, us, cs, e, rfl, h5, h6, h7, RepL_mono (fun b hb => hb.elim) (fun b hb => hb.elim) _ _ h8, h9, rfl⟩⟩, fun b hb => ?_, hB⟩
    have hb' : g = b := Option.some.inj hb
    subst hb'
    exact ⟨h11, (Array.getElem?_eq_some_iff.1 h6).1⟩
set_option maxRecDepth 100000 in
theorem call_spec_LockedFormes (s : Sp) (h : okSp s) {w : World} {F : Nat → Prop} {y : Value} (hr : RepV w F (sp s) y) (hF : ∀ b, F b → b < w.heap.size) :
    Calls Try.prog 8 #[y] w fun e w' => ∃ A n c, e = .returned (.tuple #[.slice A n c, .bool (shopOk s)]) ∧ OwnV w' (fun _ => False) (ownB (.slice A n c)) 1 (ints (lckR s)) (.slice A n c) ∧ (∀ b, ownB (.slice A n c) b → w.heap.size ≤ b ∧ b < w'.heap.size) ∧ Below w.heap.size w w' :=
  calls_two (Go.Proofs.enters_of Try.func8 (by kernel_rfl) rfl) M_spec_LockedFormes (e_spec_LockedFormes s h) (by simp) hr hF
set_option maxRecDepth 100000 in
theorem call_impl_LockedFormes (s : Sp) (h : okSp s) {w : World} {F : Nat → Prop} {y : Value} (hr : RepV w F (sp s) y) (hF : ∀ b, F b → b < w.heap.size) :
    Calls Try.prog 10 #[y] w fun e w' => ∃ A n c, e = .returned (.tuple #[.slice A n c, .bool (shopOk s)]) ∧ OwnV w' (fun _ => False) (ownB (.slice A n c)) 1 (ints (lckR s)) (.slice A n c) ∧ (∀ b, ownB (.slice A n c) b → w.heap.size ≤ b ∧ b < w'.heap.size) ∧ Below w.heap.size w w' :=
  calls_two (Go.Proofs.enters_of Try.func10 (by kernel_rfl) rfl) M_impl_LockedFormes (e_impl_LockedFormes s h) (by simp) hr hF
theorem calls_dat2 {f : Nat} {ff : List D → Option Out} {a a' : D} {b : Value} (he : ∀ args w, (callFunc f args).run Try.prog w = .ok (.enter f args) w) (hm : Meets gl0 Try.prog f { pm := [.dat 2, .dat 2], rm := [.dat 0], f := ff }) (hd : ff [a, a'] = some (.ret [.v b] [])) {w : World} {F F' : Nat → Prop} {y y' : Value} (hr : RepV w F a y) (hF : ∀ b, F b → b < w.heap.size) (hr' : RepV w F' a' y') (hF' : ∀ b, F' b → b < w.heap.size) :
    Calls Try.prog f #[y, y'] w fun e w' => e = .returned b ∧ Below w.heap.size w w' :=
  calls_flat1 he hm ff rfl hd rfl gOk_nil
    (show ArgOk w (fun b => F b ∨ F' b) _ (.dat 2) a y ∧ ArgOk w _ _ (.dat 2) a' y' ∧ True from ⟨.inr (RepV_mono (fun _ h => .inl h) (fun _ _ => rfl) hr), .inr (RepV_mono (fun _ h => .inr h) (fun _ _ => rfl) hr'), trivial⟩) (fun b hb => hb.elim (hF b) (hF' b))
theorem calls_dat1 {f : Nat} {ff : List D → Option Out} {a : D} {k : Int} {b : Value} (he : ∀ args w, (callFunc f args).run Try.prog w = .ok (.enter f args) w) (hm : Meets gl0 Try.prog f { pm := [.dat 2, .dat 0], rm := [.dat 0], f := ff }) (hd : ff [a, I k] = some (.ret [.v b] [])) {w : World} {F : Nat → Prop} {y : Value} (hr : RepV w F a y) (hF : ∀ b, F b → b < w.heap.size) :
    Calls Try.prog f #[y, .int .i64 k] w fun e w' => e = .returned b ∧ Below w.heap.size w w' :=
  calls_flat1 he hm ff rfl hd rfl gOk_nil
    (show ArgOk w F _ (.dat 2) a y ∧ ArgOk w _ _ (.dat 0) (I k) (.int .i64 k) ∧ True from ⟨.inr hr, .inr (RepV_v.2 ⟨rfl, rfl⟩), trivial⟩) hF
set_option maxRecDepth 100000 in
theorem call_szShop (s : Sp) (m : Int) (hm : F_laws_szShop [sp s, I 1048576] = some (.ret [I m] [])) {w : World} {F : Nat → Prop} {y : Value} (hr : RepV w F (sp s) y) (hF : ∀ b, F b → b < w.heap.size) :
    Calls Try.prog 7 #[y, .int .i64 1048576] w fun e w' => e = .returned (.int .i64 m) ∧ Below w.heap.size w w' :=
  calls_dat1 (Go.Proofs.enters_of Try.func7 (by kernel_rfl) rfl) M_laws_szShop hm hr hF
set_option maxRecDepth 100000 in
theorem call_eqShop (s : Sp) (h : okSp s) {w : World} {F F' : Nat → Prop} {y y' : Value} (hr : RepV w F (sp s) y) (hF : ∀ b, F b → b < w.heap.size) (hr' : RepV w F' (sp s) y') (hF' : ∀ b, F' b → b < w.heap.size) :
    Calls Try.prog 12 #[y, y'] w fun e w' => e = .returned (.bool true) ∧ Below w.heap.size w w' :=
  calls_dat2 (Go.Proofs.enters_of Try.func12 (by kernel_rfl) rfl) M_laws_eqShop (e_laws_eqShop s h) hr hF hr' hF'
set_option maxRecDepth 100000 in
theorem call_eqIntS (l : List Int) (h : l.length ≤ 1048577) {w : World} {F F' : Nat → Prop} {y y' : Value} (hr : RepV w F (ints l) y) (hF : ∀ b, F b → b < w.heap.size) (hr' : RepV w F' (ints l) y') (hF' : ∀ b, F' b → b < w.heap.size) :
    Calls Try.prog 11 #[y, y'] w fun e w' => e = .returned (.bool true) ∧ Below w.heap.size w w' :=
  calls_dat2 (Go.Proofs.enters_of Try.func11 (by kernel_rfl) rfl) M_laws_eqIntS (e_laws_eqIntS l h) hr hF hr' hF'
set_option maxRecDepth 100000 in
theorem call_heldIntS (k : Int) (n : Nat) (h : n ≤ 1048577) (h1 : 0 ≤ k) (h2 : k ≤ 100000000) {w : World} {F : Nat → Prop} {y : Value} (hr : RepV w F (ints (marksI k n)) y) (hF : ∀ b, F b → b < w.heap.size) :
    Calls Try.prog 15 #[y, .int .i64 k] w fun e w' => e = .returned (.int .i64 (k + n)) ∧ Below w.heap.size w w' :=
  calls_dat1 (Go.Proofs.enters_of Try.func15 (by kernel_rfl) rfl) M_laws_heldIntS (e_laws_heldIntS k n h h1 h2) hr hF
set_option maxRecDepth 100000 in
theorem call_markIntS (l : List Int) (k : Int) (h : l.length ≤ 1048577) (h1 : 0 ≤ k) (h2 : k ≤ 100000000) {w : World} {y : Value} (hy : OwnV w (fun _ => False) (ownB y) 1 (ints l) y) (hb : ∀ b, ownB y b → b < w.heap.size) :
    Calls Try.prog 14 #[y, .int .i64 k] w fun e w' => e = .returned (.int .i64 (k + l.length)) ∧ OwnV w' (fun _ => False) (ownB y) 1 (ints (marksI k l.length)) y ∧ KeptX (ownB y) w w' :=
  calls_mark (Go.Proofs.enters_of Try.func14 (by kernel_rfl) rfl) M_laws_markIntS (e_laws_markIntS l k h h1 h2) hy hb
theorem own_rep' {w : World} {z : Nat} {d : D} {y : Value} (h : OwnV w (fun _ => False) (ownB y) z d y) : RepV w (ownB y) d y := own_rep h (fun _ h => h.elim) fun _ h => h
end Go.Proofs.Ytankikbbdfgkbaa
/-
  The law of LockedFormes, walked by hand.
-/
namespace Go.Proofs.Ytankikbbdfgkbaa
open Go Go.Proofs Go.V Go.RowKit
set_option linter.unusedSimpArgs false
set_option linter.unusedVariables false
attribute [local go_sem ↓] Go.wp_at_zero Go.wp_at_succ

theorem OwnV.below {w w' : World} {z : Nat} {d : D} {y : Value} (h : OwnV w (fun _ => False) (ownB y) z d y) (hB : Below w.heap.size w w') : OwnV w' (fun _ => False) (ownB y) z d y := own_keep h fun b hb => hB.block b (own_lt h b hb)
theorem Below.some {w w' : World} {b : Nat} {o : Obj} (hB : Below w.heap.size w w') (h : w.heap[b]? = some o) : w'.heap[b]? = some o := (hB.block b (Array.getElem?_eq_some_iff.1 h).1).trans h
theorem some_lt {w : World} {b : Nat} {o : Obj} (h : w.heap[b]? = some o) : b < w.heap.size := (Array.getElem?_eq_some_iff.1 h).1
theorem below_alloc (w : World) (o : Obj) : Below w.heap.size w (w.alloc o) := (Below.refl _ w).alloc (Nat.le_refl _) _
theorem below_drew (w : World) : Below w.heap.size w w.drew := ⟨rfl, rfl, rfl, Nat.le_refl _, fun _ _ => rfl⟩
theorem bel_on {w w1 w2 : World} {B : Nat} (h : Below B w w1) (k : Below w1.heap.size w1 w2) (hb : B ≤ w1.heap.size) : Below B w w2 := h.trans (k.mono hb)
theorem lckR_len (s : Sp) (h : okSp s) : (lckR s).length ≤ 1048577 := by
  unfold lckR
  have := lck_len s.2.1
  have := h.2.1
  split
  · omega
  · simp
theorem KeptX.some {S : Nat → Prop} {w w' : World} {b : Nat} {o : Obj} (hX : KeptX S w w') (h : w.heap[b]? = some o) (hS : ¬ S b) : w'.heap[b]? = some o := (hX.block b (some_lt h) hS).trans h
theorem OwnV.keptX {S : Nat → Prop} {w w' : World} {z : Nat} {d : D} {y : Value} (h : OwnV w (fun _ => False) (ownB y) z d y) (hX : KeptX S w w') (hS : ∀ b, ownB y b → ¬ S b) : OwnV w' (fun _ => False) (ownB y) z d y := own_keep h fun b hb => hX.block b (own_lt h b hb) (hS b hb)
theorem cells4 {w : World} {b : Nat} {x0 x1 x2 x3 : Value} {t : TypeId} (h : w.heap[b]? = some (.cells #[x0, x1, x2, x3] t (0, 0))) : w.cell? ⟨b, 0, none⟩ = some x0 ∧ w.cell? ⟨b, 1, none⟩ = some x1 ∧ w.cell? ⟨b, 2, none⟩ = some x2 ∧ w.cell? ⟨b, 3, none⟩ = some x3 := by
  refine ⟨?_, ?_, ?_, ?_⟩ <;> rw [Lib.cell_of_heap h] <;> rfl
set_option maxHeartbeats 16000000 in
set_option maxRecDepth 1000000 in
theorem lockLaw_walk (s : Sp) (hs : inSp s) (v0 : Value) (w : World) (F : Nat → Prop) (hr : RepV w F (sp s) v0) (hF : ∀ b, F b → b < w.heap.size) :
    Calls Try.prog 3 #[v0] w fun e w' => e = .returned (.bool true) ∧ Below w.heap.size w w' := by
  obtain ⟨A, n, c, A', n', c', rfl, hb0, hf0⟩ := shop_parts hr
  obtain ⟨m, em, m0, m1⟩ := sz_Shop s hs
  go_enter Try.func3, Try.ntmps3
  have B0 : ∀ o, Below w.heap.size w (w.alloc o) := fun o => below_alloc w o
  have rep : ∀ {W : World}, Below w.heap.size w W → RepV W F (sp s) (.agg #[.slice A n c, .slice A' n' c', .int .i64 s.2.2.1, .int .i64 s.2.2.2]) := fun {W} h => RepV_mono (fun _ h => h) (fun b hb => h.block b (hF b hb)) hr
  have hFW : ∀ {W : World}, Below w.heap.size w W → ∀ b, F b → b < W.heap.size := fun {W} h b hb => Nat.lt_of_lt_of_le (hF b hb) h.size
  have hc1 := fun o => call_szShop s m em (rep (B0 o)) (hFW (B0 o))
  go_wp2_with (go_at_call 7; refine (hc1 _).mono ?_)
  rintro e w1 ⟨rfl, b1⟩
  have bx : w1.heap[w.heap.size]? = some (.cells #[.slice A n c, .slice A' n' c', .int .i64 s.2.2.1, .int .i64 s.2.2.2] 25 (0, 0)) := Below.some b1 (at_alloc _ rfl)
  have B1 : Below w.heap.size w w1 := bel_on (B0 _) b1 (by simp)
  clear b1 hc1
  by_cases hm : m < 0
  · go_wp2
    go_ret
    exact ⟨rfl, B1⟩
  obtain ⟨hok, htot⟩ := m1 (by omega)
  have hc2 := toShop_walk s hok _ w1 F (rep B1) (hFW B1)
  obtain ⟨cb0, cb1, cb2, cb3⟩ := cells4 bx
  go_wp2_with (go_at_call 9; refine hc2.mono ?_)
  rintro e w2 ⟨va, Va, ga, capa, ya, rfl, sa, b2⟩
  clear hc2 cb0 cb1 cb2 cb3
  replace bx := Below.some b2 bx
  have B2 := bel_on B1 b2 B1.size
  have hc3 := call_spec_LockedFormes s hok sa.rep fun b hb => (sa.lt b hb).2
  go_wp2_with (go_at_call 8; refine hc3.mono ?_)
  rintro e w3 ⟨wA, wn, wc, rfl, o1, -, b3⟩
  have fo1 := own_lt o1
  replace bx := Below.some b3 bx
  have bx3 := some_lt bx
  have B3 := bel_on B2 b3 B2.size
  clear hc3 b2 sa b3
  have hc4 := toShop_walk s hok _ w3 F (rep B3) (hFW B3)
  obtain ⟨cb0, cb1, cb2, cb3⟩ := cells4 bx
  go_wp2_with (go_at_call 9; refine hc4.mono ?_)
  rintro e w4 ⟨vx, Vb, g, cap, ys, rfl, sx, b4⟩
  replace bx := Below.some b4 bx
  replace o1 := OwnV.below o1 b4
  have B4 := bel_on B3 b4 B3.size
  clear hc4 cb0 cb1 cb2 cb3
  obtain ⟨bA, bn, bc, rfl⟩ := own_slice sx.box
  obtain rfl := sx.val
  have fx := sx.lt
  have hsz34 := b4.size
  have B4a := fun o => bel_on B4 (below_alloc w4 o) B4.size
  have hc5 := fun o => call_impl_LockedFormes s hok (sx.below (below_alloc w4 o)).rep fun b hb => ((sx.below (below_alloc w4 o)).lt b hb).2
  go_wp2_with (go_at_call 10; refine (hc5 _).mono ?_)
  rintro e w5 ⟨gA, gn, gc, rfl, o5, f5, b5⟩
  have six : w5.heap[w4.heap.size]? = some (.cells #[.slice bA bn bc, .slice (some ⟨g, 0, none⟩) s.2.1.length cap, .int .i64 s.2.2.1, .int .i64 s.2.2.2] 33 (0, 0)) := Below.some b5 (at_alloc _ rfl)
  replace bx := Below.some b5 (Below.some (below_alloc w4 _) bx)
  replace o1 := OwnV.below (OwnV.below o1 (below_alloc w4 _)) b5
  replace sx := (sx.below (below_alloc w4 _)).below b5
  have B5 := bel_on (B4a _) b5 (B4a _).size
  have hsz5 : w4.heap.size < w5.heap.size := some_lt six
  replace f5 : ∀ b, ownB (.slice gA gn gc) b → w4.heap.size < b := fun b hb => by
    have := (f5 b hb).1
    simp at this
    omega
  clear hc5 b5 B4a b4
  have hc6 := call_eqIntS (lckR s) (lckR_len s hok) (own_rep' o5) (own_lt o5) (own_rep' o1) (own_lt o1)
  go_wp2_with (go_at_call 11; refine hc6.mono ?_)
  rintro e w6 ⟨rfl, b6⟩
  replace six := Below.some b6 six
  replace bx := Below.some b6 bx
  replace o1 := OwnV.below o1 b6
  replace o5 := OwnV.below o5 b6
  replace sx := sx.below b6
  have B6 := bel_on B5 b6 B5.size
  clear hc6 
  go_wp2
  have b6d := below_drew w6
  have bx6 := Below.some b6d bx
  have six6 := Below.some b6d six
  have B6d := bel_on B6 b6d B6.size
  obtain ⟨cb0, cb1, cb2, cb3⟩ := cells4 bx6
  obtain ⟨cs0, cs1, cs2, cs3⟩ := cells4 six6
  have hc7 := toShop_walk s hok _ w6.drew F (rep B6d) (hFW B6d)
  go_region_held3 (fun w' => w'.cell? ⟨w.heap.size, 0, none⟩ = some (.slice A n c) ∧ w'.cell? ⟨w.heap.size, 1, none⟩ = some (.slice A' n' c') ∧ w'.cell? ⟨w.heap.size, 2, none⟩ = some (.int .i64 s.2.2.1) ∧ w'.cell? ⟨w.heap.size, 3, none⟩ = some (.int .i64 s.2.2.2) ∧ w'.cell? ⟨w4.heap.size, 0, none⟩ = some (.slice bA bn bc) ∧ w'.cell? ⟨w4.heap.size, 1, none⟩ = some (.slice (some ⟨g, 0, none⟩) s.2.1.length cap) ∧ w'.cell? ⟨w4.heap.size, 2, none⟩ = some (.int .i64 s.2.2.1) ∧ w'.cell? ⟨w4.heap.size, 3, none⟩ = some (.int .i64 s.2.2.2)) (first | (refine ⟨?_, ?_, ?_, ?_, ?_, ?_, ?_, ?_⟩ <;> assumption) | go_keep)
    (first
      | (go_at_call 9; refine hc7.mono ?_; rintro e w7 ⟨vz, Vz, gz, capz, yz, rfl, sz, b7⟩; obtain ⟨cc0, cc1, cc2, cc3⟩ := cells4 (Below.some b7 bx6); obtain ⟨ct0, ct1, ct2, ct3⟩ := cells4 (Below.some b7 six6))
      | (go_at_call 12; refine (call_eqShop s hok ((sx.below b6d).below b7).rep (fun b hb => (((sx.below b6d).below b7).lt b hb).2) sz.rep (fun b hb => (sz.lt b hb).2)).mono ?_; rintro e w8 ⟨rfl, b8⟩; obtain ⟨cu0, cu1, cu2, cu3⟩ := cells4 (Below.some b8 (Below.some b7 bx6)); obtain ⟨cv0, cv1, cv2, cv3⟩ := cells4 (Below.some b8 (Below.some b7 six6))))
  have K8 : Below w6.heap.size w6 w8 := (b6d.trans b7).trans (b8.mono b7.size)
  replace six := Below.some K8 six
  replace bx := Below.some K8 bx
  replace o1 := OwnV.below o1 K8
  replace o5 := OwnV.below o5 K8
  replace sx := sx.below K8
  have B8 := bel_on B6 K8 B6.size
  have hsz8 : w4.heap.size < w8.heap.size := some_lt six
  clear hc7 b7 b8 K8 b6d bx6 six6 B6d sz cb0 cb1 cb2 cb3 cs0 cs1 cs2 cs3 cc0 cc1 cc2 cc3 ct0 ct1 ct2 ct3 cu0 cu1 cu2 cu3 b6 cv0 cv1 cv2 cv3
  have hl1 := hok.1.1
  have htn := totF_nn s.2.1
  obtain ⟨cs0, cs1, cs2, cs3⟩ := cells4 six
  have hc9 := markShop_walk s 1 hok (by omega) (by omega) w8 _ g cap _ _ ys sx
  go_wp2_with (go_at_call 13; refine hc9.mono ?_)
  rintro e w9 ⟨rfl, sx9, x9⟩
  replace bx := KeptX.some x9 bx fun h => by have := (fx _ h).1; omega
  replace six := KeptX.some x9 six fun h => by have := (fx _ h).2; omega
  replace o1 := OwnV.keptX o1 x9 fun b hb h => by have := fo1 b hb; have := (fx _ h).1; omega
  replace o5 := OwnV.keptX o5 x9 fun b hb h => by have := f5 b hb; have := (fx _ h).2; omega
  have B9 : Below w.heap.size w w9 := B8.trans (x9.below (fun b hb => by have := (fx b hb).1; omega) B8.size)
  clear hc9 x9 cs0 cs1 cs2 cs3 sx
  have hk9 : ¬ (1 + 4 * (s.1.length : Int) + totF s.2.1 < 0) := by omega
  have hc10 := call_eqIntS (lckR s) (lckR_len s hok) (own_rep' o5) (own_lt o5) (own_rep' o1) (own_lt o1)
  go_wp2_with (go_at_call 11; refine hc10.mono ?_)
  rintro e w10 ⟨rfl, b10⟩
  replace six := Below.some b10 six
  replace bx := Below.some b10 bx
  replace o1 := OwnV.below o1 b10
  replace o5 := OwnV.below o5 b10
  have B10 := bel_on B9 b10 B9.size
  clear hc10 b10
  have hc11 := call_markIntS (lckR s) 1 (lckR_len s hok) (by omega) (by omega) o5 (own_lt o5)
  go_wp2_with (go_at_call 14; refine hc11.mono ?_)
  rintro e w11 ⟨rfl, o11, x11⟩
  replace bx := KeptX.some x11 bx fun h => by have := f5 _ h; omega
  replace o1 := OwnV.keptX o1 x11 fun b hb h => by have := fo1 b hb; have := f5 b h; omega
  have B11 : Below w.heap.size w w11 := B10.trans (x11.below (fun b hb => by have := f5 b hb; omega) B10.size)
  clear hc11 x11 o5 six
  have hc12 := call_heldIntS 1 (lckR s).length (lckR_len s hok) (by omega) (by omega) (own_rep' o11) (own_lt o11)
  go_wp2_with (go_at_call 15; refine hc12.mono ?_)
  rintro e w12 ⟨rfl, b12⟩
  replace bx := Below.some b12 bx
  replace o1 := OwnV.below o1 b12
  replace o11 := OwnV.below o11 b12
  have B12 := bel_on B11 b12 B11.size
  clear hc12 b12
  have hq : ¬ (1 + ((lckR s).length : Int) < 0) := by omega
  have hc13 := toShop_walk s hok _ w12 F (rep B12) (hFW B12)
  obtain ⟨cb0, cb1, cb2, cb3⟩ := cells4 bx
  go_wp2_with (go_at_call 9; refine hc13.mono ?_)
  rintro e w13 ⟨vh, Vh, gh, caph, yh, rfl, sh, b13⟩
  replace o1 := OwnV.below o1 b13
  replace o11 := OwnV.below o11 b13
  have B13 := bel_on B12 b13 B12.size
  clear hc13 b13 cb0 cb1 cb2 cb3 bx
  have hc14 := call_impl_LockedFormes s hok sh.rep fun b hb => (sh.lt b hb).2
  go_wp2_with (go_at_call 10; refine hc14.mono ?_)
  rintro e w14 ⟨hA, hn, hc, rfl, o14, -, b14⟩
  replace o1 := OwnV.below o1 b14
  replace o11 := OwnV.below o11 b14
  have B14 := bel_on B13 b14 B13.size
  clear hc14 b14 sh
  have hc15 := call_eqIntS (lckR s) (lckR_len s hok) (own_rep' o14) (own_lt o14) (own_rep' o1) (own_lt o1)
  go_wp2_with (go_at_call 11; refine hc15.mono ?_)
  rintro e w15 ⟨rfl, b15⟩
  replace o11 := OwnV.below o11 b15
  have B15 := bel_on B14 b15 B14.size
  clear hc15 b15 o14 o1
  have hc16 := call_heldIntS 1 (lckR s).length (lckR_len s hok) (by omega) (by omega) (own_rep' o11) (own_lt o11)
  go_wp2_with (go_at_call 15; refine hc16.mono ?_)
  rintro e w16 ⟨rfl, b16⟩
  have B16 := bel_on B15 b16 B15.size
  clear hc16 b16
  go_wp2
  go_ret
  exact ⟨rfl, B16⟩
end Go.Proofs.Ytankikbbdfgkbaa
/-
  The contract of the law of LockedFormes.
-/
namespace Go.Proofs.Ytankikbbdfgkbaa
open Go Go.Proofs Go.V Go.RowKit
set_option linter.unusedSimpArgs false
set_option linter.unusedVariables false

open Classical in
/-- What a law over one shop answers. -/
noncomputable def fShop (ds : List D) : Option Out := if ∃ s, ds = [sp s] ∧ inSp s then some (.ret [B true] []) else none
theorem fShop_sp {s : Sp} (h : inSp s) : fShop [sp s] = some (.ret [B true] []) := if_pos ⟨s, rfl, h⟩
theorem meets_shop {f : Nat} (he : ∀ args w, (callFunc f args).run Try.prog w = .ok (.enter f args) w)
    (h : ∀ (s : Sp), inSp s → ∀ (v0 : Value) (w : World) (F : Nat → Prop), RepV w F (sp s) v0 → (∀ b, F b → b < w.heap.size) → Calls Try.prog f #[v0] w fun e w' => e = .returned (.bool true) ∧ Below w.heap.size w w') :
    Meets gl0 Try.prog f { pm := [.dat 2], rm := [.dat 0], f := fShop } := by
  refine meets_of_calls he fun ds rs us hd args w F ow hg ha hF _ => ?_
  obtain ⟨d, y, rfl, h2, h3⟩ := args_one ha
  replace hd : fShop [d] = some (.ret rs us) := hd
  unfold fShop at hd
  split at hd
  case isFalse => cases hd
  rename_i hs
  obtain ⟨s, e, hs⟩ := hs
  cases hd
  obtain rfl : d = sp s := by simpa using e
  rcases h3 with h3 | h3
  · cases h3
  obtain rfl : args = #[y] := by
    cases args
    simp only [List.toArray_inj] at h2 ⊢
    exact congrArg List.toArray h2
  refine (h s hs y w F h3 (fun b hb => (hF b hb).1)).mono ?_
  rintro e w' ⟨rfl, hB⟩
  refine ⟨_, rfl, F, fun _ => none, [.bool true], rfl, post_flat hB hF rfl rfl [B true] [.bool true] rfl rfl fun j d hd => ?_⟩
  match j, hd with
  | 0, hd =>
    cases hd
    exact ⟨_, rfl, RepV_v.2 ⟨rfl, rfl⟩⟩
@[reducible] noncomputable def S_laws_FnExactLockedFormes : FS := { pm := [.dat 2], rm := [.dat 0], f := fShop }
set_option maxRecDepth 100000 in
theorem M_laws_FnExactLockedFormes : Meets gl0 Try.prog 3 S_laws_FnExactLockedFormes :=
  meets_shop (Go.Proofs.enters_of Try.func3 (by kernel_rfl) rfl) fun s hs v0 w F => lockLaw_walk s hs v0 w F
end Go.Proofs.Ytankikbbdfgkbaa
