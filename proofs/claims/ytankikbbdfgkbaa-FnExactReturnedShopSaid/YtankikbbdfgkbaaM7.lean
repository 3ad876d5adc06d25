/-
  laws.toForme, laws.toFormeS, walked by hand.
-/
import Derived.Test.YtankikbbdfgkbaaRows
import Derived.Test.YtankikbbdfgkbaaM6
import Derived.Laws.OwnMore
namespace Go.Proofs.Ytankikbbdfgkbaa
open Go Go.Proofs Go.V Go.RowKit
set_option linter.unusedSimpArgs false
set_option linter.unusedVariables false

theorem at_alloc {w : World} (o : Obj) {n : Nat} (h : n = w.heap.size) : (w.alloc o).heap[n]? = some o := by
  subst h
  exact Array.getElem?_push_size
theorem past_alloc {w : World} (o : Obj) {n : Nat} {x : Obj} (h : w.heap[n]? = some x) : (w.alloc o).heap[n]? = some x :=
  ((World.grownBy_alloc w o none).block n (Array.getElem?_eq_some_iff.1 h).1 (by simp)).trans h
theorem own_slice {w : World} {F own : Nat → Prop} {z : Nat} {d : D} {y : Value} (h : OwnV w F own z d y) : ∃ A n c, y = .slice A n c := by
  obtain ⟨l, _, _, h3⟩ := h
  rcases h3 with ⟨rfl, _⟩ | ⟨g, o, c, us, cs, e, h4, _⟩
  · exact ⟨_, _, _, rfl⟩
  · exact ⟨_, _, _, h4⟩
set_option maxRecDepth 100000 in
theorem call_toStringS (l : List ByteArray) (h : l.length ≤ 1048576) {w : World} {F : Nat → Prop} {y : Value} (hr : RepV w F (txs l) y) (hF : ∀ b, F b → b < w.heap.size) :
    Calls Try.prog 76 #[y] w fun e w' => ∃ v, e = .returned v ∧ OwnV w' (fun _ => False) (ownB v) 1 (txs l) v ∧ (∀ b, ownB v b → w.heap.size ≤ b ∧ b < w'.heap.size) ∧ Below w.heap.size w w' := by
  refine (calls_of_meets' (ow := fun _ => none) (F := F) (ds := [txs l]) (rs := [txs l]) (us := []) (args := #[y]) (Go.Proofs.enters_of Try.func76 (by kernel_rfl) rfl) M_laws_toStringS (e_laws_toStringS l h) gOk_nil
    (show ArgOk w _ _ (.dat 2) (txs l) y ∧ True from ⟨.inr hr, trivial⟩) (fun b hb => ⟨hF b hb, rfl⟩) (fun b i h => by cases h)).mono ?_
  rintro e w' ⟨v, rfl, F', R, vs, rfl, hp⟩
  have hl := hp.len
  obtain ⟨u, rfl⟩ := List.length_eq_one_iff.1 (hl.trans rfl)
  have h0 := hp.res 0
  rcases h0 with h0 | h0
  · cases h0
  obtain ⟨m, e1, h2, h3⟩ := h0
  refine ⟨u, rfl, ⟨m, e1, h2, ?_⟩, fun b hb => ?_, ⟨hp.os, hp.tape, hp.output, hp.size, fun b hb => hp.keep b hb rfl⟩⟩
  · rcases h3 with h3 | ⟨g, o, c, us, cs, e, h4, h5, h6, h7, h8, h9, _⟩
    · exact .inl h3
    · have h4' : u = .slice (some ⟨g, o, none⟩) m.length c := h4
      exact .inr ⟨g, o, c, us, cs, e, h4, h5, h6, h7, RepL_mono (fun b hb => hb.elim) (fun b hb => hb.elim) _ _ h8, h9, by show ownB u g; rw [h4']; rfl⟩
  · rcases h3 with ⟨h3, _⟩ | ⟨g, o, c, us, cs, e, h4, h5, h6, h7, h8, h9, h10, h11⟩
    · have h3' : u = .slice none 0 0 := h3
      rw [ownB, h3'] at hb
      cases hb
    · have h4' : u = .slice (some ⟨g, o, none⟩) m.length c := h4
      rw [ownB, h4'] at hb
      have hb' : g = b := Option.some.inj hb
      subst hb'
      exact ⟨h11, (Array.getElem?_eq_some_iff.1 h6).1⟩
set_option maxHeartbeats 4000000 in
set_option maxRecDepth 1000000 in
theorem toForme_walk (x : Fm) (hx : x.2.1.length ≤ 1048576) (y : Value) (w : World) (F : Nat → Prop) (hr : RepV w F (txs x.2.1) y) (hF : ∀ b, F b → b < w.heap.size) :
    Calls Try.prog 56 #[.agg #[.int .i64 x.1, y, .bool x.2.2.1, .int .i64 x.2.2.2]] w fun e w' => ∃ v, e = .returned (.agg #[.int .i64 x.1, v, .bool x.2.2.1, .int .i64 x.2.2.2]) ∧ OwnV w' (fun _ => False) (ownB v) 1 (txs x.2.1) v ∧ (∀ b, ownB v b → w.heap.size ≤ b ∧ b < w'.heap.size) ∧ Below w.heap.size w w' := by
  go_enter Try.func56, Try.ntmps56
  have hb3 : ∀ a b c, Below w.heap.size w (((w.alloc a).alloc b).alloc c) := fun a b c => (((Below.refl _ w).alloc (Nat.le_refl _) _).alloc (by simp) _).alloc (by simp; omega) _
  have hc := fun (a b c : Obj) => call_toStringS x.2.1 hx (w := ((w.alloc a).alloc b).alloc c) (F := F) (y := y) (RepV_mono (fun _ h => h) (fun i hi => (hb3 a b c).block i (hF i hi)) hr) (fun i hi => Nat.lt_of_lt_of_le (hF i hi) (hb3 a b c).size)
  go_wp2_with (go_at_call 76; refine (hc _ _ _).mono ?_)
  rintro e w4 ⟨v, rfl, hv, hvb, b4⟩
  obtain ⟨vA, vn, vc, rfl⟩ := own_slice hv
  have H1 : w4.heap[w.heap.size]? = some (.cells #[.int .i64 x.1, y, .bool x.2.2.1, .int .i64 x.2.2.2] 81 (0, 0)) := (b4.block _ (by simp; omega)).trans (past_alloc _ (past_alloc _ (at_alloc _ rfl)))
  have H2 : w4.heap[w.heap.size + 1]? = some (.cells #[.int .i64 0, .slice none 0 0, .bool false, .int .i64 0] 63 (0, 0)) := (b4.block _ (by simp)).trans (past_alloc _ (at_alloc _ (by simp)))
  have H3 : w4.heap[w.heap.size + 1 + 1]? = some (.cells #[.int .i64 x.1, .slice none 0 0, .bool false, .int .i64 0] 63 (0, 0)) := (b4.block _ (by simp)).trans (at_alloc _ (by simp))
  have c12 : w4.cell? ⟨w.heap.size, 2, none⟩ = some (.bool x.2.2.1) := by rw [Lib.cell_of_heap H1]; rfl
  have c13 : w4.cell? ⟨w.heap.size, 3, none⟩ = some (.int .i64 x.2.2.2) := by rw [Lib.cell_of_heap H1]; rfl
  have c31 : w4.cell? ⟨w.heap.size + 1 + 1, 1, none⟩ = some (.slice none 0 0) := by rw [Lib.cell_of_heap H3]; rfl
  have f31 := Lib.frozen_of_heap H3 1
  have f32 := Lib.frozen_of_heap H3 2
  have f33 := Lib.frozen_of_heap H3 3
  have c32 : w4.cell? ⟨w.heap.size + 1 + 1, 2, none⟩ = some (.bool false) := by rw [Lib.cell_of_heap H3]; rfl
  have c33 : w4.cell? ⟨w.heap.size + 1 + 1, 3, none⟩ = some (.int .i64 0) := by rw [Lib.cell_of_heap H3]; rfl
  have H7 : (((w4.setCell ⟨w.heap.size + 1 + 1, 1, none⟩ (.slice vA vn vc)).setCell ⟨w.heap.size + 1 + 1, 2, none⟩ (.bool x.2.2.1)).setCell ⟨w.heap.size + 1 + 1, 3, none⟩ (.int .i64 x.2.2.2)).heap[w.heap.size + 1 + 1]? = some (.cells #[.int .i64 x.1, .slice vA vn vc, .bool x.2.2.1, .int .i64 x.2.2.2] 63 (0, 0)) := by
    rw [heap_setCell_same _ _ _ _ _ _ (heap_setCell_same _ _ _ _ _ _ (heap_setCell_same _ _ _ _ _ _ H3))]
    rfl
  have H72 : (((w4.setCell ⟨w.heap.size + 1 + 1, 1, none⟩ (.slice vA vn vc)).setCell ⟨w.heap.size + 1 + 1, 2, none⟩ (.bool x.2.2.1)).setCell ⟨w.heap.size + 1 + 1, 3, none⟩ (.int .i64 x.2.2.2)).heap[w.heap.size + 1]? = some (.cells #[.int .i64 0, .slice none 0 0, .bool false, .int .i64 0] 63 (0, 0)) := by
    rw [heap_setCell_other _ _ _ _ (by simp), heap_setCell_other _ _ _ _ (by simp), heap_setCell_other _ _ _ _ (by simp), H2]
  have B7 : Below w.heap.size w (((w4.setCell ⟨w.heap.size + 1 + 1, 1, none⟩ (.slice vA vn vc)).setCell ⟨w.heap.size + 1 + 1, 2, none⟩ (.bool x.2.2.1)).setCell ⟨w.heap.size + 1 + 1, 3, none⟩ (.int .i64 x.2.2.2)) :=
    ((((hb3 _ _ _).trans (b4.mono (hb3 _ _ _).size)).setCell (by simp; omega) _).setCell (by simp; omega) _).setCell (by simp; omega) _
  have O7 := own_keep (w' := ((w4.setCell ⟨w.heap.size + 1 + 1, 1, none⟩ (.slice vA vn vc)).setCell ⟨w.heap.size + 1 + 1, 2, none⟩ (.bool x.2.2.1)).setCell ⟨w.heap.size + 1 + 1, 3, none⟩ (.int .i64 x.2.2.2)) hv (fun b hb => by
    have := (hvb b hb).1
    simp at this
    rw [heap_setCell_other _ _ _ _ (by simp; omega), heap_setCell_other _ _ _ _ (by simp; omega), heap_setCell_other _ _ _ _ (by simp; omega)])
  have L7 : ∀ b, ownB (.slice vA vn vc) b → w.heap.size + 1 + 1 < b ∧ b < w4.heap.size := fun b hb => by
    have := hvb b hb
    simp at this
    omega
  have S7 : (((w4.setCell ⟨w.heap.size + 1 + 1, 1, none⟩ (.slice vA vn vc)).setCell ⟨w.heap.size + 1 + 1, 2, none⟩ (.bool x.2.2.1)).setCell ⟨w.heap.size + 1 + 1, 3, none⟩ (.int .i64 x.2.2.2)).heap.size = w4.heap.size := by simp [World.setCell]
  have d0 := Lib.cell_of_heap H7 0
  have d1 := Lib.cell_of_heap H7 1
  have d2 := Lib.cell_of_heap H7 2
  have d3 := Lib.cell_of_heap H7 3
  have e0 := Lib.cell_of_heap H72 0
  have e1 := Lib.cell_of_heap H72 1
  have e2 := Lib.cell_of_heap H72 2
  have e3 := Lib.cell_of_heap H72 3
  have g0 := Lib.frozen_of_heap H72 0
  have g1 := Lib.frozen_of_heap H72 1
  have g2 := Lib.frozen_of_heap H72 2
  have g3 := Lib.frozen_of_heap H72 3
  simp only [List.getElem?_toArray, List.getElem?_cons_zero, List.getElem?_cons_succ] at d0 d1 d2 d3 e0 e1 e2 e3
  go_wp2
  generalize ((w4.setCell ⟨w.heap.size + 1 + 1, 1, none⟩ (.slice vA vn vc)).setCell ⟨w.heap.size + 1 + 1, 2, none⟩ (.bool x.2.2.1)).setCell ⟨w.heap.size + 1 + 1, 3, none⟩ (.int .i64 x.2.2.2) = W7 at *
  have H11 : ((((W7.setCell ⟨w.heap.size + 1, 0, none⟩ (.int .i64 x.1)).setCell ⟨w.heap.size + 1, 1, none⟩ (.slice vA vn vc)).setCell ⟨w.heap.size + 1, 2, none⟩ (.bool x.2.2.1)).setCell ⟨w.heap.size + 1, 3, none⟩ (.int .i64 x.2.2.2)).heap[w.heap.size + 1]? = some (.cells #[.int .i64 x.1, .slice vA vn vc, .bool x.2.2.1, .int .i64 x.2.2.2] 63 (0, 0)) := by
    rw [heap_setCell_same _ _ _ _ _ _ (heap_setCell_same _ _ _ _ _ _ (heap_setCell_same _ _ _ _ _ _ (heap_setCell_same _ _ _ _ _ _ H72)))]
    rfl
  have d0 := Lib.cell_of_heap H11 0
  have d1 := Lib.cell_of_heap H11 1
  have d2 := Lib.cell_of_heap H11 2
  have d3 := Lib.cell_of_heap H11 3
  simp only [List.getElem?_toArray, List.getElem?_cons_zero, List.getElem?_cons_succ] at d0 d1 d2 d3
  refine bodyPost_ret (by simp [results, Try.results56, go_sem, d0, d1, d2, d3]; try rfl) rfl ?_
  refine ⟨_, rfl, own_keep O7 (fun b hb => ?_), fun b hb => ?_, (((B7.setCell (by simp) _).setCell (by simp) _).setCell (by simp) _).setCell (by simp) _⟩
  · have := (L7 b hb).1
    rw [heap_setCell_other _ _ _ _ (by simp; omega), heap_setCell_other _ _ _ _ (by simp; omega), heap_setCell_other _ _ _ _ (by simp; omega), heap_setCell_other _ _ _ _ (by simp; omega)]
  · have := L7 b hb
    simp [World.setCell, S7]
    omega
end Go.Proofs.Ytankikbbdfgkbaa
/-
  laws.toFormeS, walked by hand.
-/
namespace Go.Proofs.Ytankikbbdfgkbaa
open Go Go.Proofs Go.V Go.RowKit
set_option linter.unusedSimpArgs false
set_option linter.unusedVariables false

theorem rowsF_put : ∀ (l : List Fm) (ys : List Value) (i : Nat) (x : Fm) (y : Value), i < l.length → ys.length = l.length → rowsF (l.set i x) (ys.set i y) = ((((rowsF l ys).set (i * 4) (.int .i64 x.1)).set (i * 4 + 1) y).set (i * 4 + 2) (.bool x.2.2.1)).set (i * 4 + 3) (.int .i64 x.2.2.2)
  | a :: l, b :: ys, 0, x, y, _, _ => by simp [rowsF, cellsF]
  | a :: l, b :: ys, i + 1, x, y, h1, h2 => by
    have ih := rowsF_put l ys i x y (by simpa using h1) (by simpa using h2)
    simp only [rowsF, List.set_cons_succ, cellsF, List.cons_append, List.nil_append]
    rw [ih]
    have e0 : (i + 1) * 4 = i * 4 + 4 := by omega
    simp [e0, Nat.add_assoc, List.set_cons_succ]
  | [], _, _, _, _, h1, _ => by simp at h1
  | _ :: _, [], _, _, _, _, h2 => by simp at h2
abbrev putF (w : World) (g i : Nat) (x : Fm) (y : Value) : World := (((w.setCell ⟨g, i * 4, none⟩ (.int .i64 x.1)).setCell ⟨g, i * 4 + 1, none⟩ y).setCell ⟨g, i * 4 + 2, none⟩ (.bool x.2.2.1)).setCell ⟨g, i * 4 + 3, none⟩ (.int .i64 x.2.2.2)
theorem putF_other (w : World) (g i : Nat) (x : Fm) (y : Value) {b : Nat} (h : b ≠ g) : (putF w g i x y).heap[b]? = w.heap[b]? := by
  rw [heap_setCell_other _ _ _ _ (by simpa using h), heap_setCell_other _ _ _ _ (by simpa using h), heap_setCell_other _ _ _ _ (by simpa using h), heap_setCell_other _ _ _ _ (by simpa using h)]
theorem putF_size (w : World) (g i : Nat) (x : Fm) (y : Value) : (putF w g i x y).heap.size = w.heap.size := by simp [putF, World.setCell]
theorem FmsAt_put {w : World} {B g cap : Nat} {l : List Fm} {ys : List Value} (h : FmsAt w B (.slice (some ⟨g, 0, none⟩) l.length cap) ys l) {i : Nat} (hi : i < l.length) (x : Fm) (y : Value) (hy : OwnV w (fun _ => False) (ownB y) 1 (txs x.2.1) y)
    (hb : ∀ b, ownB y b → B ≤ b ∧ b ≠ g) (hd : ∀ j z, j ≠ i → ys[j]? = some z → y.ownBlock = none ∨ y.ownBlock ≠ z.ownBlock) :
    FmsAt (putF w g i x y) B (.slice (some ⟨g, 0, none⟩) l.length cap) (ys.set i y) (l.set i x) := by
  refine ⟨by simp [h.len], ?_, fun j x' y' hj hyj => ?_, fun j y' b hyj hb' => ?_, fun j k y' z' hjk hj hk => ?_⟩
  · rw [List.length_set, rowsF_put l ys i x y hi h.len]
    exact ownsRow_set (ownsRow_set (ownsRow_set (ownsRow_set h.own rfl _ _) rfl _ _) rfl _ _) rfl _ _
  · by_cases e : j = i
    · subst e
      rw [List.getElem?_set_self hi] at hj
      rw [List.getElem?_set_self (by rw [h.len]; exact hi)] at hyj
      obtain rfl := Option.some.inj hj
      obtain rfl := Option.some.inj hyj
      exact own_keep hy fun b hb1 => putF_other _ _ _ _ _ (hb b hb1).2
    · rw [List.getElem?_set_ne (fun h => e h.symm)] at hj hyj
      exact own_keep (h.row j x' y' hj hyj) fun b hb1 => putF_other _ _ _ _ _ fun h1 => (h.blk j y' b hyj hb1).2 (by rw [h1]; rfl)
  · by_cases e : j = i
    · subst e
      rw [List.getElem?_set_self (by rw [h.len]; exact hi)] at hyj
      obtain rfl := Option.some.inj hyj
      exact ⟨(hb b hb').1, fun h1 => (hb b hb').2 (Option.some.inj h1).symm⟩
    · rw [List.getElem?_set_ne (fun h => e h.symm)] at hyj
      exact h.blk j y' b hyj hb'
  · by_cases e : j = i
    · subst e
      rw [List.getElem?_set_self (by rw [h.len]; exact hi)] at hj
      obtain rfl := Option.some.inj hj
      rw [List.getElem?_set_ne hjk] at hk
      exact hd k z' (fun h => hjk h.symm) hk
    · rw [List.getElem?_set_ne (fun h => e h.symm)] at hj
      by_cases e2 : k = i
      · subst e2
        rw [List.getElem?_set_self (by rw [h.len]; exact hi)] at hk
        obtain rfl := Option.some.inj hk
        rcases hd j y' e hj with h1 | h1
        · rw [h1]
          cases y'.ownBlock <;> simp
        · exact .inr fun h2 => h1 h2.symm
      · rw [List.getElem?_set_ne (fun h => e2 h.symm)] at hk
        exact h.dis j k y' z' hjk hj hk
def zFm : Fm := (0, [], false, 0)
theorem rowsF_made : ∀ n, rowsF (List.replicate n zFm) (List.replicate n (.slice none 0 0)) = (madeCells (Value.agg #[.int .i64 0, .slice none 0 0, .bool false, .int .i64 0]).cells (n * 4)).toList := by
  intro n
  apply List.ext_getElem?
  intro j
  have hl : (rowsF (List.replicate n zFm) (List.replicate n (.slice none 0 0))).length = n * 4 := by rw [rowsF_len _ _ (by simp)]; simp
  by_cases hj : j < n * 4
  · have h1 := rowsF_at (List.replicate n zFm) (List.replicate n (.slice none 0 0)) (j / 4) zFm (.slice none 0 0) (by rw [List.getElem?_replicate, if_pos (by omega)]) (by rw [List.getElem?_replicate, if_pos (by omega)]) (j % 4) (by omega)
    rw [show j / 4 * 4 + j % 4 = j by omega] at h1
    rw [h1]
    simp only [madeCells, Array.getElem?_toList, Array.getElem?_map, Array.getElem?_range, hj, if_true, Option.map_some]
    have h4 : j % 4 = 0 ∨ j % 4 = 1 ∨ j % 4 = 2 ∨ j % 4 = 3 := by omega
    have hs : (Value.agg #[.int .i64 0, .slice none 0 0, .bool false, .int .i64 0]).cells.size = 4 := rfl
    rw [hs]
    rcases h4 with e | e | e | e <;> rw [e] <;> rfl
  · rw [List.getElem?_eq_none (by omega), List.getElem?_eq_none (by simp [madeCells]; omega)]
theorem own_nil (w : World) (F own : Nat → Prop) (z : Nat) : OwnV w F own z (.arr z []) (.slice none 0 0) := ⟨[], rfl, fun _ h => by simp at h, .inl ⟨rfl, rfl⟩⟩
theorem FmsAt_made {w : World} {B : Nat} {V : Value} {n : Nat} (h : w.ownsRow B 63 4 V n (madeCells (Value.agg #[.int .i64 0, .slice none 0 0, .bool false, .int .i64 0]).cells (n * 4)).toList) : FmsAt w B V (List.replicate n (.slice none 0 0)) (List.replicate n zFm) := by
  have hy0 : ∀ {i : Nat} {y : Value}, (List.replicate n (Value.slice none 0 0))[i]? = some y → i < n ∧ y = .slice none 0 0 := fun {i y} hy => by
    rw [List.getElem?_replicate] at hy
    by_cases h : i < n
    · rw [if_pos h] at hy
      exact ⟨h, (Option.some.inj hy).symm⟩
    · rw [if_neg h] at hy
      cases hy
  refine ⟨by simp, by rw [rowsF_made, List.length_replicate]; exact h, fun i x y hx hy => ?_, fun i y b hy hb => ?_, fun i j y z _ hy _ => ?_⟩
  · obtain ⟨h1, rfl⟩ := hy0 hy
    rw [List.getElem?_replicate, if_pos h1] at hx
    obtain rfl := Option.some.inj hx
    exact own_nil _ _ _ _
  · obtain ⟨_, rfl⟩ := hy0 hy
    cases hb
  · obtain ⟨_, rfl⟩ := hy0 hy
    exact .inl rfl
theorem FmsAt.lt {w : World} {B : Nat} {V : Value} {ys : List Value} {l : List Fm} (h : FmsAt w B V ys l) : ∀ b, FmS V ys b → B ≤ b ∧ b < w.heap.size := by
  rintro b (hb | ⟨y, hy, hb⟩)
  · exact h.own.lt b hb
  · obtain ⟨i, hi⟩ := List.mem_iff_getElem?.1 hy
    have hl : i < l.length := by rw [← h.len]; exact (List.getElem?_eq_some_iff.1 hi).1
    exact ⟨(h.blk i y b hi hb).1, own_lt (h.row i l[i] y (by simp) hi) b hb⟩
theorem FmsAt.keep {w w' : World} {B : Nat} {V : Value} {ys : List Value} {l : List Fm} (h : FmsAt w B V ys l) (hk : ∀ b, FmS V ys b → w'.heap[b]? = w.heap[b]?) : FmsAt w' B V ys l := by
  refine ⟨h.len, ?_, fun i x y hx hy => own_keep (h.row i x y hx hy) fun b hb => hk b (.inr ⟨y, List.mem_of_getElem? hy, hb⟩), h.blk, h.dis⟩
  obtain ⟨h1, h2 | ⟨g, cap, cur, hg, h3, h4, h5⟩⟩ := h.own
  · exact ⟨h1, .inl h2⟩
  · exact ⟨h1, .inr ⟨g, cap, cur, hg, h3, (hk g (.inl (by rw [ownB, hg]; rfl))).trans h4, h5⟩⟩
theorem FmsAt.base {w : World} {B B' : Nat} {V : Value} {ys : List Value} {l : List Fm} (h : FmsAt w B V ys l) (hb : B' ≤ B) : FmsAt w B' V ys l := by
  refine ⟨h.len, ?_, h.row, fun i y b hy hyb => ⟨Nat.le_trans hb (h.blk i y b hy hyb).1, (h.blk i y b hy hyb).2⟩, h.dis⟩
  obtain ⟨h1, h2 | ⟨g, cap, cur, hg, h3, h4, h5⟩⟩ := h.own
  · exact ⟨h1, .inl h2⟩
  · exact ⟨h1, .inr ⟨g, cap, cur, hg, Nat.le_trans hb h3, h4, h5⟩⟩
theorem fm_cells {w : World} {F : Nat → Prop} {l : List Fm} {us : List Value} (h : RepL w F (l.map fm) us) {i : Nat} (hi : i < l.length) :
    ∃ A n c, us[i * 4]? = some (.int .i64 l[i].1) ∧ us[i * 4 + 1]? = some (.slice A n c) ∧ us[i * 4 + 2]? = some (.bool l[i].2.2.1) ∧ us[i * 4 + 3]? = some (.int .i64 l[i].2.2.2) ∧ RepV w F (txs l[i].2.1) (.slice A n c) := by
  obtain ⟨p, m, q, rfl, hp, hm, hc, _⟩ := RepL_get (z := 4) _ _ h (fun d hd => by obtain ⟨x, _, rfl⟩ := List.mem_map.1 hd; rfl) i (fm l[i]) (by simp [hi])
  simp only [RepC, RepL_cons, RepL_nil] at hc
  obtain ⟨⟨v1, v2, rfl, ⟨rfl, _⟩, v3, v4, rfl, hx, v5, v6, rfl, ⟨rfl, _⟩, v7, v8, rfl, ⟨rfl, _⟩, rfl⟩, _⟩ := hc
  obtain ⟨A, c, us', rfl, h2⟩ := hx
  refine ⟨A, _, c, ?_, ?_, ?_, ?_, ⟨A, c, us', rfl, h2⟩⟩ <;> rw [List.append_assoc, List.getElem?_append_right (by omega), hp] <;> simp [show ∀ k, i * 4 + k - i * 4 = k from fun k => by omega]
def toF (l : List Fm) (i : Nat) : List Fm := l.take i ++ List.replicate (l.length - i) zFm
def toY (vs : List Value) (n : Nat) : List Value := vs ++ List.replicate (n - vs.length) (.slice none 0 0)
theorem toF_len (l : List Fm) {i : Nat} (h : i ≤ l.length) : (toF l i).length = l.length := by simp [toF]; omega
theorem toF_succ (l : List Fm) {i : Nat} (h : i < l.length) : toF l (i + 1) = (toF l i).set i l[i] := by
  unfold toF
  rw [List.take_succ_eq_append_getElem h, List.set_append_right _ _ (by rw [List.length_take]; omega), List.length_take, Nat.min_eq_left (Nat.le_of_lt h), Nat.sub_self, show l.length - i = (l.length - (i + 1)) + 1 by omega, List.replicate_succ, List.set_cons_zero, List.append_assoc, List.singleton_append]
theorem toY_succ (vs : List Value) {n : Nat} (v : Value) (h : vs.length < n) : toY (vs ++ [v]) n = (toY vs n).set vs.length v := by
  unfold toY
  rw [List.set_append_right _ _ (Nat.le_refl _), Nat.sub_self, show n - vs.length = (n - (vs ++ [v]).length) + 1 by simp; omega, List.replicate_succ, List.set_cons_zero]
  simp
theorem info_Forme : (Try.prog.info? 63).map (fun i => (i.zero, i.size, i.bytes)) = some (some (.agg #[.int .i64 0, .slice none 0 0, .bool false, .int .i64 0]), 4, 48) := by kernel_rfl
set_option maxHeartbeats 4000000 in
set_option maxRecDepth 1000000 in
theorem toFormeS_walk (l : List Fm) (hln : l.length ≤ 1048576) (hls : ∀ x ∈ l, x.2.1.length ≤ 1048576) (y0 : Value) (w : World) (F : Nat → Prop) (hr : RepV w F (fms l) y0) (hF : ∀ b, F b → b < w.heap.size) :
    Calls Try.prog 33 #[y0] w fun e w' => ∃ g cap ys, e = .returned (.slice (some ⟨g, 0, none⟩) l.length cap) ∧ FmsAt w' w.heap.size (.slice (some ⟨g, 0, none⟩) l.length cap) ys l ∧ Below w.heap.size w w' := by
  obtain ⟨i0, hi0, hz0, hz1, hz2⟩ := info_parts info_Forme
  obtain ⟨A, c, us, e0, hc0, hus, _, hA⟩ := hr
  simp only [List.cons.injEq, and_true, List.length_map] at e0
  subst e0
  rw [List.length_map] at hc0
  go_enter Try.func33, Try.ntmps33
  go_wp2_with (at_make; refine wpList_make_full _ rfl _ _ _ rfl w.heap.size 63 i0 _ 4 (by kernel_rfl) hi0 hz0 hz1 _ _ _ _ l.length rfl rfl rfl rfl (by rw [hz2]; omega) (by unfold maxLen; omega) (Nat.le_refl _) ?_)
  intro w1 hown1 hg1
  go_wp2
  go_loopw [4] (fun vi wr => ∃ (i : Nat) (vs : List Value), vi = .int .i64 i ∧ i ≤ l.length ∧ vs.length = i ∧ FmsAt wr w.heap.size (.slice (some ⟨w.heap.size, 0, none⟩) l.length l.length) (toY vs l.length) (toF l i) ∧ Below w.heap.size w wr) (fun vi _ => l.length - (intOf vi).toNat)
  case atStart =>
    refine ⟨0, [], rfl, Nat.zero_le _, rfl, ?_, hg1.os, hg1.tape, hg1.output, hg1.size, fun b hb => hg1.block b hb (by simp)⟩
    have := FmsAt_made hown1
    simpa [toF, toY] using this
  case round =>
    obtain ⟨i, vs, rfl, hin, hvs, hF1, hB⟩ := hrel
    by_cases hp : i < l.length
    · have hpi : (i : Int) < (l.length : Int) := by omega
      obtain ⟨b, o, rfl, hFb, hcell⟩ := hA (by intro h; simp at h; subst h; simp at hp)
      obtain ⟨A', n', c', u0, u1, u2, u3, hry⟩ := fm_cells hus hp
      have hcb : ∀ {k : Nat} {u : Value}, us[k]? = some u → wr.cell? ⟨b, o + k, none⟩ = some u := fun {k u} hu => (World.cell?_of_block (w := w) (hB.block b (hF b hFb))).trans (hcell k u hu)
      have c0 := hcb u0
      have c1 := hcb u1
      have c2 := hcb u2
      have c3 := hcb u3
      simp only [← Nat.add_assoc] at c1 c2 c3
      have hxl := hls l[i] (List.getElem_mem hp)
      have hcall := toForme_walk l[i] hxl (.slice A' n' c') wr F (RepV_mono (fun _ h => h) (fun b hb => hB.block b (hF b hb)) hry) (fun b hb => Nat.lt_of_lt_of_le (hF b hb) hB.size)
      have hsucc := toF_succ l hp
      generalize l[i] = x at *
      go_wp2_with (go_at_call 56; refine hcall.mono ?_)
      rintro e w4 ⟨v, rfl, hv, hvb, hB4⟩
      obtain ⟨A4, n4, c4, rfl⟩ := own_slice hv
      have hlt1 := hF1.lt
      have hF4 := hF1.keep (w' := w4) fun b hb => hB4.block b (hlt1 b hb).2
      have hown4 := hF4.own
      rw [toF_len l hin] at hown4
      have hg : w.heap.size < wr.heap.size := (hlt1 _ (.inl rfl)).2
      have hrl : (rowsF (toF l i) (toY vs l.length)).length = l.length * 4 := by rw [rowsF_len _ _ (by simp [toF, toY]; omega), toF_len l hin]
      generalize hrw : rowsF (toF l i) (toY vs l.length) = R at *
      have k0 : ∀ f, f < 4 → ∃ u, R[i * 4 + f]? = some u := fun f hf => ⟨_, List.getElem?_eq_getElem (by omega)⟩
      obtain ⟨z0, q0⟩ := k0 0 (by omega)
      obtain ⟨z1, q1⟩ := k0 1 (by omega)
      obtain ⟨z2, q2⟩ := k0 2 (by omega)
      obtain ⟨z3, q3⟩ := k0 3 (by omega)
      have hw1 := ownsRow_set hown4 rfl (i * 4) (.int .i64 x.1)
      have hw2 := ownsRow_set hw1 rfl (i * 4 + 1) (.slice A4 n4 c4)
      have hw3 := ownsRow_set hw2 rfl (i * 4 + 2) (.bool x.2.2.1)
      have d0 := own_cell hown4 (j := i * 4) q0
      have d1 := own_cell hw1 (j := i * 4 + 1) (by rw [List.getElem?_set_ne (by omega)]; exact q1)
      have d2 := own_cell hw2 (j := i * 4 + 2) (by rw [List.getElem?_set_ne (by omega), List.getElem?_set_ne (by omega)]; exact q2)
      have d3 := own_cell hw3 (j := i * 4 + 3) (by rw [List.getElem?_set_ne (by omega), List.getElem?_set_ne (by omega), List.getElem?_set_ne (by omega)]; exact q3)
      have e0 := own_froz hown4 (i * 4)
      have e1 := own_froz hw1 (i * 4 + 1)
      have e2 := own_froz hw2 (i * 4 + 2)
      have e3 := own_froz hw3 (i * 4 + 3)
      go_wp2
      refine ⟨⟨i + 1, vs ++ [.slice A4 n4 c4], congrArg (Value.int .i64) (by omega), by omega, by simp [hvs], ?_, ?_⟩, ?_⟩
      · rw [hsucc, toY_succ vs _ (by omega), hvs]
        have hp4 := FmsAt_put (i := i) (by rw [toF_len l hin]; exact hF4) (by rw [toF_len l hin]; exact hp) x (.slice A4 n4 c4) hv (fun b hb => by have := (hvb b hb).1; omega) (fun j z hj hz => ?_)
        · rw [toF_len l hin] at hp4
          exact hp4
        · cases hzb : z.ownBlock with
          | none => cases (Value.slice A4 n4 c4).ownBlock <;> simp
          | some b =>
              refine .inr fun h => ?_
              have h1 := (hvb b h).1
              have h2 := (hlt1 b (.inr ⟨z, List.mem_of_getElem? hz, hzb⟩)).2
              omega
      · exact ((((hB.trans (hB4.mono hB.size)).setCell (Nat.le_refl _) _).setCell (Nat.le_refl _) _).setCell (Nat.le_refl _) _).setCell (Nat.le_refl _) _
      · show l.length - ((i : Int) + 1).toNat < l.length - (i : Int).toNat
        omega
    · have hpi : ¬ (i : Int) < (l.length : Int) := by omega
      have hie : i = l.length := by omega
      subst hie
      go_wp2
      go_ret
      refine ⟨_, _, rfl, ⟨toY vs l.length, ?_⟩, hB⟩
      have he : toF l l.length = l := by simp [toF]
      rwa [he] at hF1
end Go.Proofs.Ytankikbbdfgkbaa
/-
  Shops in memory; laws.toShop, walked by hand.
-/
namespace Go.Proofs.Ytankikbbdfgkbaa
open Go Go.Proofs Go.V Go.RowKit
set_option linter.unusedSimpArgs false
set_option linter.unusedVariables false

theorem own_rep {w : World} {F own F' : Nat → Prop} {z : Nat} {d : D} {y : Value} (h : OwnV w F own z d y) (h1 : ∀ b, F b → F' b) (h2 : ∀ b, own b → F' b) : RepV w F' d y := by
  obtain ⟨l, rfl, hw, ⟨rfl, rfl⟩ | ⟨g, o, c, us, cs, e, rfl, hc, hg, hs, hr, hu, ho⟩⟩ := h
  · exact ⟨none, 0, [], rfl, Nat.le_refl _, RepL_nil.2 rfl, hw, fun h => absurd rfl h⟩
  · exact ⟨_, c, us, rfl, hc, RepL_mono h1 (fun _ _ => rfl) _ _ hr, hw, fun _ => ⟨g, o, rfl, h2 g ho, fun i u hi => by simp [World.cell?, hg, hu i u hi]⟩⟩
theorem rep_fms {w : World} {F : Nat → Prop} : ∀ (l : List Fm) (ys : List Value), ys.length = l.length → (∀ (i : Nat) (x : Fm) (y : Value), l[i]? = some x → ys[i]? = some y → RepV w F (txs x.2.1) y) → RepL w F (l.map fm) (rowsF l ys)
  | [], [], _, _ => RepL_nil.2 rfl
  | x :: l, y :: ys, h, hr => by
    refine RepL_cons.2 ⟨cellsF x y, rowsF l ys, rfl, ?_, rep_fms l ys (by simpa using h) fun i x y hx hy => hr (i + 1) x y hx hy⟩
    have h0 := hr 0 x y rfl rfl
    simp only [RepC, RepL_cons, RepL_nil]
    exact ⟨⟨[_], [_, _, _], rfl, ⟨rfl, rfl⟩, [_], [_, _], rfl, h0, [_], [_], rfl, ⟨rfl, rfl⟩, [_], [], rfl, ⟨rfl, rfl⟩, rfl⟩, rfl⟩
  | [], _ :: _, h, _ => by simp at h
  | _ :: _, [], h, _ => by simp at h
theorem FmsAt.rep {w : World} {B : Nat} {V : Value} {ys : List Value} {l : List Fm} (h : FmsAt w B V ys l) : RepV w (FmS V ys) (fms l) V := by
  have hr : RepL w (FmS V ys) (l.map fm) (rowsF l ys) := rep_fms l ys h.len fun i x y hx hy => own_rep (h.row i x y hx hy) (fun _ h => h.elim) fun b hb => .inr ⟨y, List.mem_of_getElem? hy, hb⟩
  have hw : ∀ d ∈ l.map fm, d.width = 4 := fun d hd => by obtain ⟨x, _, rfl⟩ := List.mem_map.1 hd; rfl
  have ho := h.own
  obtain ⟨h1, ⟨rfl, h2⟩ | ⟨g, cap, cur, rfl, h3, h4, h5, _⟩⟩ := h.own
  · have : l = [] := List.eq_nil_of_length_eq_zero h2
    subst this
    exact ⟨none, 0, _, rfl, Nat.le_refl _, hr, hw, fun h => absurd rfl h⟩
  · refine ⟨_, cap, _, by rw [List.length_map], by rw [List.length_map]; exact h5, hr, hw, fun _ => ⟨g, 0, rfl, .inl rfl, fun i u hi => ?_⟩⟩
    rw [Nat.zero_add]
    exact own_cell ho hi
/-- A shop in memory of its own. -/
structure ShopAt (w : World) (B : Nat) (v Vb Vf : Value) (ys : List Value) (s : Sp) : Prop where
  val : v = .agg #[Vb, Vf, .int .i64 s.2.2.1, .int .i64 s.2.2.2]
  box : OwnV w (fun _ => False) (ownB Vb) 4 (bxs s.1) Vb
  bge : ∀ b, ownB Vb b → B ≤ b
  fms : FmsAt w B Vf ys s.2.1
  dis : ∀ b, ownB Vb b → ¬ FmS Vf ys b
def ShS (Vb Vf : Value) (ys : List Value) : Nat → Prop := fun b => ownB Vb b ∨ FmS Vf ys b
theorem ShopAt.lt {w : World} {B : Nat} {v Vb Vf : Value} {ys : List Value} {s : Sp} (h : ShopAt w B v Vb Vf ys s) : ∀ b, ShS Vb Vf ys b → B ≤ b ∧ b < w.heap.size := by
  rintro b (hb | hb)
  · exact ⟨h.bge b hb, own_lt h.box b hb⟩
  · exact h.fms.lt b hb
theorem ShopAt.keep {w w' : World} {B : Nat} {v Vb Vf : Value} {ys : List Value} {s : Sp} (h : ShopAt w B v Vb Vf ys s) (hk : ∀ b, ShS Vb Vf ys b → w'.heap[b]? = w.heap[b]?) : ShopAt w' B v Vb Vf ys s :=
  ⟨h.val, own_keep h.box fun b hb => hk b (.inl hb), h.bge, h.fms.keep fun b hb => hk b (.inr hb), h.dis⟩
theorem ShopAt.below {w w' : World} {B : Nat} {v Vb Vf : Value} {ys : List Value} {s : Sp} (h : ShopAt w B v Vb Vf ys s) (hk : Below w.heap.size w w') : ShopAt w' B v Vb Vf ys s := h.keep fun b hb => hk.block b (h.lt b hb).2
theorem ShopAt.rep {w : World} {B : Nat} {v Vb Vf : Value} {ys : List Value} {s : Sp} (h : ShopAt w B v Vb Vf ys s) : RepV w (ShS Vb Vf ys) (sp s) v := by
  obtain ⟨rfl, h1, _, h2, _⟩ := h
  refine ⟨[_, _, _, _], rfl, ?_⟩
  have e1 : RepV w (ShS Vb Vf ys) (bxs s.1) Vb := own_rep h1 (fun _ h => h.elim) fun b hb => .inl hb
  have e2 : RepV w (ShS Vb Vf ys) (V.D.arr 4 (s.2.1.map fm)) Vf := RepV_mono (fun b hb => .inr hb) (fun _ _ => rfl) h2.rep
  simp only [RepC, RepL_cons, RepL_nil]
  exact ⟨⟨[_], [_, _, _], rfl, e1, [_], [_, _], rfl, e2, [_], [_], rfl, ⟨rfl, rfl⟩, [_], [], rfl, ⟨rfl, rfl⟩, rfl⟩, rfl⟩
theorem shop_parts {w : World} {F : Nat → Prop} {s : Sp} {v : Value} (h : RepV w F (sp s) v) : ∃ A n c A' n' c', v = .agg #[.slice A n c, .slice A' n' c', .int .i64 s.2.2.1, .int .i64 s.2.2.2] ∧ RepV w F (bxs s.1) (.slice A n c) ∧ RepV w F (V.D.arr 4 (s.2.1.map fm)) (.slice A' n' c') := by
  obtain ⟨vs, rfl, h⟩ := h
  simp only [RepC, RepL_cons, RepL_nil] at h
  obtain ⟨⟨v1, v2, rfl, h1, v3, v4, rfl, h2, v5, v6, rfl, ⟨rfl, _⟩, v7, v8, rfl, ⟨rfl, _⟩, rfl⟩, _⟩ := h
  have h1' := h1
  have h2' := h2
  obtain ⟨A, c, _, rfl, _⟩ := h1
  obtain ⟨A', c', _, rfl, _⟩ := h2
  exact ⟨A, _, c, A', _, c', rfl, by simp only [RepV, RepC]; exact h1', by simp only [RepV, RepC]; exact h2'⟩
theorem calls_to {f : Nat} {z : Nat} {ff : List D → Option Out} {d : D} (he : ∀ args w, (callFunc f args).run Try.prog w = .ok (.enter f args) w) (hm : Meets gl0 Try.prog f { pm := [.dat 2], rm := [.own z 0 false], f := ff }) (hd : ff [d] = some (.ret [d] [])) (hbad : d ≠ .bad) {w : World} {F : Nat → Prop} {y : Value} (hr : RepV w F d y) (hF : ∀ b, F b → b < w.heap.size) :
    Calls Try.prog f #[y] w fun e w' => ∃ A n c, e = .returned (.slice A n c) ∧ OwnV w' (fun _ => False) (ownB (.slice A n c)) z d (.slice A n c) ∧ (∀ b, ownB (.slice A n c) b → w.heap.size ≤ b ∧ b < w'.heap.size) ∧ Below w.heap.size w w' := by
  refine (calls_of_meets' (ow := fun _ => none) (F := F) (ds := [d]) (rs := [d]) (us := []) (args := #[y]) he hm hd gOk_nil
    (show ArgOk w _ _ (.dat 2) d y ∧ True from ⟨.inr hr, trivial⟩) (fun b hb => ⟨hF b hb, rfl⟩) (fun b i h => by cases h)).mono ?_
  rintro e w' ⟨v, rfl, F', R, vs, rfl, hp⟩
  have hl := hp.len
  obtain ⟨u, rfl⟩ := List.length_eq_one_iff.1 (hl.trans rfl)
  have h0 := hp.res 0
  rcases h0 with h0 | h0
  · exact absurd h0 hbad
  obtain ⟨m, e1, h2, h3⟩ := h0
  have hB : Below w.heap.size w w' := ⟨hp.os, hp.tape, hp.output, hp.size, fun b hb => hp.keep b hb rfl⟩
  rcases h3 with ⟨h3, h30⟩ | ⟨g, o, c, us, cs, e, h4, h5, h6, h7, h8, h9, _, h11⟩
  · have h3' : u = .slice none 0 0 := h3
    subst h3'
    exact ⟨_, _, _, rfl, ⟨m, e1, h2, .inl ⟨rfl, h30⟩⟩, (fun b hb => by cases hb), hB⟩
  · have h4' : u = .slice (some ⟨g, o, none⟩) m.length c := h4
    subst h4'
    exact ⟨_, _, _, rfl, ⟨m, e1, h2, .inr ⟨g, o, c, us, cs, e, rfl, h5, h6, h7, RepL_mono (fun b hb => hb.elim) (fun b hb => hb.elim) _ _ h8, h9, rfl⟩⟩, fun b hb => by
      have hb' : g = b := Option.some.inj hb
      subst hb'
      exact ⟨h11, (Array.getElem?_eq_some_iff.1 h6).1⟩, hB⟩
set_option maxRecDepth 100000 in
theorem call_toBoxS (l : List Bx) (h : l.length ≤ 1048576) {w : World} {F : Nat → Prop} {y : Value} (hr : RepV w F (bxs l) y) (hF : ∀ b, F b → b < w.heap.size) :
    Calls Try.prog 32 #[y] w fun e w' => ∃ A n c, e = .returned (.slice A n c) ∧ OwnV w' (fun _ => False) (ownB (.slice A n c)) 4 (bxs l) (.slice A n c) ∧ (∀ b, ownB (.slice A n c) b → w.heap.size ≤ b ∧ b < w'.heap.size) ∧ Below w.heap.size w w' :=
  calls_to (Go.Proofs.enters_of Try.func32 (by kernel_rfl) rfl) M_laws_toBoxS (e_laws_toBoxS l h) (by simp) hr hF
set_option maxHeartbeats 4000000 in
set_option maxRecDepth 1000000 in
theorem toShop_walk (s : Sp) (hs : okSp s) (v0 : Value) (w : World) (F : Nat → Prop) (hr : RepV w F (sp s) v0) (hF : ∀ b, F b → b < w.heap.size) :
    Calls Try.prog 9 #[v0] w fun e w' => ∃ v Vb g cap ys, e = .returned v ∧ ShopAt w' w.heap.size v Vb (.slice (some ⟨g, 0, none⟩) s.2.1.length cap) ys s ∧ Below w.heap.size w w' := by
  obtain ⟨A, n, c, A', n', c', rfl, hb, hf⟩ := shop_parts hr
  go_enter Try.func9, Try.ntmps9
  have hb3 : ∀ a b c, Below w.heap.size w (((w.alloc a).alloc b).alloc c) := fun a b c => (((Below.refl _ w).alloc (Nat.le_refl _) _).alloc (by simp) _).alloc (by simp; omega) _
  have hc1 := fun (a b c : Obj) => call_toBoxS s.1 hs.1.1 (w := ((w.alloc a).alloc b).alloc c) (F := F) (RepV_mono (fun _ h => h) (fun i hi => (hb3 a b c).block i (hF i hi)) hb) (fun i hi => Nat.lt_of_lt_of_le (hF i hi) (hb3 a b c).size)
  go_wp2_with (go_at_call 32; refine (hc1 _ _ _).mono ?_)
  rintro e w4 ⟨bA, bn, bc, rfl, hv, hvb, b4⟩
  have H1 : w4.heap[w.heap.size]? = some (.cells #[.slice A n c, .slice A' n' c', .int .i64 s.2.2.1, .int .i64 s.2.2.2] 25 (0, 0)) := (b4.block _ (by simp; omega)).trans (past_alloc _ (past_alloc _ (at_alloc _ rfl)))
  have H2 : w4.heap[w.heap.size + 1]? = some (.cells #[.slice none 0 0, .slice none 0 0, .int .i64 0, .int .i64 0] 33 (0, 0)) := (b4.block _ (by simp)).trans (past_alloc _ (at_alloc _ (by simp)))
  have H3 : w4.heap[w.heap.size + 1 + 1]? = some (.cells #[.slice none 0 0, .slice none 0 0, .int .i64 0, .int .i64 0] 33 (0, 0)) := (b4.block _ (by simp)).trans (at_alloc _ (by simp))
  have hB4 : Below w.heap.size w w4 := (hb3 _ _ _).trans (b4.mono (hb3 _ _ _).size)
  have hvb4 : ∀ b, ownB (.slice bA bn bc) b → w.heap.size + 1 + 1 < b ∧ b < w4.heap.size := fun b hb => by
    have := hvb b hb
    simp at this
    omega
  have hlt4 : w.heap.size + 1 + 1 < w4.heap.size := by
    have := b4.size
    simp at this
    omega
  clear hc1 hvb b4 hb3
  have f30 := Lib.frozen_of_heap H3 0
  have c30 := Lib.cell_of_heap H3 0
  have H3' := heap_setCell_same _ _ 0 _ _ (.slice bA bn bc) H3
  have H1' : (w4.setCell ⟨w.heap.size + 1 + 1, 0, none⟩ (.slice bA bn bc)).heap[w.heap.size]? = some (.cells #[.slice A n c, .slice A' n' c', .int .i64 s.2.2.1, .int .i64 s.2.2.2] 25 (0, 0)) := (heap_setCell_other _ _ _ _ (by simp; omega)).trans H1
  have H2' : (w4.setCell ⟨w.heap.size + 1 + 1, 0, none⟩ (.slice bA bn bc)).heap[w.heap.size + 1]? = some (.cells #[.slice none 0 0, .slice none 0 0, .int .i64 0, .int .i64 0] 33 (0, 0)) := (heap_setCell_other _ _ _ _ (by simp)).trans H2
  have c11 := Lib.cell_of_heap H1' 1
  simp only [List.getElem?_toArray, List.getElem?_cons_zero, List.getElem?_cons_succ] at c30 c11
  have hB4' : Below w.heap.size w (w4.setCell ⟨w.heap.size + 1 + 1, 0, none⟩ (.slice bA bn bc)) := hB4.setCell (by simp; omega) _
  have hc2 := toFormeS_walk s.2.1 hs.2.1 hs.2.2 (.slice A' n' c') (w4.setCell ⟨w.heap.size + 1 + 1, 0, none⟩ (.slice bA bn bc)) F (RepV_mono (fun _ h => h) (fun i hi => hB4'.block i (hF i hi)) hf) (fun i hi => Nat.lt_of_lt_of_le (hF i hi) hB4'.size)
  go_wp2_with (go_at_call 33; refine hc2.mono ?_)
  rintro e w5 ⟨g, cap, ys, rfl, hF5, b5⟩
  have hv5 := own_keep (w' := w5) hv fun b hb => by
    have h1 := hvb4 b hb
    rw [b5.block b (by simp [World.setCell]; omega), heap_setCell_other _ _ _ _ (by simp; omega)]
  have hsz : (w4.setCell ⟨w.heap.size + 1 + 1, 0, none⟩ (.slice bA bn bc)).heap.size = w4.heap.size := by simp [World.setCell]
  rw [hsz] at hF5 b5
  have hB5 : Below w.heap.size w w5 := hB4'.trans (b5.mono (by omega))
  have K1 := (b5.block _ (by omega)).trans H1'
  have K2 := (b5.block _ (by omega)).trans H2'
  have K3 := (b5.block _ (by omega)).trans H3'
  have hF5lt := hF5.lt
  have hs5 := b5.size
  rw [hsz] at hs5
  clear hc2 H1 H2 H3 H1' H2' H3' hB4 hB4' hv f30 c30 c11 b5 hsz
  simp only [List.setIfInBounds_toArray, List.set_cons_zero] at K3
  have c12 := Lib.cell_of_heap K1 2
  have c13 := Lib.cell_of_heap K1 3
  have c31 := Lib.cell_of_heap K3 1
  have c32 := Lib.cell_of_heap K3 2
  have c33 := Lib.cell_of_heap K3 3
  have f31 := Lib.frozen_of_heap K3 1
  have f32 := Lib.frozen_of_heap K3 2
  have f33 := Lib.frozen_of_heap K3 3
  simp only [List.getElem?_toArray, List.getElem?_cons_zero, List.getElem?_cons_succ] at c12 c13 c31 c32 c33
  have H7 : (((w5.setCell ⟨w.heap.size + 1 + 1, 1, none⟩ (.slice (some ⟨g, 0, none⟩) s.2.1.length cap)).setCell ⟨w.heap.size + 1 + 1, 2, none⟩ (.int .i64 s.2.2.1)).setCell ⟨w.heap.size + 1 + 1, 3, none⟩ (.int .i64 s.2.2.2)).heap[w.heap.size + 1 + 1]? = some (.cells #[.slice bA bn bc, .slice (some ⟨g, 0, none⟩) s.2.1.length cap, .int .i64 s.2.2.1, .int .i64 s.2.2.2] 33 (0, 0)) := by
    rw [heap_setCell_same _ _ _ _ _ _ (heap_setCell_same _ _ _ _ _ _ (heap_setCell_same _ _ _ _ _ _ K3))]
    rfl
  have H72 : (((w5.setCell ⟨w.heap.size + 1 + 1, 1, none⟩ (.slice (some ⟨g, 0, none⟩) s.2.1.length cap)).setCell ⟨w.heap.size + 1 + 1, 2, none⟩ (.int .i64 s.2.2.1)).setCell ⟨w.heap.size + 1 + 1, 3, none⟩ (.int .i64 s.2.2.2)).heap[w.heap.size + 1]? = some (.cells #[.slice none 0 0, .slice none 0 0, .int .i64 0, .int .i64 0] 33 (0, 0)) := by
    rw [heap_setCell_other _ _ _ _ (by simp), heap_setCell_other _ _ _ _ (by simp), heap_setCell_other _ _ _ _ (by simp), K2]
  have B7 : Below w.heap.size w (((w5.setCell ⟨w.heap.size + 1 + 1, 1, none⟩ (.slice (some ⟨g, 0, none⟩) s.2.1.length cap)).setCell ⟨w.heap.size + 1 + 1, 2, none⟩ (.int .i64 s.2.2.1)).setCell ⟨w.heap.size + 1 + 1, 3, none⟩ (.int .i64 s.2.2.2)) :=
    ((hB5.setCell (by simp; omega) _).setCell (by simp; omega) _).setCell (by simp; omega) _
  have S5 : ShopAt w5 w.heap.size (.agg #[.slice bA bn bc, .slice (some ⟨g, 0, none⟩) s.2.1.length cap, .int .i64 s.2.2.1, .int .i64 s.2.2.2]) (.slice bA bn bc) (.slice (some ⟨g, 0, none⟩) s.2.1.length cap) ys s :=
    ⟨rfl, hv5, fun b hb => by have := (hvb4 b hb).1; omega, hF5.base (by omega), fun b hb h => by
      have h1 := (hvb4 b hb).2
      have h2 := (hF5lt b h).1
      omega⟩
  have L5 : ∀ b, ShS (.slice bA bn bc) (.slice (some ⟨g, 0, none⟩) s.2.1.length cap) ys b → w.heap.size + 1 + 1 < b := fun b hb => by
    rcases hb with hb | hb
    · exact (hvb4 b hb).1
    · have := (hF5lt b hb).1
      omega
  have S7 : ShopAt (((w5.setCell ⟨w.heap.size + 1 + 1, 1, none⟩ (.slice (some ⟨g, 0, none⟩) s.2.1.length cap)).setCell ⟨w.heap.size + 1 + 1, 2, none⟩ (.int .i64 s.2.2.1)).setCell ⟨w.heap.size + 1 + 1, 3, none⟩ (.int .i64 s.2.2.2)) w.heap.size (.agg #[.slice bA bn bc, .slice (some ⟨g, 0, none⟩) s.2.1.length cap, .int .i64 s.2.2.1, .int .i64 s.2.2.2]) (.slice bA bn bc) (.slice (some ⟨g, 0, none⟩) s.2.1.length cap) ys s := S5.keep fun b hb => by
    have := L5 b hb
    rw [heap_setCell_other _ _ _ _ (by simp; omega), heap_setCell_other _ _ _ _ (by simp; omega), heap_setCell_other _ _ _ _ (by simp; omega)]
  have d0 := Lib.cell_of_heap H7 0
  have d1 := Lib.cell_of_heap H7 1
  have d2 := Lib.cell_of_heap H7 2
  have d3 := Lib.cell_of_heap H7 3
  have e0 := Lib.cell_of_heap H72 0
  have e1 := Lib.cell_of_heap H72 1
  have e2 := Lib.cell_of_heap H72 2
  have e3 := Lib.cell_of_heap H72 3
  have g0 := Lib.frozen_of_heap H72 0
  have g1 := Lib.frozen_of_heap H72 1
  have g2 := Lib.frozen_of_heap H72 2
  have g3 := Lib.frozen_of_heap H72 3
  simp only [List.getElem?_toArray, List.getElem?_cons_zero, List.getElem?_cons_succ] at d0 d1 d2 d3 e0 e1 e2 e3
  clear hF5lt hv5 hvb4 hF5
  go_wp2
  generalize ((w5.setCell ⟨w.heap.size + 1 + 1, 1, none⟩ (.slice (some ⟨g, 0, none⟩) s.2.1.length cap)).setCell ⟨w.heap.size + 1 + 1, 2, none⟩ (.int .i64 s.2.2.1)).setCell ⟨w.heap.size + 1 + 1, 3, none⟩ (.int .i64 s.2.2.2) = W7 at *
  have H11 : ((((W7.setCell ⟨w.heap.size + 1, 0, none⟩ (.slice bA bn bc)).setCell ⟨w.heap.size + 1, 1, none⟩ (.slice (some ⟨g, 0, none⟩) s.2.1.length cap)).setCell ⟨w.heap.size + 1, 2, none⟩ (.int .i64 s.2.2.1)).setCell ⟨w.heap.size + 1, 3, none⟩ (.int .i64 s.2.2.2)).heap[w.heap.size + 1]? = some (.cells #[.slice bA bn bc, .slice (some ⟨g, 0, none⟩) s.2.1.length cap, .int .i64 s.2.2.1, .int .i64 s.2.2.2] 33 (0, 0)) := by
    rw [heap_setCell_same _ _ _ _ _ _ (heap_setCell_same _ _ _ _ _ _ (heap_setCell_same _ _ _ _ _ _ (heap_setCell_same _ _ _ _ _ _ H72)))]
    rfl
  have d0 := Lib.cell_of_heap H11 0
  have d1 := Lib.cell_of_heap H11 1
  have d2 := Lib.cell_of_heap H11 2
  have d3 := Lib.cell_of_heap H11 3
  simp only [List.getElem?_toArray, List.getElem?_cons_zero, List.getElem?_cons_succ] at d0 d1 d2 d3
  refine bodyPost_ret (by simp [results, Try.results9, go_sem, d0, d1, d2, d3]; try rfl) rfl ?_
  refine ⟨_, _, g, cap, ys, rfl, S7.keep fun b hb => ?_, (((B7.setCell (by simp) _).setCell (by simp) _).setCell (by simp) _).setCell (by simp) _⟩
  have := L5 b hb
  rw [heap_setCell_other _ _ _ _ (by simp; omega), heap_setCell_other _ _ _ _ (by simp; omega), heap_setCell_other _ _ _ _ (by simp; omega), heap_setCell_other _ _ _ _ (by simp; omega)]
end Go.Proofs.Ytankikbbdfgkbaa
/-
  Sizes of shops, numbers marked and held; laws.markShop, walked by hand.
-/
namespace Go.Proofs.Ytankikbbdfgkbaa
open Go Go.Proofs Go.V Go.RowKit
set_option linter.unusedSimpArgs false
set_option linter.unusedVariables false

theorem e_laws_eqIntS (l : List Int) (h : l.length ≤ 1048577) : F_laws_eqIntS [ints l, ints l] = some (.ret [B true] []) := by
  rw [t_laws_eqIntS]
  simp only [lenD_arr, List.length_map, Option.bind_some, bin_neq, decide_true, Bool.not_true, ifD_B, Bool.false_eq_true, if_false]
  refine loop_bind _ (loop_for l.length (fun i => [ints l, ints l, I i]) (.ext 0 []) (fun i hi => ?_) ?_ rfl rfl) ?_
  · have hw : IntKind.i64.wrap ((i : Int) + 1) = (i : Int) + 1 := wrap_id (by omega) (by omega)
    simp -implicitDefEqProofs [hi, hw]
  · simp
  · simp
def marksI (k : Int) (n : Nat) : List Int := (List.range n).map fun (j : Nat) => k + (j : Int)
theorem e_laws_markIntS (l : List Int) (k : Int) (h : l.length ≤ 1048577) (h1 : 0 ≤ k) (h2 : k ≤ 100000000) : F_laws_markIntS [ints l, I k] = some (.ret [I (k + l.length)] [ints (marksI k l.length)]) := by
  rw [t_laws_markIntS]
  refine loop_bind _ (loop_for l.length (fun i => [.arr 1 (markL (fun (j : Nat) => I (k + (j : Int))) (fun n => I n) l i), I (k + i), I i]) (.ext 0 [ints (marksI k l.length), I (k + l.length)]) (fun i hi => ?_) ?_ rfl ?_) ?_
  · have hw : IntKind.i64.wrap ((i : Int) + 1) = (i : Int) + 1 := wrap_id (by omega) (by omega)
    have w1 : IntKind.i64.wrap (k + (i : Int) + 1) = k + (i + 1) := by rw [wrap_id (by omega) (by omega)]; omega
    have hg := markL_get (g := fun (j : Nat) => I (k + (j : Int))) (f := fun n => I n) hi
    have hs := markL_set (g := fun (j : Nat) => I (k + (j : Int))) (f := fun n => I n) hi
    have hl := markL_length (g := fun (j : Nat) => I (k + (j : Int))) (f := fun n => I n) (Nat.le_of_lt hi)
    generalize markL (fun (j : Nat) => I (k + (j : Int))) (fun n => I n) l i = L at *
    have s1 := stD_arr1 (z := 1) (v := .int .i64 (k + i)) hg
    simp [hi, hl, hw, w1, s1]
    exact hs
  · simp [markL_full, marksI]
  · simp [markL_zero (g := fun (j : Nat) => I (k + (j : Int))) (f := fun n => I n)]
  · simp
theorem e_laws_heldIntS (k : Int) (n : Nat) (h : n ≤ 1048577) (h1 : 0 ≤ k) (h2 : k ≤ 100000000) : F_laws_heldIntS [ints (marksI k n), I k] = some (.ret [I (k + n)] []) := by
  rw [t_laws_heldIntS]
  refine loop_bind _ (loop_for n (fun i => [ints (marksI k n), I (k + i), I i]) (.ext 0 [I (k + n)]) (fun i hi => ?_) ?_ rfl ?_) ?_
  · have hw : IntKind.i64.wrap ((i : Int) + 1) = (i : Int) + 1 := wrap_id (by omega) (by omega)
    have w1 : IntKind.i64.wrap (k + (i : Int) + 1) = k + (i + 1) := by rw [wrap_id (by omega) (by omega)]; omega
    simp [marksI, hi, hw, w1]
  · simp [marksI]
  · simp
  · simp
theorem alloc_lt {w : World} (o : Obj) {b : Nat} (h : b < w.heap.size) : (w.alloc o).heap[b]? = w.heap[b]? := (World.grownBy_alloc w o none).block b h (by simp)
def lens : List Fm → Int
  | [] => 0
  | x :: l => x.2.1.length + lens l
theorem lens_nn : ∀ l, 0 ≤ lens l
  | [] => Int.le_refl _
  | x :: l => by have := lens_nn l; simp only [lens]; omega
theorem totF_lens : ∀ l : List Fm, totF l = 3 * l.length + lens l
  | [] => rfl
  | x :: l => by have := totF_lens l; simp only [totF, lens, List.length_cons]; omega
theorem sz_loopT {body : List D → Option Out} {K : Out → Option Out} {R : Option Out → Prop} (l : List Fm) (st : Nat → Int → List D)
    (hs : ∀ (i : Nat) (hi : i < l.length) (m : Int), 0 ≤ m → m ≤ 1048576 → body (st i m) = some (.ret [I (-1)] []) ∨ ∃ m', body (st i m) = some (.nrm (st (i + 1) m')) ∧ 0 ≤ m' ∧ m' + l[i].2.1.length ≤ m)
    (he : ∀ m, body (st l.length m) = some (.ext 0 [I m])) (m0 : Int) (h0 : 0 ≤ m0) (h1 : m0 ≤ 1048576) {s0 : List D} (h : s0 = st 0 m0)
    (hk1 : R (K (.ret [I (-1)] []))) (hk2 : ∀ m, 0 ≤ m → m + lens l ≤ m0 → R (K (.ext 0 [I m]))) : R ((loopC body s0).bind K) := by
  have key : ∀ (n i : Nat) (m : Int), i + n = l.length → 0 ≤ m → m ≤ m0 → ∃ o, Runs body (st i m) o ∧ (o = .ret [I (-1)] [] ∨ ∃ m', o = .ext 0 [I m'] ∧ 0 ≤ m' ∧ m' + lens (l.drop i) ≤ m) := by
    intro n
    induction n with
    | zero =>
      intro i m hi g0 g1
      have : i = l.length := by omega
      subst this
      exact ⟨_, Runs.one (he m) rfl, .inr ⟨m, rfl, g0, by simp [lens]⟩⟩
    | succ n ih =>
      intro i m hi g0 g1
      have hlt : i < l.length := by omega
      rcases hs i hlt m g0 (by omega) with e | ⟨m', e, k0, k1⟩
      · exact ⟨_, Runs.one e rfl, .inl rfl⟩
      · obtain ⟨o, r1, r2⟩ := ih (i + 1) m' (by omega) k0 (by omega)
        refine ⟨o, .nrm e r1, r2.imp_right ?_⟩
        rintro ⟨m2, rfl, q0, q1⟩
        refine ⟨m2, rfl, q0, ?_⟩
        rw [List.drop_eq_getElem_cons hlt, lens]
        omega
  obtain ⟨o, r1, r2⟩ := key l.length 0 m0 (by omega) h0 (Int.le_refl _)
  rw [h, r1.loop]
  rcases r2 with rfl | ⟨m, rfl, g0, g1⟩
  · exact hk1
  · exact hk2 m g0 g1
theorem sz_StringS (l : List ByteArray) (n : Int) (h : l.length ≤ 9223372036854775807 ∧ ∀ x ∈ l, x.size ≤ 9223372036854775807) (h0 : 0 ≤ n) (h1 : n ≤ 1048576) : ∃ m, F_laws_szStringS [txs l, I n] = some (.ret [I m] []) ∧ m ≤ n ∧ (0 ≤ m → m + l.length ≤ n) := by
  have hl := h.1
  rw [t_laws_szStringS]
  have hw : IntKind.i64.wrap (n - l.length) = n - l.length := wrap_id (by omega) (by omega)
  by_cases hn : n - (l.length : Int) < 0
  · exact ⟨-1, by simp -implicitDefEqProofs [hw, hn], by omega, by omega⟩
  simp -implicitDefEqProofs [hw, hn]
  refine sz_loop (R := fun X => ∃ m, X = some (.ret [I m] []) ∧ m ≤ n ∧ (0 ≤ m → m + l.length ≤ n)) l (fun i m => [txs l, I m, I i]) (fun _ => True) (fun i hi m g0 g1 => ?_) (fun m => ?_) (n - l.length) (by omega) (by omega) rfl ?_ (fun m g0 g1 gP => ?_)
  · have hwi : IntKind.i64.wrap ((i : Int) + 1) = (i : Int) + 1 := wrap_id (by omega) (by omega)
    have hs := h.2 l[i] (List.getElem_mem hi)
    have hwm : IntKind.i64.wrap (m - l[i].size) = m - l[i].size := wrap_id (by omega) (by omega)
    by_cases hm : m - (l[i].size : Int) < 0
    · exact .inl (by simp -implicitDefEqProofs [hi, hwm, hm])
    · exact .inr ⟨m - l[i].size, by simp -implicitDefEqProofs [hi, hwm, hm, hwi], by omega, by omega, trivial⟩
  · simp -implicitDefEqProofs
  · exact ⟨-1, by simp -implicitDefEqProofs, by omega, by omega⟩
  · exact ⟨m, by simp -implicitDefEqProofs, by omega, fun _ => by omega⟩
theorem sz_Forme (x : Fm) (n : Int) (h : x.2.1.length ≤ 9223372036854775807 ∧ ∀ c ∈ x.2.1, c.size ≤ 9223372036854775807) (h0 : 0 ≤ n) (h1 : n ≤ 1048576) : ∃ m, F_laws_szForme [fm x, I n] = some (.ret [I m] []) ∧ m ≤ n ∧ (0 ≤ m → m + x.2.1.length ≤ n) := by
  rw [t_laws_szForme]
  obtain ⟨m, e, k1, k2⟩ := sz_StringS x.2.1 n h h0 h1
  by_cases hm : m < 0
  · exact ⟨-1, by simp -implicitDefEqProofs [e, hm], by omega, by omega⟩
  · exact ⟨m, by simp -implicitDefEqProofs [e, hm], k1, k2⟩
theorem sz_FormeS (l : List Fm) (n : Int) (h : l.length ≤ 9223372036854775807 ∧ ∀ x ∈ l, x.2.1.length ≤ 9223372036854775807 ∧ ∀ c ∈ x.2.1, c.size ≤ 9223372036854775807) (h0 : 0 ≤ n) (h1 : n ≤ 1048576) : ∃ m, F_laws_szFormeS [fms l, I n] = some (.ret [I m] []) ∧ m ≤ n ∧ (0 ≤ m → m + l.length + lens l ≤ n) := by
  have hl := h.1
  rw [t_laws_szFormeS]
  have hw : IntKind.i64.wrap (n - l.length) = n - l.length := wrap_id (by omega) (by omega)
  by_cases hn : n - (l.length : Int) < 0
  · exact ⟨-1, by simp -implicitDefEqProofs [hw, hn], by omega, by omega⟩
  simp -implicitDefEqProofs [hw, hn]
  refine sz_loopT (R := fun X => ∃ m, X = some (.ret [I m] []) ∧ m ≤ n ∧ (0 ≤ m → m + l.length + lens l ≤ n)) l (fun i m => [fms l, I m, I i]) (fun i hi m g0 g1 => ?_) (fun m => ?_) (n - l.length) (by omega) (by omega) rfl ?_ (fun m g0 g1 => ?_)
  · have hwi : IntKind.i64.wrap ((i : Int) + 1) = (i : Int) + 1 := wrap_id (by omega) (by omega)
    obtain ⟨m', e, k1, k2⟩ := sz_Forme l[i] m (h.2 _ (List.getElem_mem hi)) g0 g1
    by_cases hm : m' < 0
    · exact .inl (by simp -implicitDefEqProofs [hi, e, hm])
    · exact .inr ⟨m', by simp -implicitDefEqProofs [hi, e, hm, hwi], by omega, k2 (by omega)⟩
  · simp -implicitDefEqProofs
  · exact ⟨-1, by simp -implicitDefEqProofs, by omega, by omega⟩
  · have := lens_nn l
    exact ⟨m, by simp -implicitDefEqProofs, by omega, fun _ => by omega⟩
theorem sz_Shop (s : Sp) (h : inSp s) : ∃ m, F_laws_szShop [sp s, I 1048576] = some (.ret [I m] []) ∧ m ≤ 1048576 ∧ (0 ≤ m → okSp s ∧ totF s.2.1 ≤ 3145728) := by
  obtain ⟨m0, e0, k0, k0'⟩ := e_laws_szShop s h
  refine ⟨m0, e0, k0, fun hm0 => ⟨k0' hm0, ?_⟩⟩
  rw [t_laws_szShop] at e0
  obtain ⟨m1, e1, k1, k2⟩ := e_laws_szBoxS s.1 1048576 h.1 (by omega) (by omega)
  by_cases h1 : m1 < 0
  · simp -implicitDefEqProofs [e1, h1] at e0
    omega
  obtain ⟨m2, e2, g1, g2⟩ := sz_FormeS s.2.1 m1 h.2 (by omega) k1
  by_cases h2 : m2 < 0
  · simp -implicitDefEqProofs [e1, h1, e2, h2] at e0
    omega
  · have := g2 (by omega)
    rw [totF_lens]
    have := lens_nn s.2.1
    omega
/-- The shop with its memory marked. -/
noncomputable def mkS (k : Int) (s : Sp) : Sp := (mksB k s.1.length, mkF (k + 4 * s.1.length) s.2.1, s.2.2.1, s.2.2.2)
set_option maxHeartbeats 4000000 in
set_option maxRecDepth 1000000 in
theorem markShop_walk (s : Sp) (k : Int) (hs : okSp s) (hk : 0 < k) (hK : k + 4 * s.1.length + totF s.2.1 ≤ 1000000000) (w : World) (B g cap : Nat) (v Vb : Value) (ys : List Value) (h : ShopAt w B v Vb (.slice (some ⟨g, 0, none⟩) s.2.1.length cap) ys s) :
    Calls Try.prog 13 #[v, .int .i64 k] w fun e w' => e = .returned (.int .i64 (k + 4 * s.1.length + totF s.2.1)) ∧ ShopAt w' B v Vb (.slice (some ⟨g, 0, none⟩) s.2.1.length cap) ys (mkS k s) ∧ KeptX (ShS Vb (.slice (some ⟨g, 0, none⟩) s.2.1.length cap) ys) w w' := by
  have ht := totF_nn s.2.1
  have hlt := h.lt
  obtain ⟨rfl, hb, hge, hf, hd⟩ := h
  obtain ⟨bA, bn, bc, rfl⟩ := own_slice hb
  go_enter Try.func13, Try.ntmps13
  have hc1 := fun (a : Obj) => call_markBoxS s.1 k (by have := hs.1.1; omega) hk (by omega) (w := w.alloc a) (y := .slice bA bn bc) (own_keep hb fun b h1 => alloc_lt _ (own_lt hb b h1)) (fun b h1 => by have := own_lt hb b h1; simp; omega)
  go_wp2_with (go_at_call 37; refine (hc1 _).mono ?_)
  rintro e w2 ⟨rfl, hb2, hx2⟩
  have H1 : w2.heap[w.heap.size]? = some (.cells #[.slice bA bn bc, .slice (some ⟨g, 0, none⟩) s.2.1.length cap, .int .i64 s.2.2.1, .int .i64 s.2.2.2] 33 (0, 0)) := (hx2.block _ (by simp) fun h1 => by have := own_lt hb _ h1; omega).trans (at_alloc _ rfl)
  have c1 := Lib.cell_of_heap H1 1
  simp only [List.getElem?_toArray, List.getElem?_cons_zero, List.getElem?_cons_succ] at c1
  have hX2 : KeptX (ownB (.slice bA bn bc)) w w2 := by
    refine ⟨hx2.os, hx2.tape, hx2.output, Nat.le_trans (by simp) hx2.size, fun b h1 h2 => (hx2.block b (by simp; omega) h2).trans (alloc_lt _ h1)⟩
  have hf2 := hf.keep (w' := w2) fun b hb1 => hX2.block b (hlt b (.inr hb1)).2 fun h1 => hd b h1 hb1
  have hc2 := markF_walk s.2.1 (k + 4 * s.1.length) (by omega) (by omega) hs.2.1 hs.2.2 w2 B g cap ys hf2
  go_wp2_with (go_at_call 38; refine hc2.mono ?_)
  rintro e w3 ⟨rfl, hf3, hx3⟩
  go_wp2
  go_ret
  refine ⟨rfl, ⟨rfl, own_keep hb2 fun b h1 => hx3.block b (own_lt hb2 b h1) (hd b h1), hge, hf3, hd⟩, (hX2.mono fun b h1 => .inl h1).trans (hx3.mono fun b h1 => .inr h1)⟩
end Go.Proofs.Ytankikbbdfgkbaa
/-
  Calls of what the law of LockedFormes calls.
-/
namespace Go.Proofs.Ytankikbbdfgkbaa
open Go Go.Proofs Go.V Go.RowKit
set_option linter.unusedSimpArgs false
set_option linter.unusedVariables false

theorem len_two {vs : List Value} (h : vs.length = 2) : ∃ a b, vs = [a, b] := match vs, h with
  | [a, b], _ => ⟨a, b, rfl⟩
theorem calls_two {f : Nat} {z : Nat} {ff : List D → Option Out} {a d : D} {b : Value} (he : ∀ args w, (callFunc f args).run Try.prog w = .ok (.enter f args) w) (hm : Meets gl0 Try.prog f { pm := [.dat 2], rm := [.own z 0 false, .dat 0], f := ff }) (hd : ff [a] = some (.ret [d, .v b] [])) (hbad : d ≠ .bad) {w : World} {F : Nat → Prop} {y : Value} (hr : RepV w F a y) (hF : ∀ b, F b → b < w.heap.size) :
    Calls Try.prog f #[y] w fun e w' => ∃ A n c, e = .returned (.tuple #[.slice A n c, b]) ∧ OwnV w' (fun _ => False) (ownB (.slice A n c)) z d (.slice A n c) ∧ (∀ b, ownB (.slice A n c) b → w.heap.size ≤ b ∧ b < w'.heap.size) ∧ Below w.heap.size w w' := by
  refine (calls_of_meets' (ow := fun _ => none) (F := F) (ds := [a]) (rs := [d, .v b]) (us := []) (args := #[y]) he hm hd gOk_nil
    (show ArgOk w _ _ (.dat 2) a y ∧ True from ⟨.inr hr, trivial⟩) (fun b hb => ⟨hF b hb, rfl⟩) (fun b i h => by cases h)).mono ?_
  rintro e w' ⟨v, rfl, F', R, vs, rfl, hp⟩
  have hl := hp.len
  obtain ⟨u, u2, rfl⟩ := len_two (hl.trans rfl)
  have h0 := hp.res 0
  have h1 := hp.res 1
  rcases h0 with h0 | h0
  · exact absurd h0 hbad
  rcases h1 with h1 | h1
  · cases h1
  obtain ⟨hu2, _⟩ := RepV_v.1 h1
  have hu2' : u2 = b := hu2
  subst hu2'
  obtain ⟨m, e1, h2, h3⟩ := h0
  have hB : Below w.heap.size w w' := ⟨hp.os, hp.tape, hp.output, hp.size, fun b hb => hp.keep b hb rfl⟩
  rcases h3 with ⟨h3, h30⟩ | ⟨g, o, c, us, cs, e, h4, h5, h6, h7, h8, h9, _, h11⟩
  · have h3' : u = .slice none 0 0 := h3
    subst h3'
    exact ⟨_, _, _, rfl, ⟨m, e1, h2, .inl ⟨rfl, h30⟩⟩, (fun b hb => by cases hb), hB⟩
  · have h4' : u = .slice (some ⟨g, o, none⟩) m.length c := h4
    subst h4'
    refine ⟨_, _, _, rfl, ⟨m, e1, h2, .inr ⟨g, o, c, us, cs, e, rfl, h5, h6, h7, RepL_mono (fun b hb => hb.elim) (fun b hb => hb.elim) _ _ h8, h9, rfl⟩⟩, fun b hb => ?_, hB⟩
    have hb' : g = b := Option.some.inj hb
    subst hb'
    exact ⟨h11, (Array.getElem?_eq_some_iff.1 h6).1⟩
set_option maxRecDepth 100000 in
theorem call_spec_LockedFormes (s : Sp) (h : okSp s) {w : World} {F : Nat → Prop} {y : Value} (hr : RepV w F (sp s) y) (hF : ∀ b, F b → b < w.heap.size) :
    Calls Try.prog 8 #[y] w fun e w' => ∃ A n c, e = .returned (.tuple #[.slice A n c, .bool (shopOk s)]) ∧ OwnV w' (fun _ => False) (ownB (.slice A n c)) 1 (ints (lckR s)) (.slice A n c) ∧ (∀ b, ownB (.slice A n c) b → w.heap.size ≤ b ∧ b < w'.heap.size) ∧ Below w.heap.size w w' :=
  calls_two (Go.Proofs.enters_of Try.func8 (by kernel_rfl) rfl) M_spec_LockedFormes (e_spec_LockedFormes s h) (by simp) hr hF
set_option maxRecDepth 100000 in
theorem call_impl_LockedFormes (s : Sp) (h : okSp s) {w : World} {F : Nat → Prop} {y : Value} (hr : RepV w F (sp s) y) (hF : ∀ b, F b → b < w.heap.size) :
    Calls Try.prog 10 #[y] w fun e w' => ∃ A n c, e = .returned (.tuple #[.slice A n c, .bool (shopOk s)]) ∧ OwnV w' (fun _ => False) (ownB (.slice A n c)) 1 (ints (lckR s)) (.slice A n c) ∧ (∀ b, ownB (.slice A n c) b → w.heap.size ≤ b ∧ b < w'.heap.size) ∧ Below w.heap.size w w' :=
  calls_two (Go.Proofs.enters_of Try.func10 (by kernel_rfl) rfl) M_impl_LockedFormes (e_impl_LockedFormes s h) (by simp) hr hF
theorem calls_dat2 {f : Nat} {ff : List D → Option Out} {a a' : D} {b : Value} (he : ∀ args w, (callFunc f args).run Try.prog w = .ok (.enter f args) w) (hm : Meets gl0 Try.prog f { pm := [.dat 2, .dat 2], rm := [.dat 0], f := ff }) (hd : ff [a, a'] = some (.ret [.v b] [])) {w : World} {F F' : Nat → Prop} {y y' : Value} (hr : RepV w F a y) (hF : ∀ b, F b → b < w.heap.size) (hr' : RepV w F' a' y') (hF' : ∀ b, F' b → b < w.heap.size) :
    Calls Try.prog f #[y, y'] w fun e w' => e = .returned b ∧ Below w.heap.size w w' :=
  calls_flat1 he hm ff rfl hd rfl gOk_nil
    (show ArgOk w (fun b => F b ∨ F' b) _ (.dat 2) a y ∧ ArgOk w _ _ (.dat 2) a' y' ∧ True from ⟨.inr (RepV_mono (fun _ h => .inl h) (fun _ _ => rfl) hr), .inr (RepV_mono (fun _ h => .inr h) (fun _ _ => rfl) hr'), trivial⟩) (fun b hb => hb.elim (hF b) (hF' b))
theorem calls_dat1 {f : Nat} {ff : List D → Option Out} {a : D} {k : Int} {b : Value} (he : ∀ args w, (callFunc f args).run Try.prog w = .ok (.enter f args) w) (hm : Meets gl0 Try.prog f { pm := [.dat 2, .dat 0], rm := [.dat 0], f := ff }) (hd : ff [a, I k] = some (.ret [.v b] [])) {w : World} {F : Nat → Prop} {y : Value} (hr : RepV w F a y) (hF : ∀ b, F b → b < w.heap.size) :
    Calls Try.prog f #[y, .int .i64 k] w fun e w' => e = .returned b ∧ Below w.heap.size w w' :=
  calls_flat1 he hm ff rfl hd rfl gOk_nil
    (show ArgOk w F _ (.dat 2) a y ∧ ArgOk w _ _ (.dat 0) (I k) (.int .i64 k) ∧ True from ⟨.inr hr, .inr (RepV_v.2 ⟨rfl, rfl⟩), trivial⟩) hF
set_option maxRecDepth 100000 in
theorem call_szShop (s : Sp) (m : Int) (hm : F_laws_szShop [sp s, I 1048576] = some (.ret [I m] [])) {w : World} {F : Nat → Prop} {y : Value} (hr : RepV w F (sp s) y) (hF : ∀ b, F b → b < w.heap.size) :
    Calls Try.prog 7 #[y, .int .i64 1048576] w fun e w' => e = .returned (.int .i64 m) ∧ Below w.heap.size w w' :=
  calls_dat1 (Go.Proofs.enters_of Try.func7 (by kernel_rfl) rfl) M_laws_szShop hm hr hF
set_option maxRecDepth 100000 in
theorem call_eqShop (s : Sp) (h : okSp s) {w : World} {F F' : Nat → Prop} {y y' : Value} (hr : RepV w F (sp s) y) (hF : ∀ b, F b → b < w.heap.size) (hr' : RepV w F' (sp s) y') (hF' : ∀ b, F' b → b < w.heap.size) :
    Calls Try.prog 12 #[y, y'] w fun e w' => e = .returned (.bool true) ∧ Below w.heap.size w w' :=
  calls_dat2 (Go.Proofs.enters_of Try.func12 (by kernel_rfl) rfl) M_laws_eqShop (e_laws_eqShop s h) hr hF hr' hF'
set_option maxRecDepth 100000 in
theorem call_eqIntS (l : List Int) (h : l.length ≤ 1048577) {w : World} {F F' : Nat → Prop} {y y' : Value} (hr : RepV w F (ints l) y) (hF : ∀ b, F b → b < w.heap.size) (hr' : RepV w F' (ints l) y') (hF' : ∀ b, F' b → b < w.heap.size) :
    Calls Try.prog 11 #[y, y'] w fun e w' => e = .returned (.bool true) ∧ Below w.heap.size w w' :=
  calls_dat2 (Go.Proofs.enters_of Try.func11 (by kernel_rfl) rfl) M_laws_eqIntS (e_laws_eqIntS l h) hr hF hr' hF'
set_option maxRecDepth 100000 in
theorem call_heldIntS (k : Int) (n : Nat) (h : n ≤ 1048577) (h1 : 0 ≤ k) (h2 : k ≤ 100000000) {w : World} {F : Nat → Prop} {y : Value} (hr : RepV w F (ints (marksI k n)) y) (hF : ∀ b, F b → b < w.heap.size) :
    Calls Try.prog 15 #[y, .int .i64 k] w fun e w' => e = .returned (.int .i64 (k + n)) ∧ Below w.heap.size w w' :=
  calls_dat1 (Go.Proofs.enters_of Try.func15 (by kernel_rfl) rfl) M_laws_heldIntS (e_laws_heldIntS k n h h1 h2) hr hF
set_option maxRecDepth 100000 in
theorem call_markIntS (l : List Int) (k : Int) (h : l.length ≤ 1048577) (h1 : 0 ≤ k) (h2 : k ≤ 100000000) {w : World} {y : Value} (hy : OwnV w (fun _ => False) (ownB y) 1 (ints l) y) (hb : ∀ b, ownB y b → b < w.heap.size) :
    Calls Try.prog 14 #[y, .int .i64 k] w fun e w' => e = .returned (.int .i64 (k + l.length)) ∧ OwnV w' (fun _ => False) (ownB y) 1 (ints (marksI k l.length)) y ∧ KeptX (ownB y) w w' :=
  calls_mark (Go.Proofs.enters_of Try.func14 (by kernel_rfl) rfl) M_laws_markIntS (e_laws_markIntS l k h h1 h2) hy hb
theorem own_rep' {w : World} {z : Nat} {d : D} {y : Value} (h : OwnV w (fun _ => False) (ownB y) z d y) : RepV w (ownB y) d y := own_rep h (fun _ h => h.elim) fun _ h => h
end Go.Proofs.Ytankikbbdfgkbaa
/-
  Helpers: what a call keeps; a law over one shop.
-/
namespace Go.Proofs.Ytankikbbdfgkbaa
open Go Go.Proofs Go.V Go.RowKit
set_option linter.unusedSimpArgs false
set_option linter.unusedVariables false

theorem OwnV.below {w w' : World} {z : Nat} {d : D} {y : Value} (h : OwnV w (fun _ => False) (ownB y) z d y) (hB : Below w.heap.size w w') : OwnV w' (fun _ => False) (ownB y) z d y := own_keep h fun b hb => hB.block b (own_lt h b hb)
theorem Below.some {w w' : World} {b : Nat} {o : Obj} (hB : Below w.heap.size w w') (h : w.heap[b]? = some o) : w'.heap[b]? = some o := (hB.block b (Array.getElem?_eq_some_iff.1 h).1).trans h
theorem some_lt {w : World} {b : Nat} {o : Obj} (h : w.heap[b]? = some o) : b < w.heap.size := (Array.getElem?_eq_some_iff.1 h).1
theorem below_alloc (w : World) (o : Obj) : Below w.heap.size w (w.alloc o) := (Below.refl _ w).alloc (Nat.le_refl _) _
theorem below_drew (w : World) : Below w.heap.size w w.drew := ⟨rfl, rfl, rfl, Nat.le_refl _, fun _ _ => rfl⟩
theorem bel_on {w w1 w2 : World} {B : Nat} (h : Below B w w1) (k : Below w1.heap.size w1 w2) (hb : B ≤ w1.heap.size) : Below B w w2 := h.trans (k.mono hb)
theorem lckR_len (s : Sp) (h : okSp s) : (lckR s).length ≤ 1048577 := by
  unfold lckR
  have := lck_len s.2.1
  have := h.2.1
  split
  · omega
  · simp
theorem KeptX.some {S : Nat → Prop} {w w' : World} {b : Nat} {o : Obj} (hX : KeptX S w w') (h : w.heap[b]? = some o) (hS : ¬ S b) : w'.heap[b]? = some o := (hX.block b (some_lt h) hS).trans h
theorem OwnV.keptX {S : Nat → Prop} {w w' : World} {z : Nat} {d : D} {y : Value} (h : OwnV w (fun _ => False) (ownB y) z d y) (hX : KeptX S w w') (hS : ∀ b, ownB y b → ¬ S b) : OwnV w' (fun _ => False) (ownB y) z d y := own_keep h fun b hb => hX.block b (own_lt h b hb) (hS b hb)
theorem cells4 {w : World} {b : Nat} {x0 x1 x2 x3 : Value} {t : TypeId} (h : w.heap[b]? = some (.cells #[x0, x1, x2, x3] t (0, 0))) : w.cell? ⟨b, 0, none⟩ = some x0 ∧ w.cell? ⟨b, 1, none⟩ = some x1 ∧ w.cell? ⟨b, 2, none⟩ = some x2 ∧ w.cell? ⟨b, 3, none⟩ = some x3 := by
  refine ⟨?_, ?_, ?_, ?_⟩ <;> rw [Lib.cell_of_heap h] <;> rfl
open Classical in
/-- What a law over one shop answers. -/
noncomputable def fShop (ds : List D) : Option Out := if ∃ s, ds = [sp s] ∧ inSp s then some (.ret [B true] []) else none
theorem fShop_sp {s : Sp} (h : inSp s) : fShop [sp s] = some (.ret [B true] []) := if_pos ⟨s, rfl, h⟩
theorem meets_shop {f : Nat} (he : ∀ args w, (callFunc f args).run Try.prog w = .ok (.enter f args) w)
    (h : ∀ (s : Sp), inSp s → ∀ (v0 : Value) (w : World) (F : Nat → Prop), RepV w F (sp s) v0 → (∀ b, F b → b < w.heap.size) → Calls Try.prog f #[v0] w fun e w' => e = .returned (.bool true) ∧ Below w.heap.size w w') :
    Meets gl0 Try.prog f { pm := [.dat 2], rm := [.dat 0], f := fShop } := by
  refine meets_of_calls he fun ds rs us hd args w F ow hg ha hF _ => ?_
  obtain ⟨d, y, rfl, h2, h3⟩ := args_one ha
  replace hd : fShop [d] = some (.ret rs us) := hd
  unfold fShop at hd
  split at hd
  case isFalse => cases hd
  rename_i hs
  obtain ⟨s, e, hs⟩ := hs
  cases hd
  obtain rfl : d = sp s := by simpa using e
  rcases h3 with h3 | h3
  · cases h3
  obtain rfl : args = #[y] := by
    cases args
    simp only [List.toArray_inj] at h2 ⊢
    exact congrArg List.toArray h2
  refine (h s hs y w F h3 (fun b hb => (hF b hb).1)).mono ?_
  rintro e w' ⟨rfl, hB⟩
  refine ⟨_, rfl, F, fun _ => none, [.bool true], rfl, post_flat hB hF rfl rfl [B true] [.bool true] rfl rfl fun j d hd => ?_⟩
  match j, hd with
  | 0, hd =>
    cases hd
    exact ⟨_, rfl, RepV_v.2 ⟨rfl, rfl⟩⟩
end Go.Proofs.Ytankikbbdfgkbaa
/-
  Rows that grow, one row or a row of rows.
-/
namespace Go.Proofs.Ytankikbbdfgkbaa
open Go Go.Proofs Go.V Go.RowKit
set_option linter.unusedSimpArgs false
set_option linter.unusedVariables false

theorem RepL_flatA {w w' : World} {F F' : Nat → Prop} : ∀ (l : List D) (us : List Value), (∀ d ∈ l, d.isV = true) → RepL w F l us → RepL w' F' l us
  | [], _, _, h => h
  | d :: l, us, hd, h => by
    obtain ⟨v1, v2, rfl, h1, h2⟩ := RepL_cons.1 h
    refine RepL_cons.2 ⟨v1, v2, rfl, ?_, RepL_flatA l v2 (fun e he => hd e (by simp [he])) h2⟩
    have := hd d (by simp)
    cases d with
    | v x =>
      simp only [RepC] at h1 ⊢
      exact h1
    | agg m =>
      simp only [RepC] at h1 ⊢
      exact ⟨RepL_isV m v1 this h1.1, h1.2⟩
    | _ => simp [D.isV] at this
theorem run_append_owned_c {P : Program} (w : World) (base : Nat) (t ty e : TypeId) (i : TypeInfo) (size c : Nat) (ht : P.underlying t = some (.slice e)) (hi : P.info? e = some i)
    (v : Value) (n : Nat) (xs : List Value) (hown : w.ownsRow base e size v n xs) :
    (Builtin.append_ #[t, t] ty #[v, .slice none 0 c]).run P w = .ok v w := by
  rcases hown.2 with ⟨rfl, rfl⟩ | ⟨g, cap, cur, rfl, _, _, hnc, _⟩
  · simp [Builtin.append_, run_underlying ht, sizeOf, typeInfo, hi, Builtin.lenOf, Builtin.firstCells]
  · simp [Builtin.append_, run_underlying ht, sizeOf, typeInfo, hi, Builtin.lenOf, Builtin.firstCells, hnc, storeCells]
/-- 'append' onto a row of its own, whatever slice the source is. -/
theorem wpList_append_anyA {P : Program} (w : World) {ops : Array Oper} {rest : List Oper} {o : Oper} {a : Act} {Q : Exit → Act → World → Prop} (hgd : o.guard = none) (s x : Operand) (t : TypeId)
    (ho : o.op = .call { callee := .builtin .append, args := #[s, x], argTypes := #[t, t] })
    (base : Nat) (e : TypeId) (i : TypeInfo) (z : Value) (size bytes : Nat) (ht : P.underlying t = some (.slice e)) (hi : P.info? e = some i) (hz : i.zero = some z)
    (hsize : i.size = size) (hby : i.bytes = bytes) (hzs : z.cells.size = size) (hsz : 0 < size)
    (v : Value) (n : Nat) (xs : List Value) (hs : a.eval s = v) (hown : w.ownsRow base e size v n xs)
    (A : Option Addr) (m c : Nat) (news : List Value) (hx : a.eval x = .slice A m c) (hl : news.length = m * size) (hA : m ≠ 0 → ∃ g o, A = some ⟨g, o, none⟩ ∧ ∀ j u, news[j]? = some u → w.cell? ⟨g, o + j, none⟩ = some u) (h1 : ∀ u ∈ news, u.oneCell' = true)
    (h63 : n + m ≤ maxLen) (hbytes : (n + m) * bytes ≤ 140737488355328) (hbase : base ≤ w.heap.size)
    (h : ∀ v' w', w'.ownsRow base e size v' (n + m) (xs ++ news) → w.grownBy w' v.ownBlock → (v'.ownBlock = v.ownBlock ∨ v'.ownBlock = some w.heap.size) → wpList P ops Q rest (a.put o.dst v') w') :
    wpList P ops Q (o :: rest) a w := by
  cases A with
  | some ad =>
    refine wpList_append_own_at w hgd s x t ho base e i z size bytes ht hi hz hsize hby hzs hsz v n xs hs hown ad m c news hx hl (fun j u hj => ?_) h1 h63 hbytes hbase fun v' w' h2 h3 _ h5 => h v' w' h2 h3 h5
    have hm : m ≠ 0 := by
      rintro rfl
      have : news = [] := List.eq_nil_of_length_eq_zero (by simpa using hl)
      subst this
      simp at hj
    obtain ⟨g, o, e1, h2⟩ := hA hm
    cases e1
    rw [show (⟨g, o, none⟩ : Addr).add j = ⟨g, o + j, none⟩ by cases j <;> simp [Addr.add]]
    exact h2 j u hj
  | none =>
    have hm : m = 0 := Classical.byContradiction fun hm => by
      obtain ⟨_, _, e1, _⟩ := hA hm
      cases e1
    subst hm
    have hnews : news = [] := List.eq_nil_of_length_eq_zero (by simpa using hl)
    subst hnews
    refine wpList_plain hgd fun K hK' => ?_
    have hrun := run_append_owned_c (P := P) w base t o.type e i size c ht hi v n xs hown
    unfold Oper.wp
    simp [execOp, ho, resolve, invoke, builtin, hs, hx, hrun, Result.andThen]
    exact hK' _ _ (h v w (by simpa using hown) (World.grownBy.refl _ _) (.inl rfl))
/-- What a row of its own holds, as data without memory. -/
theorem own_of_row {w w0 : World} {base : Nat} {e : TypeId} {z n : Nat} {v : Value} {us : List Value} {l : List D} {F : Nat → Prop} (h : w.ownsRow base e z v n us) (hn : l.length = n) (hw : ∀ d ∈ l, d.width = z) (hr : RepL w0 F l us) (hf : ∀ d ∈ l, d.isV = true) :
    OwnV w (fun _ => False) (ownB v) z (.arr z l) v := by
  subst hn
  refine ⟨l, rfl, hw, ?_⟩
  obtain ⟨h1, ⟨rfl, h2⟩ | ⟨g, cap, cur, rfl, h3, h4, h5, h6, h7, h8⟩⟩ := h
  · exact .inl ⟨rfl, List.eq_nil_of_length_eq_zero h2⟩
  · refine .inr ⟨g, 0, cap, us, cur, e, rfl, h5, h4, by omega, RepL_flatA l us hf hr, fun i u hi => ?_, rfl⟩
    have hlt : i < l.length * z := by rw [← h1]; exact (List.getElem?_eq_some_iff.1 hi).1
    rw [← h8, List.getElem?_take, if_pos hlt] at hi
    rw [Nat.zero_add]
    simpa using hi
theorem row_lt {w : World} {base : Nat} {e : TypeId} {z n : Nat} {v : Value} {us : List Value} (h : w.ownsRow base e z v n us) : ∀ b, ownB v b → base ≤ b ∧ b < w.heap.size := by
  intro b hb
  obtain ⟨_, ⟨rfl, _⟩ | ⟨g, cap, cur, rfl, h3, h4, _⟩⟩ := h
  · cases hb
  · have hb' : g = b := Option.some.inj hb
    subst hb'
    exact ⟨h3, (Array.getElem?_eq_some_iff.1 h4).1⟩
theorem row_keep {w w' : World} {base : Nat} {e : TypeId} {z n : Nat} {v : Value} {us : List Value} (h : w.ownsRow base e z v n us) (hk : ∀ b, ownB v b → w'.heap[b]? = w.heap[b]?) : w'.ownsRow base e z v n us := by
  obtain ⟨h1, h2 | ⟨g, cap, cur, rfl, h3, h4, h5⟩⟩ := h
  · exact ⟨h1, .inl h2⟩
  · exact ⟨h1, .inr ⟨g, cap, cur, rfl, h3, (hk g rfl).trans h4, h5⟩⟩
theorem row_slice {w : World} {base : Nat} {e : TypeId} {z n : Nat} {v : Value} {us : List Value} (h : w.ownsRow base e z v n us) : ∃ A m c, v = .slice A m c := by
  obtain ⟨_, ⟨rfl, _⟩ | ⟨g, cap, cur, rfl, _⟩⟩ := h
  · exact ⟨_, _, _, rfl⟩
  · exact ⟨_, _, _, rfl⟩
/-- An empty row that is not nil. -/
theorem row_empty {w : World} {B g : Nat} {e : TypeId} {z : Nat} (h : w.heap[g]? = some (.cells #[] e (0, 0))) (hg : B ≤ g) : w.ownsRow B e z (.slice (some ⟨g, 0, none⟩) 0 0) 0 [] :=
  ⟨by simp, .inr ⟨g, 0, #[], rfl, hg, h, Nat.le_refl _, by unfold maxLen; omega, by simp, by simp⟩⟩
theorem grown_kept {w w' : World} {row : Option Nat} {S : Nat → Prop} (h : w.grownBy w' row) (hS : ∀ b, row = some b → S b) : KeptX S w w' :=
  ⟨h.os, h.tape, h.output, h.size, fun b hb hs => h.block b hb fun e => hs (hS b e.symm)⟩
theorem rowsF_app : ∀ (l m : List Fm) (ys zs : List Value), ys.length = l.length → rowsF (l ++ m) (ys ++ zs) = rowsF l ys ++ rowsF m zs
  | [], _, [], _, _ => rfl
  | x :: l, m, y :: ys, zs, h => by
    simp only [List.cons_append, rowsF, rowsF_app l m ys zs (by simpa using h), List.append_assoc]
  | [], _, _ :: _, _, h => by simp at h
  | _ :: _, _, [], _, h => by simp at h
theorem rowsF_one : ∀ (l : List Fm) (ys : List Value), (∀ y ∈ ys, ∃ A n c, y = .slice A n c) → ∀ u ∈ rowsF l ys, u.oneCell' = true
  | x :: l, y :: ys, h, u, hu => by
    simp only [rowsF, cellsF, List.cons_append, List.nil_append, List.mem_cons] at hu
    rcases hu with rfl | rfl | rfl | rfl | hu
    · rfl
    · obtain ⟨A, n, c, rfl⟩ := h u (by simp)
      rfl
    · rfl
    · rfl
    · exact rowsF_one l ys (fun y hy => h y (by simp [hy])) u hu
  | [], _, _, u, hu => by simp [rowsF] at hu
  | _ :: _, [], _, u, hu => by simp [rowsF] at hu
/-- Formes that lie behind others in a row that grew. -/
theorem FmsAt_app {w w' : World} {B : Nat} {V V' : Value} {ys zs : List Value} {l m : List Fm} (h : FmsAt w B V ys l) (hB : B ≤ w.heap.size)
    (hown : w'.ownsRow B 63 4 V' (l.length + m.length) (rowsF l ys ++ rowsF m zs)) (hg : w.grownBy w' V.ownBlock) (ha : V'.ownBlock = V.ownBlock ∨ V'.ownBlock = some w.heap.size)
    (hlen : zs.length = m.length) (hrow : ∀ (i : Nat) (x : Fm) (y : Value), m[i]? = some x → zs[i]? = some y → OwnV w (fun _ => False) (ownB y) 1 (txs x.2.1) y)
    (hblk : ∀ (i : Nat) (y : Value) (b : Nat), zs[i]? = some y → ownB y b → B ≤ b ∧ b < w.heap.size ∧ ¬ FmS V ys b)
    (hdis : ∀ (i j : Nat) (y z : Value), i ≠ j → zs[i]? = some y → zs[j]? = some z → y.ownBlock = none ∨ y.ownBlock ≠ z.ownBlock) : FmsAt w' B V' (ys ++ zs) (l ++ m) := by
  have hold := h.lt
  have get : ∀ {j : Nat} {y : Value}, (ys ++ zs)[j]? = some y → (j < ys.length ∧ ys[j]? = some y) ∨ (ys.length ≤ j ∧ zs[j - ys.length]? = some y) := fun {j y} hj => by
    by_cases e : j < ys.length
    · rw [List.getElem?_append_left e] at hj
      exact .inl ⟨e, hj⟩
    · rw [List.getElem?_append_right (by omega)] at hj
      exact .inr ⟨by omega, hj⟩
  have k1 : ∀ {j : Nat} {y : Value}, ys[j]? = some y → ∀ b, ownB y b → w'.heap[b]? = w.heap[b]? := fun {j y} hj b hb => hg.block b (hold b (.inr ⟨y, List.mem_of_getElem? hj, hb⟩)).2 fun e => (h.blk j y b hj hb).2 e.symm
  have k2 : ∀ {j : Nat} {y : Value}, zs[j]? = some y → ∀ b, ownB y b → w'.heap[b]? = w.heap[b]? := fun {j y} hj b hb => by
    obtain ⟨_, h2, h3⟩ := hblk j y b hj hb
    exact hg.block b h2 fun e => h3 (.inl e.symm)
  refine ⟨by simp [h.len, hlen], ?_, fun j x y hj hyj => ?_, fun j y b hyj hb => ?_, fun i j y z hij hi hj => ?_⟩
  · rw [List.length_append, rowsF_app _ _ _ _ h.len]
    exact hown
  · rcases get hyj with ⟨e, hy⟩ | ⟨e, hy⟩
    · rw [List.getElem?_append_left (by rw [← h.len]; exact e)] at hj
      exact own_keep (h.row j x y hj hy) (k1 hy)
    · rw [List.getElem?_append_right (by rw [← h.len]; exact e), ← h.len] at hj
      exact own_keep (hrow _ x y hj hy) (k2 hy)
  · rcases get hyj with ⟨e, hy⟩ | ⟨e, hy⟩
    · obtain ⟨h2, h3⟩ := h.blk j y b hy hb
      have h4 := (hold b (.inr ⟨y, List.mem_of_getElem? hy, hb⟩)).2
      refine ⟨h2, fun e1 => ?_⟩
      rcases ha with ha | ha
      · exact h3 (ha.symm.trans e1)
      · rw [ha] at e1
        have := Option.some.inj e1
        omega
    · obtain ⟨h2, h3, h4⟩ := hblk _ y b hy hb
      refine ⟨h2, fun e1 => ?_⟩
      rcases ha with ha | ha
      · exact h4 (.inl (ha.symm.trans e1))
      · rw [ha] at e1
        have := Option.some.inj e1
        omega
  · have sep : ∀ {i j : Nat} {y z : Value}, ys[i]? = some y → zs[j]? = some z → ∀ b, ownB y b → ¬ ownB z b := fun {i j y z} hy hz b hb hb2 => (hblk j z b hz hb2).2.2 (.inr ⟨y, List.mem_of_getElem? hy, hb⟩)
    rcases get hi with ⟨e1, hy⟩ | ⟨e1, hy⟩ <;> rcases get hj with ⟨e2, hz⟩ | ⟨e2, hz⟩
    · exact h.dis i j y z hij hy hz
    · cases hb : y.ownBlock with
      | none => exact .inl rfl
      | some b => exact .inr fun e => sep hy hz b hb e.symm
    · cases hb : y.ownBlock with
      | none => exact .inl rfl
      | some b => exact .inr fun e => sep hz hy b e.symm hb
    · exact hdis _ _ y z (by omega) hy hz
theorem FmsAt_snoc {w w' : World} {B : Nat} {V V' : Value} {ys : List Value} {l : List Fm} {x : Fm} {y : Value} (h : FmsAt w B V ys l) (hB : B ≤ w.heap.size)
    (hown : w'.ownsRow B 63 4 V' (l.length + 1) (rowsF l ys ++ cellsF x y)) (hg : w.grownBy w' V.ownBlock) (ha : V'.ownBlock = V.ownBlock ∨ V'.ownBlock = some w.heap.size)
    (hy : OwnV w (fun _ => False) (ownB y) 1 (txs x.2.1) y) (hb : ∀ b, ownB y b → B ≤ b ∧ ¬ FmS V ys b) : FmsAt w' B V' (ys ++ [y]) (l ++ [x]) := by
  refine FmsAt_app h hB (m := [x]) (zs := [y]) (by simpa [rowsF] using hown) hg ha rfl (fun i x' y' hx hy' => ?_) (fun i y' b hy' hb' => ?_) fun i j y' z hij hi hj => ?_
  · match i, hx, hy' with
    | 0, hx, hy' =>
      cases hx
      cases hy'
      exact hy
  · match i, hy' with
    | 0, hy' =>
      cases hy'
      exact ⟨(hb b hb').1, own_lt hy b hb', (hb b hb').2⟩
  · have h1 := (List.getElem?_eq_some_iff.1 hi).1
    have h2 := (List.getElem?_eq_some_iff.1 hj).1
    simp at h1 h2
    omega
/-- The four cells of a struct that has just been laid. -/
theorem cells4_new {w : World} {g : Nat} {x0 x1 x2 x3 : Value} {t : TypeId} (h : w.heap[g]? = some (.cells #[x0, x1, x2, x3] t (0, 0))) : ∀ (j : Nat) (u : Value), [x0, x1, x2, x3][j]? = some u → w.cell? ⟨g, 0 + j, none⟩ = some u := by
  obtain ⟨h0, h1, h2, h3⟩ := cells4 h
  intro j u hj
  rw [Nat.zero_add]
  match j, hj with
  | 0, hj => cases hj; exact h0
  | 1, hj => cases hj; exact h1
  | 2, hj => cases hj; exact h2
  | 3, hj => cases hj; exact h3
theorem FmsAt_empty {w : World} {B g : Nat} (h : w.heap[g]? = some (.cells #[] 63 (0, 0))) (hg : B ≤ g) : FmsAt w B (.slice (some ⟨g, 0, none⟩) 0 0) [] [] :=
  ⟨rfl, row_empty h hg, fun i x y hx => by simp at hx, fun i y b hy => by simp at hy, fun i j y z _ hi => by simp at hi⟩
theorem FmsAt_nil (w : World) (B : Nat) : FmsAt w B (.slice none 0 0) [] [] :=
  ⟨rfl, ⟨rfl, .inl ⟨rfl, rfl⟩⟩, fun i x y hx => by simp at hx, fun i y b hy => by simp at hy, fun i j y z _ hi => by simp at hi⟩
theorem RepL_one {w : World} {F : Nat → Prop} : ∀ (l : List D) (us : List Value), (∀ d ∈ l, d.single = true ∨ ∃ m, d = .agg m) → RepL w F l us → ∀ u ∈ us, u.oneCell' = true
  | [], us, _, h, u, hu => by
    rw [RepL_nil.1 h] at hu
    simp at hu
  | d :: l, us, hd, h, u, hu => by
    obtain ⟨v1, v2, rfl, h1, h2⟩ := RepL_cons.1 h
    rcases List.mem_append.1 hu with hu | hu
    · rcases hd d (by simp) with hs | ⟨m, rfl⟩
      · obtain ⟨y, rfl, _, h3⟩ := RepC_len d v1 hs h1
        rw [List.mem_singleton.1 hu]
        exact h3
      · simp only [RepC] at h1
        exact ((RepL_single m v1 h1.2 h1.1).2.1 u hu).1
    · exact RepL_one l v2 (fun e he => hd e (by simp [he])) h2 u hu
/-- A row that something is copied from. -/
theorem src_row {w : World} {F : Nat → Prop} {z : Nat} {l : List D} {A : Option Addr} {n c : Nat} (h : RepV w F (.arr z l) (.slice A n c)) (hk : ∀ d ∈ l, d.single = true ∨ ∃ m, d = .agg m) :
    ∃ us, n = l.length ∧ us.length = n * z ∧ RepL w F l us ∧ (∀ d ∈ l, d.width = z) ∧ (∀ u ∈ us, u.oneCell' = true) ∧ (n ≠ 0 → ∃ g o, A = some ⟨g, o, none⟩ ∧ F g ∧ ∀ (j : Nat) (u : Value), us[j]? = some u → w.cell? ⟨g, o + j, none⟩ = some u) := by
  obtain ⟨A', c', us, e, hc, hr, hw, hA⟩ := h
  simp only [List.cons.injEq, and_true, Value.slice.injEq] at e
  obtain ⟨rfl, rfl, rfl⟩ := e
  refine ⟨us, rfl, RepL_length l us hr hw, hr, hw, RepL_one l us hk hr, fun h0 => ?_⟩
  obtain ⟨b, o, e, hF, hcell⟩ := hA (fun e => h0 (by rw [e]; rfl))
  exact ⟨b, o, e, hF, fun j u hj => hcell j u hj⟩
/-- A shop in memory of its own, wherever its rows lie. -/
def ShopV (w : World) (B : Nat) (v : Value) (s : Sp) : Prop := ∃ Vb Vf ys, ShopAt w B v Vb Vf ys s
def FmsV (w : World) (B : Nat) (V : Value) (l : List Fm) : Prop := ∃ ys, FmsAt w B V ys l
end Go.Proofs.Ytankikbbdfgkbaa
/-
  impl.cloneShop, walked by hand.
-/
namespace Go.Proofs.Ytankikbbdfgkbaa
open Go Go.Proofs Go.V Go.RowKit
set_option linter.unusedSimpArgs false
set_option linter.unusedVariables false

/-- A fact that 'simp' does not look into. -/
def Hid (p : Prop) : Prop := p
theorem Hid.out {p : Prop} (h : Hid p) : p := h
theorem set4_same {w' : World} {g : Nat} {y0 y1 y2 y3 : Value} {t : TypeId} (x0 x1 x2 x3 : Value) (h : w'.heap[g]? = some (.cells #[y0, y1, y2, y3] t (0, 0))) : ((((w'.setCell ⟨g, 0, none⟩ x0).setCell ⟨g, 1, none⟩ x1).setCell ⟨g, 2, none⟩ x2).setCell ⟨g, 3, none⟩ x3).heap[g]? = some (.cells #[x0, x1, x2, x3] t (0, 0)) := by
  rw [heap_setCell_same _ _ _ _ _ _ (heap_setCell_same _ _ _ _ _ _ (heap_setCell_same _ _ _ _ _ _ (heap_setCell_same _ _ _ _ _ _ h)))]
  rfl
theorem set4_oth {w' : World} {b g : Nat} (x0 x1 x2 x3 : Value) (hg : g ≠ b) : ((((w'.setCell ⟨g, 0, none⟩ x0).setCell ⟨g, 1, none⟩ x1).setCell ⟨g, 2, none⟩ x2).setCell ⟨g, 3, none⟩ x3).heap[b]? = w'.heap[b]? := by
  rw [heap_setCell_other _ _ _ _ (by simp; omega), heap_setCell_other _ _ _ _ (by simp; omega), heap_setCell_other _ _ _ _ (by simp; omega), heap_setCell_other _ _ _ _ (by simp; omega)]
theorem set4_below {w w' : World} {B g : Nat} (x0 x1 x2 x3 : Value) (h : Below B w w') (hg : B ≤ g) : Below B w ((((w'.setCell ⟨g, 0, none⟩ x0).setCell ⟨g, 1, none⟩ x1).setCell ⟨g, 2, none⟩ x2).setCell ⟨g, 3, none⟩ x3) :=
  (((h.setCell hg _).setCell hg _).setCell hg _).setCell hg _
theorem ShopAt.set4 {w' : World} {B g : Nat} {v Vb Vf : Value} {ys : List Value} {s : Sp} (x0 x1 x2 x3 : Value) (h : ShopAt w' B v Vb Vf ys s) (hg : ∀ b, ShS Vb Vf ys b → g ≠ b) : ShopAt ((((w'.setCell ⟨g, 0, none⟩ x0).setCell ⟨g, 1, none⟩ x1).setCell ⟨g, 2, none⟩ x2).setCell ⟨g, 3, none⟩ x3) B v Vb Vf ys s :=
  h.keep fun b hb => set4_oth _ _ _ _ (hg b hb)
theorem froz4 {w : World} {b : Nat} {cs : Array Value} {t : TypeId} (h : w.heap[b]? = some (.cells cs t (0, 0))) : w.frozen? ⟨b, 0, none⟩ = false ∧ w.frozen? ⟨b, 1, none⟩ = false ∧ w.frozen? ⟨b, 2, none⟩ = false ∧ w.frozen? ⟨b, 3, none⟩ = false :=
  ⟨Lib.frozen_of_heap h 0, Lib.frozen_of_heap h 1, Lib.frozen_of_heap h 2, Lib.frozen_of_heap h 3⟩
theorem info_Box : (Try.prog.info? 85).map (fun i => (i.zero, i.size, i.bytes)) = some (some (.agg #[.string ⟨#[]⟩, .int .i64 0, .int .i64 0, .int .i64 0]), 4, 40) := by kernel_rfl
theorem info_text : (Try.prog.info? 9).map (fun i => (i.zero, i.size, i.bytes)) = some (some (.string ⟨#[]⟩), 1, 16) := by kernel_rfl
theorem bx_kind {l : List Bx} : ∀ d ∈ l.map bx, d.single = true ∨ ∃ m, d = .agg m := fun d hd => by
  obtain ⟨x, _, rfl⟩ := List.mem_map.1 hd
  exact .inr ⟨_, rfl⟩
theorem bx_isV {l : List Bx} : ∀ d ∈ l.map bx, d.isV = true := fun d hd => by
  obtain ⟨x, _, rfl⟩ := List.mem_map.1 hd
  rfl
theorem tx_kind {l : List ByteArray} : ∀ d ∈ l.map T, d.single = true ∨ ∃ m, d = .agg m := fun d hd => by
  obtain ⟨x, _, rfl⟩ := List.mem_map.1 hd
  exact .inl rfl
theorem tx_isV {l : List ByteArray} : ∀ d ∈ l.map T, d.isV = true := fun d hd => by
  obtain ⟨x, _, rfl⟩ := List.mem_map.1 hd
  rfl
theorem fm_kind {l : List Fm} : ∀ d ∈ l.map fm, d.single = true ∨ ∃ m, d = .agg m := fun d hd => by
  obtain ⟨x, _, rfl⟩ := List.mem_map.1 hd
  exact .inr ⟨_, rfl⟩
set_option maxHeartbeats 4000000 in
set_option maxRecDepth 1000000 in
theorem cloneShop_walk (s : Sp) (hs : okSp s) (v0 : Value) (w : World) (F : Nat → Prop) (hr : RepV w F (sp s) v0) (hF : ∀ b, F b → b < w.heap.size) :
    Calls Try.prog 41 #[v0] w fun e w' => ∃ v, e = .returned v ∧ ShopV w' w.heap.size v s ∧ Below w.heap.size w w' := by
  obtain ⟨A, n, c, A', n', c', rfl, hb, hf⟩ := shop_parts hr
  obtain ⟨i0, hi0, hz0, hz1, hz2⟩ := info_parts info_Box
  obtain ⟨us, hn, hul, hus, huw, hu1, huA⟩ := src_row hb bx_kind
  obtain ⟨us2, hn2, hul2, hus2, _, _, huA2⟩ := src_row hf fm_kind
  rw [List.length_map] at hn hn2
  subst hn hn2
  have hbl := hs.1.1
  go_enter Try.func41, Try.ntmps41
  have hb3 : ∀ a b c, Below w.heap.size w (((w.alloc a).alloc b).alloc c) := fun a b c => (((Below.refl _ w).alloc (Nat.le_refl _) _).alloc (by simp) _).alloc (by simp; omega) _
  have hA3 : ∀ a b c, (s.1.length ≠ 0 → ∃ g o, A = some ⟨g, o, none⟩ ∧ ∀ (j : Nat) (u : Value), us[j]? = some u → (((w.alloc a).alloc b).alloc c).cell? ⟨g, o + j, none⟩ = some u) := fun a b c h0 => by
    obtain ⟨g, o, e, hFg, h1⟩ := huA h0
    exact ⟨g, o, e, fun j u hj => (World.cell?_of_block (w := w) ((hb3 a b c).block g (hF g hFg))).trans (h1 j u hj)⟩
  go_wp2_with (at_builtin; refine wpList_append_anyA _ rfl _ _ 30 rfl (w.heap.size + 2) 85 i0 (.agg #[.string ⟨#[]⟩, .int .i64 0, .int .i64 0, .int .i64 0]) 4 40 Try.underlying30 hi0 hz0 hz1 hz2 rfl (by decide) (.slice (some ⟨w.heap.size + 1 + 1, 0, none⟩) 0 0) 0 [] rfl (row_empty (at_alloc _ (by simp)) (by omega)) A s.1.length c us (by simp [go_sem]) hul (hA3 _ _ _) hu1 (by unfold maxLen; omega) (by omega) (by simp) ?_)
  intro v1 w4 hown1 hg1 hat1
  have own1 : OwnV w4 (fun _ => False) (ownB v1) 4 (bxs s.1) v1 := own_of_row hown1 (by simp) huw hus bx_isV
  have hv1 := row_lt hown1
  obtain ⟨A1, n1, c1, rfl⟩ := row_slice hown1
  have H1 : w4.heap[w.heap.size]? = some (.cells #[.slice A s.1.length c, .slice A' s.2.1.length c', .int .i64 s.2.2.1, .int .i64 s.2.2.2] 33 (0, 0)) := (hg1.block _ (by simp; omega) (by simp [Value.ownBlock]; omega)).trans (past_alloc _ (past_alloc _ (at_alloc _ rfl)))
  have H2 : w4.heap[w.heap.size + 1]? = some (.cells #[.slice none 0 0, .slice none 0 0, .int .i64 0, .int .i64 0] 33 (0, 0)) := (hg1.block _ (by simp) (by simp [Value.ownBlock])).trans (past_alloc _ (at_alloc _ (by simp)))
  have B4 : Below w.heap.size w w4 := (hb3 _ _ _).grown hg1 (by simp; omega) (fun k hk => by have : w.heap.size + 1 + 1 = k := Option.some.inj hk; omega)
  have S4 : w.heap.size + 1 + 1 < w4.heap.size := by have := hg1.size; simp at this; omega
  have f10 := Lib.frozen_of_heap H1 0
  have c10 := Lib.cell_of_heap H1 0
  simp only [List.getElem?_toArray, List.getElem?_cons_zero, List.getElem?_cons_succ] at c10
  have H1' := past_alloc (.cells #[] 63) (heap_setCell_same _ _ 0 _ _ (.slice A1 n1 c1) H1)
  have H2' := past_alloc (.cells #[] 63) ((heap_setCell_other w4 ⟨w.heap.size, 0, none⟩ (w.heap.size + 1) (.slice A1 n1 c1) (by simp)).trans H2)
  simp only [List.setIfInBounds_toArray, List.set_cons_zero] at H1'
  have own5 := own_keep (w' := (w4.setCell ⟨w.heap.size, 0, none⟩ (.slice A1 n1 c1)).alloc (.cells #[] 63)) own1 fun b hb => by
    have := hv1 b hb
    rw [alloc_lt _ (by simp [World.setCell]; omega), heap_setCell_other _ _ _ _ (by simp; omega)]
  have B5 : Below w.heap.size w ((w4.setCell ⟨w.heap.size, 0, none⟩ (.slice A1 n1 c1)).alloc (.cells #[] 63)) := (B4.setCell (by simp) _).alloc (by simp [World.setCell]; omega) _
  have S5 : ((w4.setCell ⟨w.heap.size, 0, none⟩ (.slice A1 n1 c1)).alloc (.cells #[] 63)).heap.size = w4.heap.size + 1 := by simp [World.setCell]
  have HF : FmsAt ((w4.setCell ⟨w.heap.size, 0, none⟩ (.slice A1 n1 c1)).alloc (.cells #[] 63)) w4.heap.size (.slice (some ⟨w4.heap.size, 0, none⟩) 0 0) [] [] := FmsAt_empty (at_alloc _ (by simp [World.setCell])) (Nat.le_refl _)
  have c11 := (cells4 H1').2.1
  go_wp2
  generalize (w4.setCell ⟨w.heap.size, 0, none⟩ (.slice A1 n1 c1)).alloc (.cells #[] 63) = w5 at *
  clear H1 H2 f10 c10 hg1 hat1 hown1 own1 B4 hA3 huA hus hul hu1 huw hb hb3
  obtain ⟨i1, hi1, hy0, hy1, hy2⟩ := info_parts info_text
  obtain ⟨i2, hi2, hx0, hx1, hx2⟩ := info_parts info_Forme
  have hln := hs.2.1
  go_loopw [3, 15] (fun vf vi wr => ∃ i : Nat, vi = .int .i64 i ∧ i ≤ s.2.1.length ∧ FmsV wr w4.heap.size vf (s.2.1.take i) ∧ Below w4.heap.size w5 wr) (fun _ vi _ => s.2.1.length - (intOf vi).toNat)
  case atStart =>
    exact ⟨0, rfl, Nat.zero_le _, ⟨[], by simpa using HF⟩, Below.refl _ _⟩
  case round =>
    obtain ⟨i, rfl, hin, ⟨ys, hFr⟩, hBr⟩ := hrel
    have hsz := hBr.size
    by_cases hp : i < s.2.1.length
    · have hpi : (i : Int) < (s.2.1.length : Int) := by omega
      have hBw : Below w.heap.size w wr := B5.trans (hBr.mono (by omega))
      obtain ⟨b, o, rfl, hFb, hcell⟩ := huA2 (by omega)
      obtain ⟨Ax, nx, cx, u0, u1, u2, u3, hry⟩ := fm_cells hus2 hp
      have hcb : ∀ {k : Nat} {u : Value}, us2[k]? = some u → wr.cell? ⟨b, o + k, none⟩ = some u := fun {k u} hu => (World.cell?_of_block (w := w) (hBw.block b (hF b hFb))).trans (hcell k u hu)
      have k0 := hcb u0
      have k1 := hcb u1
      have k2 := hcb u2
      have k3 := hcb u3
      simp only [← Nat.add_assoc] at k1 k2 k3
      have hxl := hs.2.2 s.2.1[i] (List.getElem_mem hp)
      have htk := List.take_succ_eq_append_getElem hp
      generalize s.2.1[i] = x at *
      obtain ⟨ux, hnx, hxl2, hux, hxw, hx1c, hxA⟩ := src_row hry tx_kind
      rw [List.length_map] at hnx
      subst hnx
      have hxA' : ∀ p q, (x.2.1.length ≠ 0 → ∃ g o, Ax = some ⟨g, o, none⟩ ∧ ∀ (j : Nat) (u : Value), ux[j]? = some u → ((wr.alloc p).alloc q).cell? ⟨g, o + j, none⟩ = some u) := fun p q h0 => by
        obtain ⟨g, o, e, hFg, h1⟩ := hxA h0
        exact ⟨g, o, e, fun j u hj => (World.cell?_of_block (w := w) (((hBw.alloc (by omega) _).alloc (by simp; omega) _).block g (hF g hFg))).trans (h1 j u hj)⟩
      obtain ⟨Vg, Vn, Vc, rfl⟩ := row_slice hFr.own
      go_wp2_with (at_builtin; refine wpList_append_anyA _ rfl _ _ 61 rfl (wr.heap.size + 1) 9 i1 (.string ⟨#[]⟩) 1 16 Try.underlying61 hi1 hy0 hy1 hy2 rfl (by decide) (.slice (some ⟨wr.heap.size + 1, 0, none⟩) 0 0) 0 [] rfl (row_empty (at_alloc _ (by simp)) (by omega)) Ax x.2.1.length cx ux (by simp [go_sem]) hxl2 (hxA' _ _) hx1c (by unfold maxLen; omega) (by omega) (by simp) ?_)
      intro v2 w6 hown2 hg2 hat2
      have own2 : OwnV w6 (fun _ => False) (ownB v2) 1 (txs x.2.1) v2 := own_of_row hown2 (by simp) hxw hux tx_isV
      have hv2 := row_lt hown2
      obtain ⟨A2, n2, c2, rfl⟩ := row_slice hown2
      have G1 : w6.heap[wr.heap.size]? = some (.cells #[.int .i64 x.1, .slice Ax x.2.1.length cx, .bool x.2.2.1, .int .i64 x.2.2.2] 63 (0, 0)) := (hg2.block _ (by simp; omega) (by simp [Value.ownBlock])).trans (past_alloc _ (at_alloc _ rfl))
      have b6 : Below wr.heap.size wr w6 := (((Below.refl _ wr).alloc (Nat.le_refl _) _).alloc (by simp) _).grown hg2 (by simp; omega) (fun k hk => by have : wr.heap.size + 1 = k := Option.some.inj hk; omega)
      have S6 : wr.heap.size + 1 < w6.heap.size := by have := hg2.size; simp at this; omega
      have fg1 := Lib.frozen_of_heap G1 1
      have cg1 := (cells4 G1).2.1
      have G2 : (w6.setCell ⟨wr.heap.size, 1, none⟩ (.slice A2 n2 c2)).heap[wr.heap.size]? = some (.cells #[.int .i64 x.1, .slice A2 n2 c2, .bool x.2.2.1, .int .i64 x.2.2.2] 63 (0, 0)) := heap_setCell_same _ _ 1 _ _ (.slice A2 n2 c2) G1
      obtain ⟨e0, e1, e2, e3⟩ := cells4 G2
      have b8 : Below wr.heap.size wr ((w6.setCell ⟨wr.heap.size, 1, none⟩ (.slice A2 n2 c2)).alloc (.cells #[.int .i64 x.1, .slice A2 n2 c2, .bool x.2.2.1, .int .i64 x.2.2.2] 63)) := (b6.setCell (Nat.le_refl _) _).alloc (by simp [World.setCell]; omega) _
      have hFlt := hFr.lt
      have hF8 := hFr.keep (w' := (w6.setCell ⟨wr.heap.size, 1, none⟩ (.slice A2 n2 c2)).alloc (.cells #[.int .i64 x.1, .slice A2 n2 c2, .bool x.2.2.1, .int .i64 x.2.2.2] 63)) fun b hb => b8.block b (hFlt b hb).2
      have own8 := own_keep (w' := (w6.setCell ⟨wr.heap.size, 1, none⟩ (.slice A2 n2 c2)).alloc (.cells #[.int .i64 x.1, .slice A2 n2 c2, .bool x.2.2.1, .int .i64 x.2.2.2] 63)) own2 fun b hb => by
        have := hv2 b hb
        rw [alloc_lt _ (by simp [World.setCell]; omega), heap_setCell_other _ _ _ _ (by simp; omega)]
      have hl8 : (s.2.1.take i).length = i := by rw [List.length_take]; omega
      have S8 : w4.heap.size ≤ ((w6.setCell ⟨wr.heap.size, 1, none⟩ (.slice A2 n2 c2)).alloc (.cells #[.int .i64 x.1, .slice A2 n2 c2, .bool x.2.2.1, .int .i64 x.2.2.2] 63)).heap.size := by simp [World.setCell]; omega
      go_wp2_with (at_builtin; refine wpList_append_anyA _ rfl _ _ 31 rfl w4.heap.size 63 i2 (.agg #[.int .i64 0, .slice none 0 0, .bool false, .int .i64 0]) 4 48 Try.underlying31 hi2 hx0 hx1 hx2 rfl (by decide) (.slice Vg Vn Vc) _ _ rfl hF8.own (some ⟨w6.heap.size, 0, none⟩) 1 1 [.int .i64 x.1, .slice A2 n2 c2, .bool x.2.2.1, .int .i64 x.2.2.2] (by simp [go_sem]) rfl (fun _ => ⟨_, _, rfl, cells4_new (at_alloc _ (by simp [World.setCell]))⟩) (by intro u hu; simp at hu; rcases hu with rfl | rfl | rfl | rfl <;> rfl) (by unfold maxLen; omega) (by omega) S8 ?_)
      intro v3 w9 hown9 hg9 hat9
      have hF9 := FmsAt_snoc (x := x) (y := .slice A2 n2 c2) hF8 S8 (by rw [hl8]; exact hown9) hg9 (by simpa [World.setCell] using hat9) own8 (fun b hb => ⟨by have := (hv2 b hb).1; omega, fun h => by have := (hv2 b hb).1; have := (hFlt b h).2; omega⟩)
      rw [← htk] at hF9
      have hB9 : Below w4.heap.size w5 w9 := (hBr.trans (b8.mono (by omega))).grown hg9 S8 (fun k hk => (hFlt k (.inl hk)).1)
      go_wp2
      refine ⟨⟨i + 1, congrArg (Value.int .i64) (by omega), by omega, ⟨_, hF9⟩, hB9⟩, ?_⟩
      show s.2.1.length - ((i : Int) + 1).toNat < s.2.1.length - (i : Int).toNat
      omega
    · have hpi : ¬ (i : Int) < (s.2.1.length : Int) := by omega
      have hie : i = s.2.1.length := by omega
      subst hie
      rw [List.take_length] at hFr
      have hFlt := hFr.lt
      obtain ⟨Vg, Vn, Vc, rfl⟩ := row_slice hFr.own
      have hBw : Below w.heap.size w wr := B5.trans (hBr.mono (by omega))
      have K1 := (hBr.block _ (by omega)).trans H1'
      have K2 := (hBr.block _ (by omega)).trans H2'
      have own9 := own_keep (w' := wr) own5 fun b hb => hBr.block b (hv1 b hb).2
      have f1 := Lib.frozen_of_heap K1 1
      have ck1 := (cells4 K1).2.1
      have K3 : (wr.setCell ⟨w.heap.size, 1, none⟩ (.slice Vg Vn Vc)).heap[w.heap.size]? = some (.cells #[.slice A1 n1 c1, .slice Vg Vn Vc, .int .i64 s.2.2.1, .int .i64 s.2.2.2] 33 (0, 0)) := heap_setCell_same _ _ 1 _ _ (.slice Vg Vn Vc) K1
      have K4 : (wr.setCell ⟨w.heap.size, 1, none⟩ (.slice Vg Vn Vc)).heap[w.heap.size + 1]? = some (.cells #[.slice none 0 0, .slice none 0 0, .int .i64 0, .int .i64 0] 33 (0, 0)) := (heap_setCell_other _ _ _ _ (by simp)).trans K2
      obtain ⟨d0, d1, d2, d3⟩ := cells4 K3
      obtain ⟨e0, e1, e2, e3⟩ := cells4 K4
      have g0 := Lib.frozen_of_heap K4 0
      have g1 := Lib.frozen_of_heap K4 1
      have g2 := Lib.frozen_of_heap K4 2
      have g3 := Lib.frozen_of_heap K4 3
      have hS : ShopAt wr w.heap.size (.agg #[.slice A1 n1 c1, .slice Vg Vn Vc, .int .i64 s.2.2.1, .int .i64 s.2.2.2]) (.slice A1 n1 c1) (.slice Vg Vn Vc) ys s :=
        ⟨rfl, own9, fun b hb => by have := (hv1 b hb).1; omega, hFr.base (by omega), fun b hb h => by have := (hv1 b hb).2; have := (hFlt b h).1; omega⟩
      have hL : ∀ b, ShS (.slice A1 n1 c1) (.slice Vg Vn Vc) ys b → w.heap.size + 1 < b := fun b hb => by
        rcases hb with hb | hb
        · have := (hv1 b hb).1
          omega
        · have := (hFlt b hb).1
          omega
      have hS1 := hS.keep (w' := wr.setCell ⟨w.heap.size, 1, none⟩ (.slice Vg Vn Vc)) fun b hb => heap_setCell_other _ _ _ _ (by have := hL b hb; simp; omega)
      have hB1 : Below w.heap.size w (wr.setCell ⟨w.heap.size, 1, none⟩ (.slice Vg Vn Vc)) := hBw.setCell (by simp) _
      go_wp2
      generalize wr.setCell ⟨w.heap.size, 1, none⟩ (.slice Vg Vn Vc) = W7 at *
      have H11 : ((((W7.setCell ⟨w.heap.size + 1, 0, none⟩ (.slice A1 n1 c1)).setCell ⟨w.heap.size + 1, 1, none⟩ (.slice Vg Vn Vc)).setCell ⟨w.heap.size + 1, 2, none⟩ (.int .i64 s.2.2.1)).setCell ⟨w.heap.size + 1, 3, none⟩ (.int .i64 s.2.2.2)).heap[w.heap.size + 1]? = some (.cells #[.slice A1 n1 c1, .slice Vg Vn Vc, .int .i64 s.2.2.1, .int .i64 s.2.2.2] 33 (0, 0)) := by
        rw [heap_setCell_same _ _ _ _ _ _ (heap_setCell_same _ _ _ _ _ _ (heap_setCell_same _ _ _ _ _ _ (heap_setCell_same _ _ _ _ _ _ K4)))]
        rfl
      obtain ⟨d0, d1, d2, d3⟩ := cells4 H11
      refine bodyPost_ret (by simp [results, Try.results41, go_sem, d0, d1, d2, d3]; try rfl) rfl ?_
      refine ⟨_, rfl, ⟨_, _, ys, hS1.keep fun b hb => ?_⟩, (((hB1.setCell (by simp) _).setCell (by simp) _).setCell (by simp) _).setCell (by simp) _⟩
      have := hL b hb
      rw [heap_setCell_other _ _ _ _ (by simp; omega), heap_setCell_other _ _ _ _ (by simp; omega), heap_setCell_other _ _ _ _ (by simp; omega), heap_setCell_other _ _ _ _ (by simp; omega)]
end Go.Proofs.Ytankikbbdfgkbaa
/-
  Contexts and contracts of functions, printed by gen.py.
-/
namespace Go.Proofs.Ytankikbbdfgkbaa
open Go.V
set_option maxRecDepth 100000
@[reducible] def ty43 : TI := { agg := true, n := 4, zero := [.v (.int .i64 0), .v (.int .i64 0), .v (.string ⟨#[]⟩), .v (.int .i64 0)], fs := [(0, 3), (1, 3), (2, 9), (3, 3)], eq := [1, 1, 3, 1] }
@[reducible] def ty46 : TI := { agg := true, n := 4, zero := [.v (.int .i64 0), .v (.int .i64 0), .v (.string ⟨#[]⟩), .v (.int .i64 0)], fs := [(0, 3), (1, 3), (2, 9), (3, 3)], eq := [1, 1, 3, 1] }
@[reducible] def ty49 : TI := { n := 1, zero := [.arr 4 []], elem := 43, ez := 4, eb := 40 }
@[reducible] def ty53 : TI := { n := 1, zero := [.arr 4 []], elem := 46, ez := 4, eb := 40 }
@[reducible] def ty111 : TI := { n := 1, zero := [.arr 2 []], elem := 113, ez := 2, eb := 24 }
@[reducible] def ty113 : TI := { agg := true, n := 2, zero := [.v (.string ⟨#[]⟩), .v (.int .i64 0)], fs := [(0, 9), (1, 3)], eq := [3, 1] }
/-- loop.example/g01054/impl.changed -/
@[reducible] noncomputable def c_impl_changed : Cx := { K := [.dat 2, .dat 2, .dat 0, .no, .no, .no, .own 4 0 false, .dat 0, .own 4 0 false, .no, .dat 0, .dat 2, .dat 2, .dat 0, .dat 0, .own 4 0 false, .own 4 0 false, .dat 2, .own 4 0 false, .dat 2, .dat 0, .dat 0, .dat 0, .dat 2, .dat 0, .via 8, .dat 2, .dat 0, .dat 0, .ref 8, .ref 8, .dat 0, .dat 0, .dat 0, .ref 8, .ref 8, .dat 0, .via 8, .dat 0, .dat 0, .own 4 0 false, .own 4 0 false], T := [(3, ty3), (9, ty9), (30, ty30), (61, ty61), (85, ty85)], S := [(58, S_impl_IsCase), (77, S_impl_areCodes), (81, S_impl_boxAt)], H := [(0, ([0, 2, 8, 19, 20, 21], [8]))], res := [.tmp 6, .tmp 7], ios := [], G := gl0 }
noncomputable def F_impl_changed : List D → Option Out := denF c_impl_changed Try.f65
@[reducible] noncomputable def S_impl_changed : FS := { pm := [.dat 2, .dat 2, .dat 0], rm := [.own 4 0 false, .dat 0], f := F_impl_changed }
theorem M_impl_changed : Meets gl0 Try.prog 65 S_impl_changed := meets_of (P := Try.prog) (c := c_impl_changed) (fn := Try.f65) (pm := S_impl_changed.pm) (rm := S_impl_changed.rm) (by kernel_rfl) (lookCons M_impl_IsCase (lookCons M_impl_areCodes (lookCons M_impl_boxAt lookNil))) follows_mixed Try.func65 (by kernel_rfl) (by kernel_rfl) rfl
/-- loop.example/g01054/impl.PutTypes -/
@[reducible] noncomputable def c_impl_PutTypes : Cx := { K := [.dat 2, .dat 2, .no, .no, .own 4 0 false, .dat 0, .dat 2, .dat 2, .tup [.own 4 0 false, .dat 0], .own 4 0 false, .dat 0], T := [(30, ty30)], S := [(65, S_impl_changed)], H := [], res := [.tmp 4, .tmp 5], ios := [], G := gl0 }
noncomputable def F_impl_PutTypes : List D → Option Out := denF c_impl_PutTypes Try.f42
@[reducible] noncomputable def S_impl_PutTypes : FS := { pm := [.dat 2, .dat 2], rm := [.own 4 0 false, .dat 0], f := F_impl_PutTypes }
theorem M_impl_PutTypes : Meets gl0 Try.prog 42 S_impl_PutTypes := meets_of (P := Try.prog) (c := c_impl_PutTypes) (fn := Try.f42) (pm := S_impl_PutTypes.pm) (rm := S_impl_PutTypes.rm) (by kernel_rfl) (lookCons M_impl_changed lookNil) follows_mixed Try.func42 (by kernel_rfl) (by kernel_rfl) rfl
/-- loop.example/g01054/impl.TakeTypes -/
@[reducible] noncomputable def c_impl_TakeTypes : Cx := { K := [.dat 2, .dat 2, .no, .no, .own 4 0 false, .dat 0, .dat 2, .dat 2, .tup [.own 4 0 false, .dat 0], .own 4 0 false, .dat 0], T := [(30, ty30)], S := [(65, S_impl_changed)], H := [], res := [.tmp 4, .tmp 5], ios := [], G := gl0 }
noncomputable def F_impl_TakeTypes : List D → Option Out := denF c_impl_TakeTypes Try.f87
@[reducible] noncomputable def S_impl_TakeTypes : FS := { pm := [.dat 2, .dat 2], rm := [.own 4 0 false, .dat 0], f := F_impl_TakeTypes }
theorem M_impl_TakeTypes : Meets gl0 Try.prog 87 S_impl_TakeTypes := meets_of (P := Try.prog) (c := c_impl_TakeTypes) (fn := Try.f87) (pm := S_impl_TakeTypes.pm) (rm := S_impl_TakeTypes.rm) (by kernel_rfl) (lookCons M_impl_changed lookNil) follows_mixed Try.func87 (by kernel_rfl) (by kernel_rfl) rfl
/-- loop.example/g01054/laws.heldFormeS -/
@[reducible] noncomputable def c_laws_heldFormeS : Cx := { K := [.dat 2, .dat 0, .no, .no, .dat 0, .dat 0, .dat 0, .dat 2, .dat 0, .dat 0, .dat 0, .dat 0, .dat 2, .dat 0, .dat 2, .dat 2, .dat 0, .dat 0, .dat 0, .dat 0, .dat 0, .dat 2, .dat 0, .dat 2, .dat 2, .dat 2, .dat 0, .dat 0, .dat 0, .dat 0, .dat 2, .dat 0, .dat 2, .dat 2, .dat 0, .dat 0, .dat 0, .dat 0, .dat 0, .dat 0, .dat 0, .dat 2, .dat 0, .dat 2, .dat 2, .dat 0, .dat 0, .dat 0, .dat 0, .dat 0, .dat 0], T := [(3, ty3), (4, ty4), (9, ty9), (31, ty31), (61, ty61), (63, ty63)], S := [(66, S_laws_heldStringS)], H := [(0, ([0, 1, 5], [1]))], res := [.tmp 4], ios := [], G := gl0 }
noncomputable def F_laws_heldFormeS : List D → Option Out := denF c_laws_heldFormeS Try.f44
@[reducible] noncomputable def S_laws_heldFormeS : FS := { pm := [.dat 2, .dat 0], rm := [.dat 0], f := F_laws_heldFormeS }
theorem M_laws_heldFormeS : Meets gl0 Try.prog 44 S_laws_heldFormeS := meets_of (P := Try.prog) (c := c_laws_heldFormeS) (fn := Try.f44) (pm := S_laws_heldFormeS.pm) (rm := S_laws_heldFormeS.rm) (by kernel_rfl) (lookCons M_laws_heldStringS lookNil) follows_mixed Try.func44 (by kernel_rfl) (by kernel_rfl) rfl
/-- loop.example/g01054/laws.heldShop -/
@[reducible] noncomputable def c_laws_heldShop : Cx := { K := [.dat 2, .dat 0, .box 4 2 false, .no, .dat 0, .ref 2, .dat 2, .dat 0, .dat 0, .dat 0, .dat 0, .ref 2, .dat 2, .dat 0, .dat 0, .dat 0, .dat 0, .dat 0], T := [(3, ty3), (30, ty30), (31, ty31), (33, ty33), (63, ty63), (85, ty85)], S := [(43, S_laws_heldBoxS), (44, S_laws_heldFormeS)], H := [], res := [.tmp 4], ios := [], G := gl0 }
noncomputable def F_laws_heldShop : List D → Option Out := denF c_laws_heldShop Try.f18
@[reducible] noncomputable def S_laws_heldShop : FS := { pm := [.dat 2, .dat 0], rm := [.dat 0], f := F_laws_heldShop }
theorem M_laws_heldShop : Meets gl0 Try.prog 18 S_laws_heldShop := meets_of (P := Try.prog) (c := c_laws_heldShop) (fn := Try.f18) (pm := S_laws_heldShop.pm) (rm := S_laws_heldShop.rm) (by kernel_rfl) (lookCons M_laws_heldBoxS (lookCons M_laws_heldFormeS lookNil)) follows_mixed Try.func18 (by kernel_rfl) (by kernel_rfl) rfl
/-- loop.example/g01054/impl.isWord -/
@[reducible] noncomputable def c_impl_isWord : Cx := { K := [.dat 0, .no, .dat 0, .dat 0, .dat 0], T := [], S := [(85, S_impl_areLetters)], H := [], res := [.tmp 2], ios := [], G := gl0 }
noncomputable def F_impl_isWord : List D → Option Out := denF c_impl_isWord Try.f70
@[reducible] noncomputable def S_impl_isWord : FS := { pm := [.dat 0], rm := [.dat 0], f := F_impl_isWord }
theorem M_impl_isWord : Meets gl0 Try.prog 70 S_impl_isWord := meets_of (P := Try.prog) (c := c_impl_isWord) (fn := Try.f70) (pm := S_impl_isWord.pm) (rm := S_impl_isWord.rm) (by kernel_rfl) (lookCons M_impl_areLetters lookNil) follows_mixed Try.func70 (by kernel_rfl) (by kernel_rfl) rfl
/-- loop.example/g01054/impl.isShopStep -/
@[reducible] noncomputable def c_impl_isShopStep : Cx := { K := [.dat 0, .box 4 0 false, .dat 0, .ref 1, .dat 0, .dat 0, .dat 0, .ref 1, .dat 0, .dat 0, .dat 0, .ref 1, .dat 0, .dat 0, .dat 0, .ref 1, .dat 0, .dat 0, .dat 0, .dat 0, .dat 0, .ref 1, .dat 0, .dat 0, .dat 0, .ref 1, .dat 0, .dat 0, .dat 0, .dat 0, .dat 0, .dat 0, .dat 0, .dat 0, .ref 1, .dat 0, .dat 0, .dat 0, .ref 1, .dat 0, .dat 0, .dat 0], T := [(3, ty3), (9, ty9), (46, ty46)], S := [(59, S_impl_within), (69, S_impl_isFormeId), (70, S_impl_isWord)], H := [], res := [.tmp 2], ios := [], G := gl0 }
noncomputable def F_impl_isShopStep : List D → Option Out := denF c_impl_isShopStep Try.f46
@[reducible] noncomputable def S_impl_isShopStep : FS := { pm := [.dat 0], rm := [.dat 0], f := F_impl_isShopStep }
theorem M_impl_isShopStep : Meets gl0 Try.prog 46 S_impl_isShopStep := meets_of (P := Try.prog) (c := c_impl_isShopStep) (fn := Try.f46) (pm := S_impl_isShopStep.pm) (rm := S_impl_isShopStep.rm) (by kernel_rfl) (lookCons M_impl_within (lookCons M_impl_isFormeId (lookCons M_impl_isWord lookNil))) follows_mixed Try.func46 (by kernel_rfl) (by kernel_rfl) rfl
/-- loop.example/g01054/spec.tyWord -/
@[reducible] noncomputable def c_spec_tyWord : Cx := { K := [.dat 0, .no, .dat 0, .dat 0, .dat 0], T := [], S := [(88, S_spec_tyLetters)], H := [], res := [.tmp 2], ios := [], G := gl0 }
noncomputable def F_spec_tyWord : List D → Option Out := denF c_spec_tyWord Try.f82
@[reducible] noncomputable def S_spec_tyWord : FS := { pm := [.dat 0], rm := [.dat 0], f := F_spec_tyWord }
theorem M_spec_tyWord : Meets gl0 Try.prog 82 S_spec_tyWord := meets_of (P := Try.prog) (c := c_spec_tyWord) (fn := Try.f82) (pm := S_spec_tyWord.pm) (rm := S_spec_tyWord.rm) (by kernel_rfl) (lookCons M_spec_tyLetters lookNil) follows_mixed Try.func82 (by kernel_rfl) (by kernel_rfl) rfl
/-- loop.example/g01054/spec.shStep -/
@[reducible] noncomputable def c_spec_shStep : Cx := { K := [.dat 0, .box 4 0 false, .dat 0, .ref 1, .dat 0, .dat 0, .dat 0, .ref 1, .dat 0, .dat 0, .dat 0, .ref 1, .dat 0, .dat 0, .dat 0, .ref 1, .dat 0, .dat 0, .dat 0, .dat 0, .dat 0, .ref 1, .dat 0, .dat 0, .dat 0, .ref 1, .dat 0, .dat 0, .dat 0, .dat 0, .dat 0, .dat 0, .dat 0, .dat 0, .ref 1, .dat 0, .dat 0, .dat 0, .ref 1, .dat 0, .dat 0, .dat 0], T := [(3, ty3), (9, ty9), (46, ty46)], S := [(54, S_spec_l1In), (82, S_spec_tyWord)], H := [], res := [.tmp 2], ios := [], G := gl0 }
noncomputable def F_spec_shStep : List D → Option Out := denF c_spec_shStep Try.f67
@[reducible] noncomputable def S_spec_shStep : FS := { pm := [.dat 0], rm := [.dat 0], f := F_spec_shStep }
theorem M_spec_shStep : Meets gl0 Try.prog 67 S_spec_shStep := meets_of (P := Try.prog) (c := c_spec_shStep) (fn := Try.f67) (pm := S_spec_shStep.pm) (rm := S_spec_shStep.rm) (by kernel_rfl) (lookCons M_spec_l1In (lookCons M_spec_tyWord lookNil)) follows_mixed Try.func67 (by kernel_rfl) (by kernel_rfl) rfl
/-- internal/stringslite.HasPrefix -/
@[reducible] noncomputable def c_internal_stringslite_HasPrefix : Cx := { K := [.dat 0, .dat 0, .no, .no, .dat 0, .dat 0, .dat 0, .dat 0, .dat 0, .dat 0, .dat 0, .dat 0, .dat 0, .dat 0, .dat 0, .dat 0, .dat 0, .dat 0], T := [(3, ty3), (9, ty9)], S := [], H := [], res := [.tmp 4], ios := [], G := gl0 }
noncomputable def F_internal_stringslite_HasPrefix : List D → Option Out := denF c_internal_stringslite_HasPrefix Try.f97
@[reducible] noncomputable def S_internal_stringslite_HasPrefix : FS := { pm := [.dat 0, .dat 0], rm := [.dat 0], f := F_internal_stringslite_HasPrefix }
theorem M_internal_stringslite_HasPrefix : Meets gl0 Try.prog 97 S_internal_stringslite_HasPrefix := meets_of (P := Try.prog) (c := c_internal_stringslite_HasPrefix) (fn := Try.f97) (pm := S_internal_stringslite_HasPrefix.pm) (rm := S_internal_stringslite_HasPrefix.rm) (by kernel_rfl) lookNil follows_mixed Try.func97 (by kernel_rfl) (by kernel_rfl) rfl
/-- strings.HasPrefix -/
@[reducible] noncomputable def c_strings_HasPrefix : Cx := { K := [.dat 0, .dat 0, .no, .no, .dat 0, .dat 0, .dat 0, .dat 0], T := [], S := [(97, S_internal_stringslite_HasPrefix)], H := [], res := [.tmp 4], ios := [], G := gl0 }
noncomputable def F_strings_HasPrefix : List D → Option Out := denF c_strings_HasPrefix Try.f94
@[reducible] noncomputable def S_strings_HasPrefix : FS := { pm := [.dat 0, .dat 0], rm := [.dat 0], f := F_strings_HasPrefix }
theorem M_strings_HasPrefix : Meets gl0 Try.prog 94 S_strings_HasPrefix := meets_of (P := Try.prog) (c := c_strings_HasPrefix) (fn := Try.f94) (pm := S_strings_HasPrefix.pm) (rm := S_strings_HasPrefix.rm) (by kernel_rfl) (lookCons M_internal_stringslite_HasPrefix lookNil) follows_mixed Try.func94 (by kernel_rfl) (by kernel_rfl) rfl
/-- loop.example/g01054/impl.sortsOf -/
@[reducible] noncomputable def c_impl_sortsOf : Cx := { K := [.dat 2, .dat 0, .no, .no, .own 1 0 false, .dat 0, .own 1 0 false, .dat 0, .dat 0, .box 2 0 false, .own 1 0 false, .dat 0, .dat 0, .dat 0, .dat 2, .dat 0, .dat 0, .dat 0, .dat 0, .dat 2, .dat 0, .dat 0, .ref 9, .dat 0, .dat 0, .dat 0, .dat 0, .dat 0, .dat 0, .ref 9, .dat 0, .dat 0, .dat 2, .dat 0, .dat 2, .dat 2, .dat 0, .dat 0, .dat 0, .dat 0, .dat 0, .dat 0, .dat 0, .dat 0, .dat 0, .own 1 0 false, .own 1 0 false, .dat 0, .dat 1, .own 1 0 false, .dat 0, .dat 2, .dat 0, .dat 2, .dat 2, .dat 0, .dat 0, .dat 0, .own 1 0 false], T := [(3, ty3), (9, ty9), (27, ty27), (111, ty111), (113, ty113)], S := [(94, S_strings_HasPrefix)], H := [(0, ([0, 1, 6], [6])), (2, ([0, 1, 6, 7, 14, 15, 16], [0, 1, 6, 7]))], res := [.tmp 4, .tmp 5], ios := [], G := gl0 }
noncomputable def F_impl_sortsOf : List D → Option Out := denF c_impl_sortsOf Try.f92
@[reducible] noncomputable def S_impl_sortsOf : FS := { pm := [.dat 2, .dat 0], rm := [.own 1 0 false, .dat 0], f := F_impl_sortsOf }
theorem M_impl_sortsOf : Meets gl0 Try.prog 92 S_impl_sortsOf := meets_of (P := Try.prog) (c := c_impl_sortsOf) (fn := Try.f92) (pm := S_impl_sortsOf.pm) (rm := S_impl_sortsOf.rm) (by kernel_rfl) (lookCons M_strings_HasPrefix lookNil) follows_mixed Try.func92 (by kernel_rfl) (by kernel_rfl) rfl
/-- loop.example/g01054/impl.codesOf -/
@[reducible] noncomputable def c_impl_codesOf : Cx := { K := [.dat 2, .dat 0, .no, .no, .own 1 0 false, .dat 0, .own 2 0 false, .no, .box 4 0 false, .dat 1, .dat 0, .own 1 0 false, .no, .dat 0, .own 2 0 false, .dat 2, .dat 0, .dat 0, .dat 0, .dat 2, .dat 0, .own 2 0 false, .ref 8, .dat 0, .dat 0, .dat 1, .own 2 0 false, .dat 0, .tup [.own 1 0 false, .dat 0], .via 6, .dat 0, .tup [.own 1 0 false, .dat 0], .dat 1, .dat 0, .own 1 0 false, .dat 1, .dat 0, .dat 0, .dat 0, .dat 1, .dat 0, .own 1 0 false, .via 6, .dat 0, .ref 6, .ref 6, .dat 0, .dat 1, .own 1 0 false, .dat 0, .own 1 0 false, .dat 0], T := [(3, ty3), (9, ty9), (27, ty27), (30, ty30), (61, ty61), (85, ty85), (111, ty111), (113, ty113)], S := [(92, S_impl_sortsOf)], H := [(0, ([1, 6, 15, 16, 17], [1, 6])), (2, ([6, 10, 11, 35, 36, 37], [10, 11]))], res := [.tmp 4, .tmp 5], ios := [], G := gl0 }
noncomputable def F_impl_codesOf : List D → Option Out := denF c_impl_codesOf Try.f86
@[reducible] noncomputable def S_impl_codesOf : FS := { pm := [.dat 2, .dat 0], rm := [.own 1 0 false, .dat 0], f := F_impl_codesOf }
theorem M_impl_codesOf : Meets gl0 Try.prog 86 S_impl_codesOf := meets_of (P := Try.prog) (c := c_impl_codesOf) (fn := Try.f86) (pm := S_impl_codesOf.pm) (rm := S_impl_codesOf.rm) (by kernel_rfl) (lookCons M_impl_sortsOf lookNil) follows_mixed Try.func86 (by kernel_rfl) (by kernel_rfl) rfl
/-- loop.example/g01054/spec.l1Least -/
@[reducible] noncomputable def c_spec_l1Least : Cx := { K := [.dat 0, .dat 0, .no, .no, .dat 0, .dat 0, .dat 0, .dat 0, .dat 0, .dat 0], T := [(3, ty3)], S := [], H := [], res := [.tmp 4], ios := [], G := gl0 }
noncomputable def F_spec_l1Least : List D → Option Out := denF c_spec_l1Least Try.f95
@[reducible] noncomputable def S_spec_l1Least : FS := { pm := [.dat 0, .dat 0], rm := [.dat 0], f := F_spec_l1Least }
theorem M_spec_l1Least : Meets gl0 Try.prog 95 S_spec_l1Least := meets_of (P := Try.prog) (c := c_spec_l1Least) (fn := Try.f95) (pm := S_spec_l1Least.pm) (rm := S_spec_l1Least.rm) (by kernel_rfl) lookNil follows_mixed Try.func95 (by kernel_rfl) (by kernel_rfl) rfl
/-- loop.example/g01054/spec.tyFind -/
@[reducible] noncomputable def c_spec_tyFind : Cx := { K := [.dat 2, .dat 0, .no, .no, .dat 0, .dat 0, .box 2 0 false, .dat 2, .dat 0, .dat 0, .dat 0, .dat 0, .dat 2, .dat 0, .ref 6, .dat 0, .dat 0, .dat 0, .dat 0, .dat 0], T := [(3, ty3), (9, ty9), (111, ty111), (113, ty113)], S := [], H := [(0, ([1, 7, 8, 9], []))], res := [.tmp 4], ios := [], G := gl0 }
noncomputable def F_spec_tyFind : List D → Option Out := denF c_spec_tyFind Try.f96
@[reducible] noncomputable def S_spec_tyFind : FS := { pm := [.dat 2, .dat 0], rm := [.dat 0], f := F_spec_tyFind }
theorem M_spec_tyFind : Meets gl0 Try.prog 96 S_spec_tyFind := meets_of (P := Try.prog) (c := c_spec_tyFind) (fn := Try.f96) (pm := S_spec_tyFind.pm) (rm := S_spec_tyFind.rm) (by kernel_rfl) lookNil follows_mixed Try.func96 (by kernel_rfl) (by kernel_rfl) rfl
/-- loop.example/g01054/spec.tySet -/
@[reducible] noncomputable def c_spec_tySet : Cx := { K := [.dat 2, .dat 0, .no, .no, .own 1 0 false, .dat 0, .own 1 0 false, .dat 0, .dat 0, .dat 0, .dat 0, .dat 0, .dat 0, .dat 0, .dat 0, .dat 0, .dat 0, .dat 0, .dat 0, .dat 0, .dat 0, .dat 0, .dat 0, .dat 0, .dat 0, .dat 0, .dat 0, .dat 2, .dat 0, .dat 0, .dat 0, .dat 0, .dat 0, .dat 0, .dat 0, .dat 0, .dat 0, .own 1 0 false, .dat 0, .dat 1, .own 1 0 false, .dat 0, .dat 2, .dat 0, .dat 2, .dat 2, .dat 0, .dat 0, .dat 0, .own 1 0 false], T := [(3, ty3), (9, ty9), (27, ty27), (111, ty111), (113, ty113)], S := [(95, S_spec_l1Least), (96, S_spec_tyFind)], H := [(0, ([0, 1, 6, 7], [6])), (2, ([0, 1, 6, 7, 8, 9], [0, 1, 6, 7, 8]))], res := [.tmp 4, .tmp 5], ios := [], G := gl0 }
noncomputable def F_spec_tySet : List D → Option Out := denF c_spec_tySet Try.f93
@[reducible] noncomputable def S_spec_tySet : FS := { pm := [.dat 2, .dat 0], rm := [.own 1 0 false, .dat 0], f := F_spec_tySet }
theorem M_spec_tySet : Meets gl0 Try.prog 93 S_spec_tySet := meets_of (P := Try.prog) (c := c_spec_tySet) (fn := Try.f93) (pm := S_spec_tySet.pm) (rm := S_spec_tySet.rm) (by kernel_rfl) (lookCons M_spec_l1Least (lookCons M_spec_tyFind lookNil)) follows_mixed Try.func93 (by kernel_rfl) (by kernel_rfl) rfl
/-- loop.example/g01054/spec.shCodes -/
@[reducible] noncomputable def c_spec_shCodes : Cx := { K := [.dat 2, .dat 0, .no, .no, .own 1 0 false, .dat 0, .own 2 0 false, .no, .box 4 0 false, .dat 1, .dat 0, .own 1 0 false, .no, .dat 0, .dat 2, .dat 0, .dat 0, .dat 0, .dat 2, .dat 0, .own 2 0 false, .ref 8, .dat 0, .dat 0, .dat 1, .own 2 0 false, .dat 0, .tup [.own 1 0 false, .dat 0], .via 6, .dat 0, .tup [.own 1 0 false, .dat 0], .dat 1, .dat 0, .dat 0, .dat 0, .dat 1, .dat 0, .dat 0, .dat 0, .dat 1, .dat 0, .own 1 0 false, .via 6, .dat 0, .ref 6, .ref 6, .dat 0, .dat 1, .own 1 0 false, .dat 0, .own 1 0 false], T := [(3, ty3), (9, ty9), (27, ty27), (30, ty30), (61, ty61), (85, ty85), (111, ty111), (113, ty113)], S := [(93, S_spec_tySet)], H := [(0, ([1, 6, 14, 15, 16], [1, 6])), (2, ([6, 11, 35, 36, 37], [11]))], res := [.tmp 4, .tmp 5], ios := [], G := gl0 }
noncomputable def F_spec_shCodes : List D → Option Out := denF c_spec_shCodes Try.f91
@[reducible] noncomputable def S_spec_shCodes : FS := { pm := [.dat 2, .dat 0], rm := [.own 1 0 false, .dat 0], f := F_spec_shCodes }
theorem M_spec_shCodes : Meets gl0 Try.prog 91 S_spec_shCodes := meets_of (P := Try.prog) (c := c_spec_shCodes) (fn := Try.f91) (pm := S_spec_shCodes.pm) (rm := S_spec_shCodes.rm) (by kernel_rfl) (lookCons M_spec_tySet lookNil) follows_mixed Try.func91 (by kernel_rfl) (by kernel_rfl) rfl
/-- loop.example/g01054/spec.shFind -/
@[reducible] noncomputable def c_spec_shFind : Cx := { K := [.dat 2, .dat 0, .box 4 2 false, .no, .dat 0, .dat 0, .box 4 2 false, .ref 2, .dat 2, .dat 0, .dat 0, .dat 0, .dat 0, .dat 2, .dat 2, .ref 6, .dat 0, .dat 0, .dat 0, .dat 0, .dat 0], T := [(3, ty3), (4, ty4), (30, ty30), (31, ty31), (33, ty33), (61, ty61), (63, ty63)], S := [], H := [(0, ([1, 8, 9, 10], []))], res := [.tmp 4], ios := [], G := gl0 }
noncomputable def F_spec_shFind : List D → Option Out := denF c_spec_shFind Try.f84
@[reducible] noncomputable def S_spec_shFind : FS := { pm := [.dat 2, .dat 0], rm := [.dat 0], f := F_spec_shFind }
theorem M_spec_shFind : Meets gl0 Try.prog 84 S_spec_shFind := meets_of (P := Try.prog) (c := c_spec_shFind) (fn := Try.f84) (pm := S_spec_shFind.pm) (rm := S_spec_shFind.rm) (by kernel_rfl) lookNil follows_mixed Try.func84 (by kernel_rfl) (by kernel_rfl) rfl
/-- (loop.example/g01054/impl.Shop).formeAt -/
@[reducible] noncomputable def c_impl_Shop_formeAt : Cx := { K := [.dat 2, .dat 0, .box 4 2 false, .no, .dat 0, .dat 0, .dat 0, .dat 0, .ref 2, .dat 2, .dat 0, .dat 0, .dat 0, .ref 2, .dat 2, .dat 0, .dat 2, .dat 2, .dat 0, .dat 0, .dat 0, .dat 0, .dat 0, .dat 0, .dat 0, .dat 0, .ref 2, .dat 2, .dat 0, .dat 0, .dat 0, .ref 2, .dat 2, .dat 0, .dat 2, .dat 2, .dat 0, .dat 0, .dat 0, .dat 0], T := [(3, ty3), (4, ty4), (30, ty30), (31, ty31), (33, ty33), (61, ty61), (63, ty63)], S := [], H := [(0, ([1, 2, 6], [1, 2, 6]))], res := [.tmp 4, .tmp 5], ios := [], G := gl0 }
noncomputable def F_impl_Shop_formeAt : List D → Option Out := denF c_impl_Shop_formeAt Try.f72
@[reducible] noncomputable def S_impl_Shop_formeAt : FS := { pm := [.dat 2, .dat 0], rm := [.dat 0, .dat 0], f := F_impl_Shop_formeAt }
theorem M_impl_Shop_formeAt : Meets gl0 Try.prog 72 S_impl_Shop_formeAt := meets_of (P := Try.prog) (c := c_impl_Shop_formeAt) (fn := Try.f72) (pm := S_impl_Shop_formeAt.pm) (rm := S_impl_Shop_formeAt.rm) (by kernel_rfl) lookNil follows_mixed Try.func72 (by kernel_rfl) (by kernel_rfl) rfl
/-- loop.example/g01054/laws.toShopStep -/
@[reducible] noncomputable def c_laws_toShopStep : Cx := { K := [.dat 0, .box 4 0 false, .box 4 0 false, .box 4 0 false, .ref 1, .dat 0, .ref 3, .ref 1, .dat 0, .ref 3, .ref 1, .dat 0, .ref 3, .ref 1, .dat 0, .ref 3, .dat 0], T := [(3, ty3), (9, ty9), (43, ty43), (46, ty46)], S := [], H := [], res := [.cell 2 46], ios := [], G := gl0 }
noncomputable def F_laws_toShopStep : List D → Option Out := denF c_laws_toShopStep Try.f21
@[reducible] noncomputable def S_laws_toShopStep : FS := { pm := [.dat 0], rm := [.dat 0], f := F_laws_toShopStep }
theorem M_laws_toShopStep : Meets gl0 Try.prog 21 S_laws_toShopStep := meets_of (P := Try.prog) (c := c_laws_toShopStep) (fn := Try.f21) (pm := S_laws_toShopStep.pm) (rm := S_laws_toShopStep.rm) (by kernel_rfl) lookNil follows_mixed Try.func21 (by kernel_rfl) (by kernel_rfl) rfl
/-- loop.example/g01054/laws.szShopStep -/
@[reducible] noncomputable def c_laws_szShopStep : Cx := { K := [.dat 0, .dat 0, .box 4 0 false, .no, .dat 0, .dat 0, .ref 2, .dat 0, .dat 0, .dat 0, .dat 0, .dat 0, .dat 0], T := [(3, ty3), (9, ty9), (43, ty43)], S := [], H := [], res := [.tmp 4], ios := [], G := gl0 }
noncomputable def F_laws_szShopStep : List D → Option Out := denF c_laws_szShopStep Try.f19
@[reducible] noncomputable def S_laws_szShopStep : FS := { pm := [.dat 0, .dat 0], rm := [.dat 0], f := F_laws_szShopStep }
theorem M_laws_szShopStep : Meets gl0 Try.prog 19 S_laws_szShopStep := meets_of (P := Try.prog) (c := c_laws_szShopStep) (fn := Try.f19) (pm := S_laws_szShopStep.pm) (rm := S_laws_szShopStep.rm) (by kernel_rfl) lookNil follows_mixed Try.func19 (by kernel_rfl) (by kernel_rfl) rfl
/-- loop.example/g01054/laws.eqShopStep -/
@[reducible] noncomputable def c_laws_eqShopStep : Cx := { K := [.dat 0, .dat 0, .box 4 0 false, .box 4 0 false, .dat 0, .ref 2, .dat 0, .ref 3, .dat 0, .dat 0, .ref 2, .dat 0, .ref 3, .dat 0, .dat 0, .ref 2, .dat 0, .ref 3, .dat 0, .dat 0, .ref 2, .dat 0, .ref 3, .dat 0, .dat 0], T := [(3, ty3), (9, ty9), (46, ty46)], S := [], H := [], res := [.tmp 4], ios := [], G := gl0 }
noncomputable def F_laws_eqShopStep : List D → Option Out := denF c_laws_eqShopStep Try.f48
@[reducible] noncomputable def S_laws_eqShopStep : FS := { pm := [.dat 0, .dat 0], rm := [.dat 0], f := F_laws_eqShopStep }
theorem M_laws_eqShopStep : Meets gl0 Try.prog 48 S_laws_eqShopStep := meets_of (P := Try.prog) (c := c_laws_eqShopStep) (fn := Try.f48) (pm := S_laws_eqShopStep.pm) (rm := S_laws_eqShopStep.rm) (by kernel_rfl) lookNil follows_mixed Try.func48 (by kernel_rfl) (by kernel_rfl) rfl
/-- loop.example/g01054/laws.eqShopStepS -/
@[reducible] noncomputable def c_laws_eqShopStepS : Cx := { K := [.dat 2, .dat 2, .no, .no, .dat 0, .dat 0, .dat 2, .dat 0, .dat 2, .dat 0, .dat 0, .dat 0, .dat 2, .dat 0, .dat 0, .dat 0, .dat 0, .dat 2, .dat 0, .dat 2, .dat 0, .dat 2, .dat 0, .dat 2, .dat 0, .dat 0, .dat 0], T := [(3, ty3), (9, ty9), (46, ty46), (53, ty53)], S := [(48, S_laws_eqShopStep)], H := [(0, ([0, 1, 5], []))], res := [.tmp 4], ios := [], G := gl0 }
noncomputable def F_laws_eqShopStepS : List D → Option Out := denF c_laws_eqShopStepS Try.f27
@[reducible] noncomputable def S_laws_eqShopStepS : FS := { pm := [.dat 2, .dat 2], rm := [.dat 0], f := F_laws_eqShopStepS }
theorem M_laws_eqShopStepS : Meets gl0 Try.prog 27 S_laws_eqShopStepS := meets_of (P := Try.prog) (c := c_laws_eqShopStepS) (fn := Try.f27) (pm := S_laws_eqShopStepS.pm) (rm := S_laws_eqShopStepS.rm) (by kernel_rfl) (lookCons M_laws_eqShopStep lookNil) follows_mixed Try.func27 (by kernel_rfl) (by kernel_rfl) rfl
/-- loop.example/g01054/laws.toShopStepS -/
@[reducible] noncomputable def c_laws_toShopStepS : Cx := { K := [.dat 2, .no, .own 4 0 false, .own 4 0 false, .dat 0, .dat 2, .dat 0, .own 4 0 false, .dat 0, .dat 2, .dat 0, .dat 0, .dat 0, .dat 0, .via 3, .dat 0, .dat 2, .dat 0, .dat 2, .dat 0, .dat 0, .ref 3, .own 4 0 false], T := [(3, ty3), (9, ty9), (43, ty43), (46, ty46), (49, ty49), (53, ty53)], S := [(21, S_laws_toShopStep)], H := [(0, ([0, 3, 4], [3]))], res := [.tmp 2], ios := [], G := gl0 }
noncomputable def F_laws_toShopStepS : List D → Option Out := denF c_laws_toShopStepS Try.f25
@[reducible] noncomputable def S_laws_toShopStepS : FS := { pm := [.dat 2], rm := [.own 4 0 false], f := F_laws_toShopStepS }
theorem M_laws_toShopStepS : Meets gl0 Try.prog 25 S_laws_toShopStepS := meets_of (P := Try.prog) (c := c_laws_toShopStepS) (fn := Try.f25) (pm := S_laws_toShopStepS.pm) (rm := S_laws_toShopStepS.rm) (by kernel_rfl) (lookCons M_laws_toShopStep lookNil) follows_mixed Try.func25 (by kernel_rfl) (by kernel_rfl) rfl
/-- loop.example/g01054/laws.szShopStepS -/
@[reducible] noncomputable def c_laws_szShopStepS : Cx := { K := [.dat 2, .dat 0, .no, .no, .dat 0, .dat 0, .dat 0, .dat 2, .dat 0, .dat 0, .dat 0, .dat 0, .dat 0, .dat 2, .dat 0, .dat 0, .dat 0, .dat 0, .dat 2, .dat 0, .dat 2, .dat 0, .dat 0, .dat 0, .dat 0, .dat 0, .dat 0], T := [(3, ty3), (9, ty9), (43, ty43), (49, ty49)], S := [(19, S_laws_szShopStep)], H := [(0, ([0, 1, 5], [1]))], res := [.tmp 4], ios := [], G := gl0 }
noncomputable def F_laws_szShopStepS : List D → Option Out := denF c_laws_szShopStepS Try.f23
@[reducible] noncomputable def S_laws_szShopStepS : FS := { pm := [.dat 2, .dat 0], rm := [.dat 0], f := F_laws_szShopStepS }
theorem M_laws_szShopStepS : Meets gl0 Try.prog 23 S_laws_szShopStepS := meets_of (P := Try.prog) (c := c_laws_szShopStepS) (fn := Try.f23) (pm := S_laws_szShopStepS.pm) (rm := S_laws_szShopStepS.rm) (by kernel_rfl) (lookCons M_laws_szShopStep lookNil) follows_mixed Try.func23 (by kernel_rfl) (by kernel_rfl) rfl
/-- loop.example/g01054/laws.markShopStepS -/
@[reducible] noncomputable def c_laws_markShopStepS : Cx := { K := [.own 4 0 true, .dat 0, .no, .no, .dat 0, .dat 0, .dat 0, .via 0, .dat 0, .dat 0, .dat 0, .dat 0, .via 0, .dat 0, .dat 0, .ref 0, .ref 0, .dat 0, .dat 0, .via 0, .dat 0, .dat 0, .ref 0, .ref 0, .dat 0, .dat 0, .via 0, .dat 0, .dat 0, .dat 0, .ref 0, .ref 0, .dat 0, .dat 0, .via 0, .dat 0, .dat 0, .ref 0, .ref 0, .dat 0, .dat 0, .dat 0], T := [(3, ty3), (9, ty9), (46, ty46), (53, ty53)], S := [(49, S_laws_markText)], H := [(0, ([0, 1, 5], [0, 1]))], res := [.tmp 4], ios := [0], G := gl0 }
noncomputable def F_laws_markShopStepS : List D → Option Out := denF c_laws_markShopStepS Try.f28
@[reducible] noncomputable def S_laws_markShopStepS : FS := { pm := [.own 4 0 true, .dat 0], rm := [.dat 0], f := F_laws_markShopStepS }
theorem M_laws_markShopStepS : Meets gl0 Try.prog 28 S_laws_markShopStepS := meets_of (P := Try.prog) (c := c_laws_markShopStepS) (fn := Try.f28) (pm := S_laws_markShopStepS.pm) (rm := S_laws_markShopStepS.rm) (by kernel_rfl) (lookCons M_laws_markText lookNil) follows_mixed Try.func28 (by kernel_rfl) (by kernel_rfl) rfl
end Go.Proofs.Ytankikbbdfgkbaa
