/-
  New slices, appends, parts of owned slices, parts of tuples: they keep the invariant.
-/
import Derived.Test.YtfjkapnonljdeaaDoorVn
namespace Go.V
open Go.RowKit

section
variable {P : Program} {c : Cx} {B : Nat} {X : Nat → Prop} {w0 : World} {F0 F : Nat → Prop} {O : Nat → Option (Nat × Nat)} {a : Act} {w : World} {δ : List D}

/-- A slice in a new block, over all of its first cells. -/
theorem OwnV_new {F : Nat → Prop} {z n cap t : Nat} {l : List D} {us : List Value} {cs : Array Value} (hr : RepL w F l us) (hl : ∀ d ∈ l, d.width = z) (hn : l.length = n) (hc : n ≤ cap) (hs : cap * z ≤ cs.size) (hu : ∀ (i : Nat) (u : Value), us[i]? = some u → cs[i]? = some u)
    (hF : ∀ b, F b → b < w.heap.size) : OwnV (w.alloc (.cells cs t)) F (fun g => w.heap.size ≤ g) z (.arr z l) (.slice (some ⟨w.heap.size, 0, none⟩) n cap) :=
  ⟨l, rfl, hl, .inr ⟨w.heap.size, 0, cap, us, cs, t, by rw [hn], by rw [hn]; exact hc, heap_alloc_new w _, by simpa using hs, RepL_mono (fun _ h => h) (fun b hb => heap_alloc_old w _ (hF b hb)) _ _ hr, by simpa using hu, Nat.le_refl _⟩⟩

theorem lenOkD_all {z n : Nat} {l : List D} (h : lenOkD z n l = true) : (∀ d ∈ l, d.width = z) ∧ ∀ d ∈ l, d ≠ .bad ∧ ∀ m, d ≠ .tup m := by
  unfold lenOkD at h
  rw [List.all_eq_true] at h
  refine ⟨fun d hd => ?_, fun d hd => ⟨fun e => ?_, fun m e => ?_⟩⟩
  · have := h d hd
    simp only [Bool.and_eq_true, beq_iff_eq] at this
    exact this.1.1
  · have := h d hd
    subst e
    simp [D.single] at this
  · have := h d hd
    subst e
    simp [D.single] at this

/-- Elements laid side by side. -/
theorem RepL_flat {G : Nat → Prop} : ∀ (ds : List D) (ys : List Value), RepBs w G ds ys → (∀ d ∈ ds, d ≠ .bad ∧ ∀ m, d ≠ .tup m) → RepL w G ds (ys.flatMap fun y => y.cells.toList)
  | [], [], _, _ => RepL_nil.2 rfl
  | d :: ds, y :: ys, h, hb => RepL_cons.2 ⟨_, _, rfl, (RepV_cells (h.1.rep (hb d (by simp)).1) (hb d (by simp)).2).1, RepL_flat ds ys h.2 fun e he => hb e (by simp [he])⟩
  | [], _ :: _, h, _ => h.elim
  | _ :: _, [], h, _ => h.elim

theorem iotaN_ok (ρ : Operand → Value) : ∀ (parts : List (Nat × Operand)) (k n : Nat), iotaN k parts n = true → n = k + parts.length ∧ ∀ (j : Nat) (p : Nat × Operand), parts[j]? = some p → p.1 = k + j
  | [], k, n, h => by
    simp only [iotaN] at h
    exact ⟨(beq_iff.1 h).symm, by simp⟩
  | (i, x) :: ps, k, n, h => by
    simp only [iotaN] at h
    split at h
    case h_2 => cases h
    rename_i hi
    rw [beq_iff] at hi
    obtain ⟨h1, h2⟩ := iotaN_ok ρ ps (k + 1) n h
    refine ⟨by simp; omega, fun j p hj => ?_⟩
    cases j with
    | zero => simp at hj; subst hj; simp [hi]
    | succ j => rw [h2 j p (by simpa using hj)]; omega

/-- Parts laid one behind the other into cells. -/
theorem fill_iota {z : Nat} : ∀ (parts : List (Nat × Value)) (k : Nat) (us : List Value), (∀ (j : Nat) (p : Nat × Value), parts[j]? = some p → p.1 = k + j ∧ p.2.cells.size = z) → (k + parts.length) * z ≤ us.length →
    Instr.fill (fun i => some (i * z, z)) us.toArray parts = some (us.take (k * z) ++ (parts.flatMap fun p => p.2.cells.toList) ++ us.drop ((k + parts.length) * z)).toArray
  | [], k, us, _, _ => by simp [Instr.fill]
  | (i, v) :: ps, k, us, h, hl => by
    obtain ⟨h1, h2⟩ := h 0 (i, v) rfl
    simp only [Nat.add_zero] at h1 h2
    simp only [List.length_cons] at hl
    have hkz : (k + (ps.length + 1)) * z = k * z + z + ps.length * z := by rw [Nat.add_mul, Nat.succ_mul]; omega
    rw [hkz] at hl
    have hvl : v.cells.toList.length = z := by simpa using h2
    have hfs := fill_set v.cells.toList (k * z) 0 us (by rw [hvl]; omega)
    simp only [Nat.add_zero, hvl] at hfs
    have ih := fill_iota ps (k + 1) (us.take (k * z) ++ v.cells.toList ++ us.drop (k * z + z)) (fun j p hj => by
      obtain ⟨g1, g2⟩ := h (j + 1) p (by simpa using hj)
      exact ⟨by omega, g2⟩) (by
      simp only [List.length_append, List.length_take, List.length_drop, hvl]
      rw [show k + 1 + ps.length = k + (ps.length + 1) from by omega, hkz]
      omega)
    simp only [Instr.fill, h1, h2]
    rw [if_neg (by simp; omega)]
    have e1 : (v.cells.zipIdx.foldl (fun cs (c, j) => cs.setIfInBounds (k * z + j) c) us.toArray) = (us.take (k * z) ++ v.cells.toList ++ us.drop (k * z + z)).toArray := by
      rw [← hfs]
      rw [← Array.foldl_toList]
      simp
    rw [e1, ih]
    have l1 : (us.take (k * z)).length = k * z := by rw [List.length_take]; omega
    have l2 : (us.take (k * z) ++ v.cells.toList).length = (k + 1) * z := by rw [List.length_append, l1, hvl, Nat.succ_mul]
    have t1 : (us.take (k * z) ++ v.cells.toList ++ us.drop (k * z + z)).take ((k + 1) * z) = us.take (k * z) ++ v.cells.toList := by rw [← l2]; exact List.take_left
    have t2 : (us.take (k * z) ++ v.cells.toList ++ us.drop (k * z + z)).drop ((k + 1 + ps.length) * z) = us.drop ((k + (ps.length + 1)) * z) := by
      rw [Nat.add_mul, ← l2, List.drop_length_add_append, List.drop_drop]
      congr 1
      rw [hkz]
    rw [t1, t2]
    simp

theorem sound_buildSlice (hT : okT P c.T = true) {o : Oper} {t n : Nat} {parts : Array (Nat × Operand)} (ho : o.op = .buildSlice t n parts) : Sound P c o := by
  intro A hA B X w0 F0 F O a w δ hI k r hg Q
  simp only [actOf, ho] at hA
  have hA0 := withT_some hA
  clear hA
  obtain ⟨i, hi, hA⟩ := hA0
  have hA0 := withT_some hA
  clear hA
  obtain ⟨e, he, hA⟩ := hA0
  have hti := tok hT hi
  have hte := tok hT he
  split at hA
  case h_2 => cases hA
  rename_i hsl
  obtain ⟨hu, _, hez, _, y, hy, hys, _⟩ := isSl_ok hti hsl
  unfold bsOf at hA
  simp only at hA
  split at hA
  · cases hA
  rename_i d hd
  split at hA
  case h_2 => cases hA
  rename_i h1 h2 h3 h4
  rw [ble_iff] at h2 h4
  cases hA
  simp only [goAc] at hg
  rw [valsOf_eq] at hg
  obtain ⟨z, hz, hk⟩ := Option.bind_eq_some_iff.1 hg
  unfold mkArr at hz
  split at hz
  case isFalse => cases hz
  rename_i hok
  cases hz
  obtain ⟨hw1, hb1⟩ := lenOkD_all hok
  have hxs : (mapD (fun p => p.2) parts.toList).map a.eval = (parts.toList.map fun p => (p.1, a.eval p.2)).map (·.2) := by rw [mapD_eq]; simp [Function.comp_def]
  have hbs : RepBs w (FB F B (lvAll c.K (mapD (fun p => p.2) parts.toList))) ((mapD (fun p => p.2) parts.toList).map (opD δ)) ((mapD (fun p => p.2) parts.toList).map a.eval) :=
    RepBs_of _ fun x hx => RepB_le (lvAll_le _ x hx) (hI.opd (lvAll_mem h4 x hx))
  have hrl := RepL_flat _ _ hbs hb1
  obtain ⟨hn, hix⟩ := iotaN_ok a.eval parts.toList 0 n h1
  simp only [Nat.zero_add] at hn hix
  have hsz : ∀ (j : Nat) (p : Nat × Value), (parts.toList.map fun p => (p.1, a.eval p.2))[j]? = some p → p.1 = 0 + j ∧ p.2.cells.size = i.ez := by
    intro j p hj
    rw [List.getElem?_map] at hj
    obtain ⟨q, hq, rfl⟩ := Option.map_eq_some_iff.1 hj
    refine ⟨by rw [hix j q hq, Nat.zero_add], ?_⟩
    have hmem : q.2 ∈ mapD (fun p => p.2) parts.toList := by rw [mapD_eq]; exact List.mem_map_of_mem (List.mem_of_getElem? hq)
    have hrb := hI.opd (lvAll_mem h4 _ hmem)
    have hdm : opD δ q.2 ∈ (mapD (fun p => p.2) parts.toList).map (opD δ) := List.mem_map_of_mem hmem
    have hc := RepC_width (RepV_cells (hrb.rep (hb1 _ hdm).1) (hb1 _ hdm).2).1
    rw [hw1 _ hdm] at hc
    simpa using hc
  obtain ⟨y', zv, k1, k2, k3, _⟩ := hte.info
  rw [hy] at k1
  cases k1
  generalize hus : ((Array.range (n * i.ez)).map (fun j => (if n * i.ez = 0 then (#[] : Array Value) else zv.cells)[j % (if n * i.ez = 0 then (#[] : Array Value) else zv.cells).size]!)) = us0
  have husl : us0.size = n * i.ez := by rw [← hus]; simp
  have hfill := fill_iota (z := i.ez) (parts.toList.map fun p => (p.1, a.eval p.2)) 0 us0.toList hsz (by simp [husl, hn])
  have hdrop : us0.toList.drop ((0 + (parts.toList.map fun p => (p.1, a.eval p.2)).length) * i.ez) = [] := List.drop_eq_nil_of_le (by simp [husl, hn])
  rw [hdrop] at hfill
  simp only [Nat.zero_mul, List.take_zero, List.nil_append, List.append_nil, Array.toArray_toList] at hfill
  have hfl : ((parts.toList.map fun p => (p.1, a.eval p.2)).flatMap fun p => p.2.cells.toList) = ((mapD (fun p => p.2) parts.toList).map a.eval).flatMap fun y => y.cells.toList := by
    rw [mapD_eq]
    simp [List.flatMap_map]
  rw [hfl] at hfill
  have hrun : (execOp a.eval o).run P w = .ok (.value (.slice (some ⟨w.heap.size, 0, none⟩) n n)) (w.alloc (.cells (((mapD (fun p => p.2) parts.toList).map a.eval).flatMap fun y => y.cells.toList).toArray i.elem)) := by
    refine run_v (s := Instr.buildSlice t n (parts.map fun (i, x) => (i, a.eval x))) (by simp only [execOp, ho]) ?_
    have hnot : ¬ (16777216 < n * i.ez) := by omega
    by_cases h0 : n * i.ez = 0
    · simp only [h0, if_true] at hus
      simp [Instr.buildSlice, run_underlying hu, sizeOf, typeInfo, hy, hys, h0]
      have e0 : us0 = #[] := Array.eq_empty_of_size_eq_zero (husl.trans h0)
      have e1 : Array.map (fun _ => (default : Value)) (Array.range 0) = us0 := by rw [e0, Array.range_zero', Array.map_empty]
      rw [e1, hfill]
      simp [newRow]
    · simp only [h0, if_false] at hus
      simp [Instr.buildSlice, run_underlying hu, sizeOf, typeInfo, hy, hys, h0, hnot, zeroValue, k3]
      rw [hus, hfill]
      simp [newRow]
  have hlenE : ((mapD (fun p => p.2) parts.toList).map (opD δ)).length = n := by rw [mapD_eq]; simp [hn]
  have hlenU := RepL_length _ _ hrl hw1
  obtain ⟨F', O', hI'⟩ := hI.fresh (d := d) h3 (OwnV_new (w := w) (t := i.elem) (cap := n) (cs := (((mapD (fun p => p.2) parts.toList).map a.eval).flatMap fun y => y.cells.toList).toArray) hrl hw1 hlenE (Nat.le_refl _) (by simp only [List.size_toArray, hlenU, hlenE]; exact Nat.le_refl _) (fun j u hu => by simpa using hu) (fun b hb => (hI.fl b (FB_sub b hb)).1)) (by simp) (fun b hb => heap_alloc_old w _ hb) rfl rfl rfl
  exact many_skip hd hrun hI' hk Q

theorem RepBs_repl {G : Nat → Prop} {d : D} {y : Value} (h : RepB w G d y) : ∀ {n : Nat}, RepBs w G (List.replicate n d) (List.replicate n y)
  | 0 => trivial
  | _ + 1 => ⟨h, RepBs_repl h⟩

theorem repl_get {α : Type} {zs : List α} (hz : 0 < zs.length) : ∀ (m j : Nat) (u : α), ((List.replicate m zs).flatten)[j]? = some u → j < m * zs.length ∧ zs[j % zs.length]? = some u
  | 0, j, u, h => by simp at h
  | m + 1, j, u, h => by
    rw [List.replicate_succ, List.flatten_cons] at h
    rcases Nat.lt_or_ge j zs.length with hj | hj
    · rw [List.getElem?_append_left hj] at h
      refine ⟨by rw [Nat.succ_mul]; omega, by rw [Nat.mod_eq_of_lt hj]; exact h⟩
    · rw [List.getElem?_append_right hj] at h
      obtain ⟨h1, h2⟩ := repl_get hz m _ u h
      refine ⟨by rw [Nat.succ_mul]; omega, ?_⟩
      rw [← h2, Nat.mod_eq_sub_mod hj]

theorem made_get {z : Value} {ez n m : Nat} (hz : z.cells.size = ez) (hez : 0 < ez) (hle : m * ez ≤ n) {j : Nat} {u : Value} (h : ((List.replicate m z).flatMap fun y => y.cells.toList)[j]? = some u) : (madeCells z.cells n)[j]? = some u := by
  have e : ((List.replicate m z).flatMap fun y => y.cells.toList) = (List.replicate m z.cells.toList).flatten := by
    rw [List.flatMap_def]
    simp
  rw [e] at h
  obtain ⟨h1, h2⟩ := repl_get (by simpa [hz] using hez) m j u h
  have hl : z.cells.toList.length = ez := by simpa using hz
  rw [hl] at h1 h2
  have hjn : j < n := by omega
  have hlt : j % ez < z.cells.size := by rw [hz]; exact Nat.mod_lt _ hez
  simp only [madeCells, Array.getElem?_map, Array.getElem?_range, hjn, if_true, Option.map_some, hz, Option.some.injEq]
  rw [Array.getElem!_eq_getD, Array.getD_eq_getD_getElem?]
  have : z.cells[j % ez]? = some u := by simpa using h2
  rw [this]
  rfl

theorem sound_makeSlice (hT : okT P c.T = true) {o : Oper} {t : Nat} {n m : Operand} (ho : o.op = .makeSlice t n m) : Sound P c o := by
  intro A hA B X w0 F0 F O a w δ hI k r hg Q
  simp only [actOf, ho] at hA
  have hA0 := withT_some hA
  clear hA
  obtain ⟨i, hi, hA⟩ := hA0
  have hA0 := withT_some hA
  clear hA
  obtain ⟨e, he, hA⟩ := hA0
  have hti := tok hT hi
  have hte := tok hT he
  split at hA
  case h_2 => cases hA
  rename_i hsl
  obtain ⟨hu, _, hez, heb, y, hy, hys, hyb⟩ := isSl_ok hti hsl
  unfold mkOf at hA
  split at hA
  case h_2 => cases hA
  rename_i d hd hn hm
  split at hA
  case h_2 => cases hA
  rename_i hk3
  cases hA
  simp only [goAc] at hg
  rw [valsOf_eq] at hg
  obtain ⟨z, hz, hk⟩ := Option.bind_eq_some_iff.1 hg
  simp only [List.map_cons, List.map_nil] at hz
  unfold makD at hz
  split at hz
  case h_2 => cases hz
  rename_i k1 l k2 cp e1 e2
  split at hz
  case isFalse => cases hz
  rename_i hc
  obtain ⟨c1, c2, c3, c4⟩ := hc
  cases hz
  have hn' := hI.opd (ble_iff.1 hn)
  have hm' := hI.opd (ble_iff.1 hm)
  rw [e1] at hn'
  rw [e2] at hm'
  obtain ⟨hn', _⟩ := RepB_v hn'
  obtain ⟨hm', _⟩ := RepB_v hm'
  obtain ⟨y', zv, q1, q2, q3, q4, q5⟩ := hte.info
  rw [hy] at q1
  cases q1
  have hrun : (execOp a.eval o).run P w = .ok (.value (.slice (some ⟨w.heap.size, 0, none⟩) l.toNat cp.toNat)) (w.alloc (.cells (madeCells zv.cells (cp.toNat * y.size)) i.elem)) := by
    refine run_v (s := Instr.makeSlice t (a.eval n) (a.eval m)) (by simp only [execOp, ho]) ?_
    rw [hn', hm']
    exact run_make w t i.elem y zv hu hy q3 k1 k2 l cp c1 c2 (by rw [hyb, Int.mul_comm]; omega) (by omega)
  obtain ⟨z', hz1, hz2, hz3, hz4⟩ := hte.zero
  have hzt : ∀ m, zeroD e ≠ .tup m := fun m hm => zeroD_tup hz3 hm
  have hzz : z' = zv := by
    have h1 := hz1 w
    simp [zeroValue, typeInfo, hy, q3] at h1
    exact h1.symm
  subst hzz
  have hzs : z'.cells.size = i.ez := by rw [hz4, hte.zl, ← q2, hys]
  have hwz : (zeroD e).width = i.ez := by
    have := RepC_width (RepV_cells (hz2 w (FB F B 0)).1 hzt).1
    rw [← this]
    simpa using hzs
  have hrl : RepL w (FB F B 0) (List.replicate l.toNat (zeroD e)) ((List.replicate l.toNat z').flatMap fun y => y.cells.toList) :=
    RepL_flat _ _ (RepBs_repl (.inr (hz2 w _).1)) fun d hd => by rw [(List.mem_replicate.1 hd).2]; exact ⟨RepV_ne (hz2 w (FB F B 0)).1, hzt⟩
  obtain ⟨F', O', hI'⟩ := hI.fresh (d := d) hk3 (OwnV_new (w := w) (t := i.elem) (n := l.toNat) (cap := cp.toNat) (cs := madeCells z'.cells (cp.toNat * y.size)) hrl (fun d hd => by rw [(List.mem_replicate.1 hd).2]; exact hwz) (by simp) (by omega) (by rw [size_madeCells, hys]; exact Nat.le_refl _) (fun j u hu => made_get (by simpa using hzs) hez (by rw [hys]; exact Nat.mul_le_mul_right _ (by omega)) hu) (fun b hb => (hI.fl b (FB_sub b hb)).1)) (by simp) (fun b hb => heap_alloc_old w _ hb) rfl rfl rfl
  exact many_skip hd hrun hI' hk Q

end
end Go.V
