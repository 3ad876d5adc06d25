/-
  New memory and stores: they keep the invariant.
-/
import Derived.Test.YtfjkapnonljdeaaDoorVk
namespace Go.V
open Go.RowKit

section
variable {P : Program} {c : Cx} {B : Nat} {X : Nat → Prop} {w0 : World} {F0 F : Nat → Prop} {O : Nat → Option (Nat × Nat)} {a : Act} {w : World} {δ : List D}

theorem giveO_eq {O : Nat → Option (Nat × Nat)} {y : Value} {x : Option (Nat × Nat)} {b : Nat} (h : blk y = some b) : giveO O y x b = x := by unfold giveO; rw [if_pos h]
theorem giveO_ne {O : Nat → Option (Nat × Nat)} {y : Value} {x : Option (Nat × Nat)} {b : Nat} (h : blk y ≠ some b) : giveO O y x b = O b := by unfold giveO; rw [if_neg h]
theorem blk_ptr {g o : Nat} {s : Option Nat} {b : Nat} : blk (.pointer (some ⟨g, o, s⟩)) = some b ↔ g = b := by simp [blk]

/-- A new variable's cells are put into a slot. -/
theorem Inv.fresh1 (h : Inv c B X w0 F0 F O a w δ) {d n lv : Nat} {x : D} {y : Value} {w' : World} (hk : nthK c.K d = .box n lv false)
    (hv : BoxV w' (FB F B lv) (fun g => w.heap.size ≤ g) n x y) (sz : w.heap.size ≤ w'.heap.size) (hw : ∀ b, b < w.heap.size → w'.heap[b]? = w.heap[b]?)
    (os : w'.os = w.os) (tape : w'.tape = w.tape) (output : w'.output = w.output) :
    ∃ F' O', Inv c B X w0 F0 F' O' (a.put (some d) y) w' (setMany δ ([d] ++ ([] ++ depsAll c.K [d])) [x]) := by
  obtain ⟨l, us, g, e, h1, h2, h3, h4, h5, h6, h7⟩ := hv
  subst h2
  have hg : g < w'.heap.size := (Array.getElem?_eq_some_iff.1 h3).1
  refine ⟨F, giveO O (.pointer (some ⟨g, 0, none⟩)) (some (d, 0)), h.many (by simp) size_put rfl (fun s hs => av_put_ne fun e => hs (by simp [e])) (by simp) (fun s hs => ?_) (fun _ hb => hb) (fun b hb => hw b (h.fl b hb).1) (fun b p hp _ => ⟨?_, hw b (h.ol b p hp).1⟩) (fun b hb => ⟨Nat.lt_of_lt_of_le (h.fl b hb).1 sz, ?_⟩) (fun b p hp => ?_) (fun _ hb => .inl hb) sz os tape output (fun b hb _ => hw b (Nat.lt_of_lt_of_le hb h.bb))⟩
  · rw [List.append_nil] at hs ⊢
    rcases nth_install (δ := δ) (x := x) (ts := []) hs with e | ⟨rfl, hd, e⟩
    · exact .inl e
    · refine .inr ?_
      simp only [List.map_nil] at e
      rw [hk, e, av_put_eq (by rw [h.la, ← h.ld]; exact hd)]
      exact .inr ⟨l, us, g, _, h1, rfl, h3, h4, h5, h6, giveO_eq rfl, fun _ => Nat.le_trans h.bb h7⟩
  · have := (h.ol b p hp).1
    rw [giveO_ne (fun e => by rw [blk_ptr] at e; omega)]
    exact hp
  · have := (h.fl b hb).1
    rw [giveO_ne (fun e => by rw [blk_ptr] at e; omega)]
    exact (h.fl b hb).2
  · by_cases e : g = b
    · subst e
      exact ⟨hg, .inl (Nat.le_trans h.bb h7)⟩
    · rw [giveO_ne (fun e' => e (blk_ptr.1 e'))] at hp
      exact ⟨Nat.lt_of_lt_of_le (h.ol b p hp).1 sz, (h.ol b p hp).2⟩

theorem run_newVar (t : Nat) (v : Value) (w : World) : (newVar t v).run P w = .ok ⟨w.heap.size, 0, none⟩ (w.alloc (.cells v.cells t)) := by simp [newVar, newRow]

theorem BoxV_new {F : Nat → Prop} {n t : Nat} {l : List D} {v : Value} (hr : RepL w F l v.cells.toList) (hs : l.all D.single = true) (hn : l.length = n) (hF : ∀ b, F b → b < w.heap.size) :
    BoxV (w.alloc (.cells v.cells t)) F (fun g => w.heap.size ≤ g) n (.agg l) (.pointer (some ⟨w.heap.size, 0, none⟩)) :=
  ⟨l, v.cells.toList, _, t, rfl, rfl, by simpa using heap_alloc_new w _, RepL_mono (fun _ h => h) (fun b hb => heap_alloc_old w _ (hF b hb)) _ _ hr, hs, hn, Nat.le_refl _⟩

theorem sound_alloc (hT : okT P c.T = true) {o : Oper} {t : Nat} (ho : o.op = .alloc t) : Sound P c o := by
  intro A hA B X w0 F0 F O a w δ hI k r hg Q
  simp only [actOf, ho] at hA
  have hA0 := withT_some hA
  clear hA
  obtain ⟨i, hi, hA⟩ := hA0
  have hti := tok hT hi
  unfold alOf at hA
  split at hA
  · cases hA
  rename_i d hd
  split at hA
  case h_2 => cases hA
  rename_i n lv hk
  split at hA
  case h_2 => cases hA
  rename_i hn
  rw [beq_iff] at hn
  cases hA
  simp only [goAc] at hg
  obtain ⟨z, hz, hr, hs, hsz⟩ := hti.zero
  have hrun : (execOp a.eval o).run P w = .ok (.value (.pointer (some ⟨w.heap.size, 0, none⟩))) (w.alloc (.cells z.cells t)) := by
    refine run_v (s := Instr.alloc t true (.tuple #[])) (by simp only [execOp, ho]) ?_
    simp [Instr.alloc, hz w, newVar, newRow]
  obtain ⟨F', O', hI'⟩ := hI.fresh1 hk (BoxV_new (w := w) (t := t) (v := z) (F := FB F B lv) (hr w _).2 hs (hti.zl.trans hn.symm) fun b hb => (hI.fl b (FB_sub b hb)).1) (by simp) (fun b hb => heap_alloc_old w _ hb) rfl rfl rfl
  exact many_skip hd hrun hI' hg Q

theorem sound_box {o : Oper} {t : Nat} {x : Operand} (ho : o.op = .box t x) : Sound P c o := by
  intro A hA B X w0 F0 F O a w δ hI k r hg Q
  simp only [actOf, ho] at hA
  have hA0 := withT_some hA
  clear hA
  obtain ⟨i, hi, hA⟩ := hA0
  unfold bxOf at hA
  split at hA
  · cases hA
  rename_i d hd
  split at hA
  case h_2 => cases hA
  rename_i n lv hk
  split at hA
  case h_2 => cases hA
  rename_i hn hx
  have hx : lvOf c.K x ≤ 2 := ble_iff.1 hx
  have hop := hI.opd hx
  have main : ∀ y : D, boxD n (opD δ x) = some y → RepB w (FB F B lv) (opD δ x) (a.eval x) → k (setMany δ ([d] ++ ([] ++ depsAll c.K [d])) [y]) = some r → o.wp P a w (Next c B X w0 F0 k r) Q := by
    intro y hy hrep hk'
    unfold boxD at hy
    split at hy
    case isFalse => cases hy
    rename_i hc
    cases hy
    have hne : opD δ x ≠ .bad := by
      intro e
      rw [e] at hc
      simp [D.cells, D.single] at hc
    obtain ⟨_, _, g3⟩ := RepV_cells (hrep.rep hne) (not_tup hc.2)
    have hrun : (execOp a.eval o).run P w = .ok (.value (.pointer (some ⟨w.heap.size, 0, none⟩))) (w.alloc (.cells (a.eval x).cells t)) := by
      refine run_v (s := Instr.box t (a.eval x)) (by simp only [execOp, ho]) ?_
      simp [Instr.box, newVar, newRow]
    obtain ⟨F', O', hI'⟩ := hI.fresh1 hk (BoxV_new (w := w) (t := t) (F := FB F B lv) g3 hc.2 hc.1 fun b hb => (hI.fl b (FB_sub b hb)).1) (by simp) (fun b hb => heap_alloc_old w _ hb) rfl rfl rfl
    exact many_skip hd hrun hI' hk' Q
  split at hA
  · rename_i hle
    rw [ble_iff] at hle
    cases hA
    simp only [goAc] at hg
    rw [valsOf_eq] at hg
    obtain ⟨y, h1, h2⟩ := Option.bind_eq_some_iff.1 hg
    obtain ⟨d1, e, h1⟩ := arg1_some h1
    simp only [List.map_cons, List.map_nil, List.cons.injEq, and_true] at e
    subst e
    exact main y h1 (RepB_le hle hop) h2
  · split at hA
    case h_2 => cases hA
    cases hA
    simp only [goAc] at hg
    rw [valsOf_eq] at hg
    obtain ⟨y, h1, h2⟩ := Option.bind_eq_some_iff.1 hg
    obtain ⟨d1, e, h1⟩ := arg1_some h1
    simp only [List.map_cons, List.map_nil, List.cons.injEq, and_true] at e
    subst e
    obtain ⟨z, hc, h1⟩ := Option.bind_eq_some_iff.1 h1
    unfold chkV at hc
    split at hc
    case isFalse => cases hc
    rename_i hv
    cases hc
    refine main y h1 (.inr (RepV_isV hv (hop.rep ?_))) h2
    intro e
    rw [e] at hv
    simp [D.isV] at hv

/-! ### a store -/
theorem setRow_size (w : World) (g : Nat) (cs : Array Value) : (w.setRow g cs).heap.size = w.heap.size := by simp [World.setRow]

/-- The contents of a root are new; a slice may have been given up to it. -/
theorem Inv.write (h : Inv c B X w0 F0 F O a w δ) {r : Nat} {ts : List Nat} {x : D} {y : Value} {g : Nat} {w' : World} (hts : r ∉ ts)
    (hy : ∀ b, blk y = some b → B ≤ b ∧ ∃ p, O b = some p ∧ p.1 ∈ ts) (hx : x ≠ .bad) (hrt : isRoot c.K r) (hr0 : O g = some (r, 0))
    (hrep : Lone B (addF F y) (giveO O y none) w' (r, 0) (nthK c.K r) x (av a r))
    (hw : ∀ b, b ≠ g → w'.heap[b]? = w.heap[b]?) (sz : w'.heap.size = w.heap.size) (os : w'.os = w.os) (tape : w'.tape = w.tape) (output : w'.output = w.output) (hkeep : B ≤ g ∨ X g) :
    ∃ F' O', Inv c B X w0 F0 F' O' a w' (setMany δ (ts ++ ([r] ++ depsAll c.K ts)) ((ts.map fun _ => .bad) ++ [x])) := by
  have hFg : ∀ b, F b → b ≠ g := fun b hb e => by
    subst e
    rw [(h.fl b hb).2] at hr0
    cases hr0
  have hset : ∀ s, nth (setMany δ (ts ++ [r]) ((ts.map fun _ => .bad) ++ [x])) s = if s = r then (if r < δ.length then x else .bad) else if s ∈ ts then .bad else nth δ s := by
    intro s
    have e : setMany δ (ts ++ [r]) ((ts.map fun _ => .bad) ++ [x]) = setAt (setMany δ ts (ts.map fun _ => .bad)) r x := by
      have : ∀ (ts : List Nat) (δ : List D), setMany δ (ts ++ [r]) ((ts.map fun _ => D.bad) ++ [x]) = setAt (setMany δ ts (ts.map fun _ => .bad)) r x := by
        intro ts
        induction ts with
        | nil => intro δ; simp [setMany]
        | cons t ts ih => intro δ; simp only [List.cons_append, List.map_cons, setMany]; exact ih _
      exact this ts δ
    rw [e]
    by_cases hs : s = r
    · subst hs
      rw [nth_setAt_eq, if_pos rfl, len_setMany]
    · rw [nth_setAt_ne _ _ _ _ hs, if_neg hs]
      split
      · exact setMany_dead ts δ s ‹_›
      · exact nth_setMany_notin _ _ _ _ ‹_›
  have hlt : g < w.heap.size := (h.ol g _ hr0).1
  have hrd : r < δ.length := by
    rw [h.ld]
    by_cases hd : r < c.K.length
    · exact hd
    · exfalso
      have : ∀ (K : List Kd) (r : Nat), ¬ r < K.length → nthK K r = .no := by
        intro K
        induction K with
        | nil => intro r _; rfl
        | cons k K ih =>
          intro r hr
          cases r with
          | zero => simp at hr
          | succ r => exact ih r (by simpa using hr)
      rw [isRoot, this c.K r hd] at hrt
      exact hrt
  refine ⟨addF F y, giveO O y none, h.many (by simp) rfl rfl (fun _ _ => rfl) (fun s hs _ _ => ?_) (fun s hs => ?_) (fun _ hb => .inl hb) (fun b hb => hw b (hFg b hb)) (fun b p hp hm => ?_) (fun b hb => ?_) (fun b p hp => ?_) (fun b hb => ?_) (Nat.le_of_eq sz.symm) os tape output (fun b hb hx => hw b fun e => ?_)⟩
  · have : s = r := by simpa using hs
    subst this
    rw [hset, if_pos rfl, if_pos hrd]
    exact hx
  · rw [hset]
    by_cases hsr : s = r
    · subst hsr
      rw [if_pos rfl, if_pos hrd]
      refine .inr ?_
      unfold isRoot at hrt
      generalize nthK c.K s = kk at hrt hrep
      cases kk <;> first | exact hrt.elim | exact hrep
    · have : s ∈ ts := by simpa [hsr] using hs
      rw [if_neg hsr, if_pos this]
      exact .inl rfl
  · have hpr : p.1 ≠ r := fun e => hm (by simp [e])
    have hpt : p.1 ∉ ts := fun e => hm (by simp [e])
    refine ⟨?_, hw b fun e => ?_⟩
    · unfold giveO
      rw [if_neg]
      · exact hp
      · intro e
        obtain ⟨_, q, hq, hq'⟩ := hy b e
        rw [hp] at hq
        cases hq
        exact hpt hq'
    · subst e
      rw [hp] at hr0
      cases hr0
      exact hpr rfl
  · rw [sz]
    rcases hb with hb | hb
    · refine ⟨(h.fl b hb).1, ?_⟩
      unfold giveO
      rw [if_neg]
      · exact (h.fl b hb).2
      · intro e
        obtain ⟨_, q, hq, _⟩ := hy b e
        rw [(h.fl b hb).2] at hq
        cases hq
    · obtain ⟨_, q, hq, _⟩ := hy b hb
      exact ⟨(h.ol b q hq).1, by unfold giveO; rw [if_pos hb]⟩
  · rw [sz]
    unfold giveO at hp
    split at hp
    · cases hp
    · exact h.ol b p hp
  · rcases hb with hb | hb
    · exact .inl hb
    · exact .inr (hy b hb).1
  · subst e
    rcases hkeep with h1 | h1
    · omega
    · exact hx h1

/-- Cells stored: what the world is then. -/
theorem storeVar_run {t n g o : Nat} {e : Nat} {cs : Array Value} {y : Value} (hsz : (sizeOf t).run P w = .ok n w) (hn : y.cells.size = n) (hg : w.heap[g]? = some (.cells cs e (0, 0))) (hle : o + n ≤ cs.size) (h1 : ∀ v ∈ y.cells.toList, v.oneCell' = true) :
    (storeVar t ⟨g, o, none⟩ y).run P w = .ok () (w.setRow g (cs.toList.take o ++ y.cells.toList ++ cs.toList.drop (o + n)).toArray) := by
  have hst := run_storeCells_at P g o e y.cells.toList 0 cs w hg (by simpa [hn] using hle) h1
  simp only [Nat.add_zero, Array.length_toList, hn] at hst
  simp [storeVar, hsz, hn, hst]

end
end Go.V
