/-
  A store into what a slot owns.
-/
import Derived.Test.YtfjkapnonljdeaaDoorVl
namespace Go.V
open Go.RowKit

section
variable {P : Program} {c : Cx} {B : Nat} {X : Nat → Prop} {w0 : World} {F0 F : Nat → Prop} {O : Nat → Option (Nat × Nat)} {a : Act} {w : World} {δ : List D}

theorem len_put {l vs : List D} {f : Nat} (h : f + vs.length ≤ l.length) : (putCells l f vs).length = l.length := by
  unfold putCells
  simp only [List.length_append, List.length_take, List.length_drop]
  omega

theorem RepC_put {d : D} {m ws : List Value} {vs : List D} {f : Nat} (h : RepC w F d m) (hv : vs.all D.single = true) (hw : RepL w F vs ws) (hf : f + vs.length ≤ d.width) :
    RepC w F (d.ofCells (putCells d.cells f vs)) (m.take f ++ ws ++ m.drop (f + ws.length)) ∧ (d.ofCells (putCells d.cells f vs)).width = d.width := by
  rcases RepC_kind h with ⟨l, rfl⟩ | hs
  · simp only [RepC] at h
    obtain ⟨h1, h2⟩ := RepL_put h.2 hv h.1 hw f
    exact ⟨by simp only [D.ofCells, D.cells, RepC]; exact ⟨h1, h2⟩, len_put hf⟩
  · obtain ⟨hw1, hc1⟩ := width_single hs
    rw [hw1] at hf
    have hr : RepL w F [d] m := RepL_cons.2 ⟨m, [], by simp, h, RepL_nil.2 rfl⟩
    obtain ⟨h1, h2⟩ := RepL_put (by simp [hs]) hv hr hw f
    have h3 : (putCells [d] f vs).length = 1 := len_put (by simpa using hf)
    obtain ⟨e, he⟩ := List.length_eq_one_iff.1 h3
    rw [hc1, he]
    rw [he] at h1 h2
    have e2 : d.ofCells [e] = e := by cases d <;> first | rfl | simp [D.single] at hs
    rw [e2, hw1]
    obtain ⟨v1, v2, e3, h4, h5⟩ := RepL_cons.1 h1
    rw [RepL_nil] at h5
    subst h5
    rw [e3, List.append_nil]
    exact ⟨h4, (width_single (by simpa using h2)).1⟩

theorem cells_put {us cs ws : List Value} {o k n : Nat} (h : ∀ (j : Nat) (u : Value), us[j]? = some u → cs[o + j]? = some u) (hk : k + n ≤ us.length) (hn : ws.length = n) (hc : o + us.length ≤ cs.length) :
    ∀ (j : Nat) (u : Value), (us.take k ++ ws ++ us.drop (k + n))[j]? = some u → (cs.take (o + k) ++ ws ++ cs.drop (o + k + n))[o + j]? = some u := by
  intro j u hj
  have l1 : (us.take k).length = k := by rw [List.length_take]; omega
  have l2 : (cs.take (o + k)).length = o + k := by rw [List.length_take]; omega
  rcases Nat.lt_or_ge j k with hjk | hjk
  · rw [List.append_assoc, List.getElem?_append_left (by omega), List.getElem?_take_of_lt hjk] at hj
    rw [List.append_assoc, List.getElem?_append_left (by omega), List.getElem?_take_of_lt (by omega)]
    exact h j u hj
  · rcases Nat.lt_or_ge j (k + n) with hj2 | hj2
    · rw [List.append_assoc, List.getElem?_append_right (by omega), l1, List.getElem?_append_left (by omega)] at hj
      rw [List.append_assoc, List.getElem?_append_right (by omega), l2, List.getElem?_append_left (by omega)]
      rw [show o + j - (o + k) = j - k from by omega]
      exact hj
    · have l3 : (us.take k ++ ws).length = k + n := by rw [List.length_append]; omega
      have l4 : (cs.take (o + k) ++ ws).length = o + k + n := by rw [List.length_append]; omega
      rw [List.getElem?_append_right (by omega), l3, List.getElem?_drop] at hj
      rw [List.getElem?_append_right (by omega), l4, List.getElem?_drop]
      have := h _ u hj
      rw [← this]
      congr 1
      omega

theorem part_put {p m q ws : List Value} {f n : Nat} (h : f + n ≤ m.length) :
    p ++ (m.take f ++ ws ++ m.drop (f + n)) ++ q = (p ++ m ++ q).take (p.length + f) ++ ws ++ (p ++ m ++ q).drop (p.length + f + n) := by
  rw [List.append_assoc p m q, List.take_length_add_append, Nat.add_assoc, List.drop_length_add_append, List.take_append_of_le_length (by omega), List.drop_append_of_le_length (by omega)]
  simp

/-- What a store makes of an owned object. -/
theorem store_core (hI : Inv c B X w0 F0 F O a w δ) {r i f t n : Nat} {p yv yy : Value} {x b' : D} (hb : nth δ r ≠ .bad) (hr : RefV (nthK c.K r) (av a r) i f p) (hst : stD n (nth δ r) (.ref i f) x = some b') (hsz : (sizeOf t).run P w = .ok n w)
    (hx : ∀ w', (∀ b, addF F yy b → w'.heap[b]? = w.heap[b]?) → RepV w' (FB (addF F yy) B (rootLv c.K r)) x yv) (hyg : ∀ g, O g = some (r, 0) → blk yy ≠ some g) :
    ∃ g w', (Instr.storeAt t p yv).run P w = .ok () w' ∧ O g = some (r, 0) ∧ (B ≤ g ∨ X g) ∧ (∀ b, b ≠ g → w'.heap[b]? = w.heap[b]?) ∧ w'.heap.size = w.heap.size ∧ w'.os = w.os ∧ w'.tape = w.tape ∧ w'.output = w.output ∧ b' ≠ .bad ∧
      Lone B (addF F yy) (giveO O yy none) w' (r, 0) (nthK c.K r) b' (av a r) := by
  unfold RefV at hr
  split at hr
  · rename_i z lv io hk
    obtain ⟨g, o, nn, cap, hy, rfl⟩ := hr
    obtain ⟨l, hd, hwid, hrest⟩ := hI.own hk hb
    rcases hrest with ⟨e, _⟩ | ⟨g', o', c', us, cs, e, a1, a2, a3, a4, a5, a6, a7⟩
    · rw [hy] at e; cases e
    rw [hy] at a1
    simp at a1
    obtain ⟨⟨rfl, rfl⟩, rfl, rfl⟩ := a1
    rw [hd] at hst
    simp only [stD] at hst
    split at hst
    case h_2 => cases hst
    rename_i d hdi
    split at hst
    case isFalse => cases hst
    rename_i hc
    obtain ⟨hc1, hc2, hc3⟩ := hc
    simp only [Option.some.injEq] at hst
    subst hst
    obtain ⟨pp, mm, q, hus, h1, h2, h3, h4, h5⟩ := RepL_get l us a5 hwid i d hdi
    have hwd : d.width = z := hwid d (List.mem_of_getElem? hdi)
    have hil : i < l.length := (List.getElem?_eq_some_iff.1 hdi).1
    have hulen := RepL_length l us a5 hwid
    have hcz : l.length * z ≤ cap * z := Nat.mul_le_mul_right _ a2
    have hiz : (i + 1) * z ≤ l.length * z := Nat.mul_le_mul_right _ hil
    rw [Nat.succ_mul] at hiz
    have hFg : ∀ b, addF F yy b → b ≠ g := fun b hbF e => by
      subst e
      rcases hbF with hbF | hbF
      · rw [(hI.fl b hbF).2] at a7; cases a7.1
      · exact hyg b a7.1 hbF
    have hheap : ∀ (cs' : Array Value) b, b ≠ g → (w.setRow g cs').heap[b]? = w.heap[b]? := fun cs' b hne => setRow_other w g b cs' hne
    have hxr := hx w (fun _ _ => rfl)
    obtain ⟨_, g2, g3⟩ := RepV_cells hxr (not_tup hc3)
    have hyn : yv.cells.toList.length = n := by rw [(RepL_single _ _ g2 g3).1, hc1]
    have hone : ∀ v ∈ yv.cells.toList, v.oneCell' = true := fun v hv => ((RepL_single _ _ g2 g3).2.1 v hv).1
    have hoff : o + i * z + f + n ≤ cs.size := by omega
    have hrun := storeVar_run (P := P) (t := t) (n := n) (y := yv) (o := o + i * z + f) hsz (by simpa using hyn) a3 hoff hone
    obtain ⟨cs', hcs'⟩ : ∃ x : Array Value, x = (cs.toList.take (o + i * z + f) ++ yv.cells.toList ++ cs.toList.drop (o + i * z + f + n)).toArray := ⟨_, rfl⟩
    rw [← hcs'] at hrun
    refine ⟨g, w.setRow g cs', ?_, a7.1, (hI.ol g _ a7.1).2, hheap cs', setRow_size w g cs', rfl, rfl, rfl, by simp, .inr ?_⟩
    · simp only [Instr.storeAt, Instr.sureAddr, Sem.run_bind, Sem.run_pure, Result.andThen_ok]
      exact hrun
    rw [hk]
    have hmono : ∀ b, FB F B lv b → FB (addF F yy) B lv b := FB_mono fun _ h => .inl h
    have hrl : rootLv c.K r = lv := by simp [rootLv, hk]
    rw [hrl] at hx
    have hx' := hx (w.setRow g cs') (fun b hb => hheap _ b (hFg b hb))
    obtain ⟨_, _, g3'⟩ := RepV_cells hx' (not_tup hc3)
    have mono : ∀ {l : List D} {us : List Value}, RepL w (FB F B lv) l us → RepL (w.setRow g cs') (FB (addF F yy) B lv) l us :=
      fun h => RepL_mono hmono (fun b hb => hheap _ b (hFg b (.inl (FB_sub b hb)))) _ _ h
    have h3' := RepC_mono hmono (fun b hb => hheap cs' b (hFg b (.inl (FB_sub b hb)))) _ _ h3
    obtain ⟨r1, r2⟩ := RepC_put (f := f) h3' hc3 g3' (by rw [hc1]; exact hc2)
    refine ⟨_, rfl, fun e he => ?_, .inr ⟨g, o, cap, pp ++ (mm.take f ++ yv.cells.toList ++ mm.drop (f + n)) ++ q, cs', e, by rw [hy, List.length_set], by rw [List.length_set]; exact a2, setRow_heap w g cs _ e (0, 0) a3, ?_, ?_, ?_, ?_, a7.2⟩⟩
    · rcases List.mem_or_eq_of_mem_set he with he | he
      · exact hwid e he
      · rw [he, r2, hwd]
    · subst hcs'
      simp only [List.size_toArray, List.length_append, List.length_take, List.length_drop, Array.length_toList, hyn]
      omega
    · have e1 : l.set i (d.ofCells (putCells d.cells f x.cells)) = l.take i ++ (d.ofCells (putCells d.cells f x.cells)) :: l.drop (i + 1) := List.set_eq_take_append_cons_drop.trans (by rw [if_pos hil])
      rw [e1, List.append_assoc]
      exact (RepL_append _ _ _).2 ⟨_, _, rfl, mono h4, RepL_cons.2 ⟨_, _, rfl, by rw [hyn] at r1; exact r1, mono h5⟩⟩
    · subst hcs'
      rw [part_put (by omega), ← hus, h1]
      intro j u hj
      have := cells_put (o := o) (cs := cs.toList) (fun j u hj => by simpa using a6 j u hj) (k := i * z + f) (n := n) (by omega) hyn (by simpa using by omega) j u hj
      simpa [Nat.add_assoc] using this
    · exact (giveO_ne (hyg g a7.1)).trans a7.1
  · rename_i n' lv io hk
    obtain ⟨g, hy, rfl⟩ := hr
    obtain ⟨l, us, g', e, hd, a1, a2, a3, a4, a5, a6⟩ := hI.box hk hb
    rw [hy] at a1
    simp at a1
    subst a1
    rw [hd] at hst
    simp only [stD] at hst
    split at hst
    case isFalse => cases hst
    rename_i hc
    obtain ⟨hc1, hc2, hc3⟩ := hc
    simp only [Option.some.injEq] at hst
    subst hst
    have hFg : ∀ b, addF F yy b → b ≠ g := fun b hbF e => by
      subst e
      rcases hbF with hbF | hbF
      · rw [(hI.fl b hbF).2] at a6; cases a6.1
      · exact hyg b a6.1 hbF
    have hheap : ∀ (cs' : Array Value) b, b ≠ g → (w.setRow g cs').heap[b]? = w.heap[b]? := fun cs' b hne => setRow_other w g b cs' hne
    have hxr := hx w (fun _ _ => rfl)
    obtain ⟨_, g2, g3⟩ := RepV_cells hxr (not_tup hc3)
    have hyn : yv.cells.toList.length = n := by rw [(RepL_single _ _ g2 g3).1, hc1]
    have hone : ∀ v ∈ yv.cells.toList, v.oneCell' = true := fun v hv => ((RepL_single _ _ g2 g3).2.1 v hv).1
    have hul := (RepL_single _ _ a4 a3).1
    have hrun := storeVar_run (P := P) (t := t) (n := n) (y := yv) (o := f) hsz (by simpa using hyn) a2 (by simp; omega) hone
    obtain ⟨cs', hcs'⟩ : ∃ x : Array Value, x = (us.toArray.toList.take f ++ yv.cells.toList ++ us.toArray.toList.drop (f + n)).toArray := ⟨_, rfl⟩
    rw [← hcs'] at hrun
    refine ⟨g, w.setRow g cs', ?_, a6.1, (hI.ol g _ a6.1).2, hheap cs', setRow_size w g cs', rfl, rfl, rfl, by simp, .inr ?_⟩
    · simp only [Instr.storeAt, Instr.sureAddr, Sem.run_bind, Sem.run_pure, Result.andThen_ok]
      exact hrun
    rw [hk]
    have hrl : rootLv c.K r = lv := by simp [rootLv, hk]
    rw [hrl] at hx
    have hx' := hx (w.setRow g cs') (fun b hb => hheap _ b (hFg b hb))
    obtain ⟨_, _, g3'⟩ := RepV_cells hx' (not_tup hc3)
    have a3' := RepL_mono (FB_mono (F' := addF F yy) fun _ h => .inl h) (fun b hb => hheap cs' b (hFg b (.inl (FB_sub b hb)))) _ _ a3
    obtain ⟨r1, r2⟩ := RepL_put a4 hc3 a3' g3' f
    rw [hyn] at r1
    subst hcs'
    exact ⟨_, _, g, e, rfl, hy, setRow_heap w g _ _ e (0, 0) a2, by simpa using r1, r2, by rw [len_put (by omega)]; exact a5, (giveO_ne (hyg g a6.1)).trans a6.1, a6.2⟩
  · exact hr.elim

end
end Go.V
