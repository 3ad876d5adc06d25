/-
  Parts of owned slices, parts of tuples: they keep the invariant.
-/
import Derived.Test.YtfjkapnonljdeaaDoorVp
namespace Go.V
open Go.RowKit

section
variable {P : Program} {c : Cx} {B : Nat} {X : Nat → Prop} {w0 : World} {F0 F : Nat → Prop} {O : Nat → Option (Nat × Nat)} {a : Act} {w : World} {δ : List D}

theorem OwnV_cut {G own : Nat → Prop} {z : Nat} {l : List D} {y : Value} (h : OwnV w G own z (.arr z l) y) :
    ∃ A cc, y = .slice A l.length cc ∧ l.length ≤ cc ∧ ∀ p q, p ≤ q → q ≤ l.length → OwnV w G own z (.arr z ((l.take q).drop p)) (sliced A p q cc z) := by
  obtain ⟨l', e, h2, h3⟩ := h
  cases e
  rcases h3 with ⟨rfl, rfl⟩ | ⟨g, o, cc, us, cs, et, rfl, a2, a3, a4, a5, a6, a7⟩
  · refine ⟨none, 0, rfl, Nat.le_refl _, fun p q hp hq => ?_⟩
    simp only [List.length_nil, Nat.le_zero] at hq
    subst hq
    simp only [Nat.le_zero] at hp
    subst hp
    exact ⟨[], by simp, by simp, .inl ⟨by simp [sliced], rfl⟩⟩
  · refine ⟨_, cc, rfl, a2, fun p q hp hq => ?_⟩
    have hul := RepL_length l us a5 h2
    have hlen : ((l.take q).drop p).length = q - p := by rw [List.length_drop, List.length_take]; omega
    have hcz : p * z + (cc - p) * z = cc * z := by rw [← Nat.add_mul]; congr 1; omega
    obtain ⟨t1, _⟩ := RepL_take l us a5 h2 q
    obtain ⟨_, t2⟩ := RepL_take (l.take q) (us.take (q * z)) t1 (fun d hd => h2 d (List.mem_of_mem_take hd)) p
    refine ⟨_, rfl, fun d hd => h2 d (List.mem_of_mem_take (List.mem_of_mem_drop hd)), .inr ?_⟩
    by_cases hc : cc = p
    · refine ⟨g, o, cc - p, _, cs, et, by simp only [sliced, hc, if_true, hlen], by rw [hlen]; omega, a3, by omega, t2, fun j u hj => ?_, a7⟩
      exfalso
      have h1 := (List.getElem?_eq_some_iff.1 hj).1
      have hqp : q = p := by omega
      subst hqp
      simp only [List.length_drop, List.length_take] at h1
      omega
    · refine ⟨g, o + p * z, cc - p, _, cs, et, by simp only [sliced, hc, if_false, hlen, Option.map_some, Addr.add_lit], by rw [hlen]; omega, a3, by omega, t2, fun j u hj => ?_, a7⟩
      rw [List.getElem?_drop] at hj
      rw [Nat.add_assoc]
      refine a6 _ u ?_
      have h1 := (List.getElem?_eq_some_iff.1 hj).1
      rw [List.length_take] at h1
      rw [List.getElem?_take_of_lt (by omega)] at hj
      exact hj

theorem sound_slice_own (hT : okT P c.T = true) {o : Oper} {t q : Nat} {lo hi : Option Operand} (ho : o.op = .slice t (.tmp q) lo hi none) {i : TI} (hi' : look c.T t = some i) (hsl : i.str = false → isSl i = true)
    {A : Ac} (hA : slOwn c o.dst i (.tmp q) lo hi = some A) (hI : Inv c B X w0 F0 F O a w δ) {k : List D → Option Out} {r : Out} (hg : goAc c A δ k = some r) (Q : Exit → Act → World → Prop) : o.wp P a w (Next c B X w0 F0 k r) Q := by
  have hti := tok hT hi'
  unfold slOwn at hA
  split at hA
  case h_2 => cases hA
  rename_i d rd lv ra hd hs
  split at hA
  case h_2 => cases hA
  rename_i hgv hnew hstr hst
  have hlo : RepB w (FB F B (lvOf c.K (loOf lo))) (opD δ (loOf lo)) (a.eval (loOf lo)) := hI.opd (ble_iff.1 hstr)
  have hloV := LoV_of hlo
  obtain ⟨hu, _, hez, _, y, hy, hz, _⟩ := isSl_ok hti (hsl hst)
  have he : P.elem t = i.elem := by simp [Program.elem, hu]
  have own : ∀ (dx : D) (l : List D) (z' : Nat), dx = .arr z' l → z' = i.ez → ((some ra = none ∧ (rd = [] → (Operand.tmp q) = .const (.slice none 0 0) ∧ dx = .arr 0 [])) ∨ ∃ r z io, some ra = some r ∧ rd ≠ [] ∧ dx = nth δ r ∧ a.eval (.tmp q) = av a r ∧ nthK c.K r = .own z lv io) →
      OwnV w (FB F B lv) (fun g => O g = some (ra, 0) ∧ B ≤ g) i.ez (.arr i.ez l) (a.eval (.tmp q)) := by
    intro dx l z' hdx hzz hq
    subst hzz
    rcases hq with ⟨h, _⟩ | ⟨r', zz, io, h, _, hda, hav, hkr⟩
    · cases h
    cases h
    obtain ⟨z'', lv', hkr'⟩ := mayGive_some hgv
    rw [hkr] at hkr'
    simp only [Kd.own.injEq] at hkr'
    obtain ⟨rfl, rfl, rfl⟩ := hkr'
    have hb : nth δ ra ≠ .bad := by rw [← hda, hdx]; simp
    have hown := hI.own hkr hb
    rw [← hda, hdx] at hown
    rw [hav]
    have hzz : i.ez = zz := by
      obtain ⟨l', e, _⟩ := hown
      simp only [D.arr.injEq] at e
      exact e.1
    rw [← hzz] at hown
    exact hown.own fun _ _ h => ⟨h.1, h.2 rfl⟩
  split at hA
  · rename_i h
    split at hA
    case h_2 => cases hA
    rename_i hh
    cases hA
    simp only [goAc] at hg
    obtain ⟨dx, hg, hdr, hsrcR, hq⟩ := src_ok hI hs hg
    clear hsrcR
    rw [hdr] at hg
    obtain ⟨yy, hyy, hk'⟩ := Option.bind_eq_some_iff.1 hg
    rw [valsOf_eq (δ := δ) [loOf lo, h]] at hyy
    simp only [List.map_cons, List.map_nil, arg2] at hyy
    have hhb := hI.opd (ble_iff.1 hh)
    unfold sliceD at hyy
    split at hyy
    · rename_i z' l k1 p k2 q' _ e1 e2
      split at hyy
      case isFalse => cases hyy
      rename_i hc
      obtain ⟨rfl, c1, c2, c3⟩ := hc
      cases hyy
      rw [e1] at hloV
      rw [e2] at hhb
      obtain ⟨hhv, _⟩ := RepB_v hhb
      have hown := own _ l _ rfl rfl hq
      obtain ⟨A, cc, hyv, hlc, hcut⟩ := OwnV_cut hown
      obtain ⟨F', O', hI'⟩ := hI.pass (d := d) hnew (hcut p.toNat q'.toNat (by omega) (by omega))
      refine many_skip hd (run_v (s := Instr.sliceAt t (av a q) (lo.map a.eval) (some (a.eval h)) none) (by simp only [execOp, ho, eval_tmp, Option.map_some, Option.map_none]) ?_) hI' hk' Q
      rw [eval_tmp] at hyv
      rw [hyv, hhv]
      rcases LoV_int hloV with e | ⟨e, rfl⟩
      · rw [e, run_sliceAt_slice w t _ _ _ _ (by rw [he]; exact hu), run_slice_lh w t A _ cc (by rw [he]; exact hu) k1 k2 p q' c1 c2 (by omega), he, run_sizeOf hy, hz]
        rfl
      · rw [e, run_sliceAt_slice w t _ _ _ _ (by rw [he]; exact hu), run_slice_h w t A _ cc (by rw [he]; exact hu) k2 q' (by omega) (by omega), he, run_sizeOf hy, hz]
        rfl
    · rename_i h _ _; cases h
    · cases hyy
  · cases hA
    simp only [goAc] at hg
    obtain ⟨dx, hg, hdr, hsrcR, hq⟩ := src_ok hI hs hg
    clear hsrcR
    rw [hdr] at hg
    obtain ⟨yy, hyy, hk'⟩ := Option.bind_eq_some_iff.1 hg
    rw [valsOf_eq (δ := δ) [loOf lo]] at hyy
    simp only [List.map_cons, List.map_nil, arg1] at hyy
    unfold sliceHi at hyy
    split at hyy
    · rename_i z' l k1 p _ e1
      split at hyy
      case isFalse => cases hyy
      rename_i hc
      obtain ⟨rfl, c1, c2⟩ := hc
      cases hyy
      rw [e1] at hloV
      have hown := own _ l _ rfl rfl hq
      obtain ⟨A, cc, hyv, hlc, hcut⟩ := OwnV_cut hown
      have hcc := hcut p.toNat l.length (by omega) (Nat.le_refl _)
      rw [List.take_length] at hcc
      obtain ⟨F', O', hI'⟩ := hI.pass (d := d) hnew hcc
      refine many_skip hd (run_v (s := Instr.sliceAt t (av a q) (lo.map a.eval) none none) (by simp only [execOp, ho, eval_tmp, Option.map_none]) ?_) hI' hk' Q
      rw [eval_tmp] at hyv
      rw [hyv]
      rcases LoV_int hloV with e | ⟨e, rfl⟩
      · rw [e, run_sliceAt_slice w t _ _ _ _ (by rw [he]; exact hu), run_slice_l w t A _ cc (by rw [he]; exact hu) k1 p c1 c2, he, run_sizeOf hy, hz]
        rfl
      · rw [e, run_sliceAt_slice w t _ _ _ _ (by rw [he]; exact hu), run_slice_all w t A _ cc (by rw [he]; exact hu), he, run_sizeOf hy, hz]
        rfl
    · rename_i h _; cases h
    · cases hyy

/-! ### parts of tuples -/
theorem Inv.tup (h : Inv c B X w0 F0 F O a w δ) {s : Nat} {ms : List Kd} (hk : nthK c.K s = .tup ms) (hb : nth δ s ≠ .bad) : ∃ l vs, nth δ s = .tup l ∧ av a s = .tuple vs ∧ ∀ i, Lone B F O w (s, i + 1) (nthK ms i) (nth l i) (vs.getD i undef) := by
  have h0 := (h.slot s).resolve_left hb
  rw [hk] at h0
  exact h0

theorem undef_no {G : Nat → Prop} {d : D} (hd : ∀ l, d ≠ .tup l) : ¬ RepV w G d undef := by
  intro h
  cases d
  case tup l => exact hd l rfl
  all_goals simp [RepV, RepC, undef] at h
  · obtain ⟨rfl, h⟩ := h
    simp [flat] at h

theorem nth_set_ne {l : List D} {i j : Nat} {x : D} (h : j ≠ i) : nth (l.set i x) j = nth l j := by
  rw [nth_eq, nth_eq, List.getD_eq_getElem?_getD, List.getD_eq_getElem?_getD, List.getElem?_set_ne (Ne.symm h)]
theorem nth_set_bad {l : List D} {i : Nat} : nth (l.set i .bad) i = .bad := by
  rw [nth_eq, List.getD_eq_getElem?_getD, List.getElem?_set_self']
  cases l[i]? <;> rfl

/-- A slice is taken out of a tuple. -/
theorem Inv.take (h : Inv c B X w0 F0 F O a w δ) {d t i z lv : Nat} {ms : List Kd} {m : List D} {vs : Array Value} {y : Value} (hkt : nthK c.K t = .tup ms) (ht : nth δ t = .tup m) (htv : av a t = .tuple vs) (hl : ∀ j, Lone B F O w (t, j + 1) (nthK ms j) (nth m j) (vs.getD j undef))
    (hk : newIn c.K d z lv = true) (hv : OwnV w (FB F B lv) (fun g => B ≤ g ∧ O g = some (t, i + 1)) z (nth m i) y) :
    ∃ F' O', Inv c B X w0 F0 F' O' (a.put (some d) y) w (setMany δ ([d, t] ++ ([] ++ depsAll c.K [d, t])) [nth m i, .tup (m.set i .bad)]) := by
  have hdt : d ≠ t := by
    intro e
    subst e
    rcases newIn_some hk with ⟨l, hk, _⟩ | ⟨l, hk, _⟩ <;> rw [hk] at hkt <;> cases hkt
  have hblk : ∀ b, V.blk y = some b → (B ≤ b ∧ O b = some (t, i + 1)) ∧ b < w.heap.size := hv.blk
  have hFb : ∀ b, F b → V.blk y ≠ some b := fun b hb e => by
    obtain ⟨⟨_, h1⟩, _⟩ := hblk b e
    rw [(h.fl b hb).2] at h1; cases h1
  have hoS : ∀ (x' : Option (Nat × Nat)) b p, O b = some p → p ≠ (t, i + 1) → giveO O y x' b = some p := fun x' b p hp hm => by
    rw [giveO_ne]
    · exact hp
    · intro e
      rw [(hblk b e).1.2] at hp
      exact hm (by cases hp; rfl)
  have hoO : ∀ (x' : Option (Nat × Nat)) b p, O b = some p → p.1 ∉ [d, t] ++ [] → giveO O y x' b = some p ∧ w.heap[b]? = w.heap[b]? := fun x' b p hp hm => ⟨hoS x' b p hp fun e => hm (by simp [e]), rfl⟩
  have hol : ∀ (x' : Option (Nat × Nat)) b p, giveO O y x' b = some p → b < w.heap.size ∧ (B ≤ b ∨ X b) := fun x' b p hp => by
    by_cases e : V.blk y = some b
    · exact ⟨(hblk b e).2, .inl (hblk b e).1.1⟩
    · rw [giveO_ne e] at hp
      exact h.ol b p hp
  have hav : ∀ s, s ∉ [d, t] → av (a.put (some d) y) s = av a s := fun s hs => av_put_ne fun e => hs (by simp [e])
  have hnd : nth (setMany δ [d, t] [nth m i, .tup (m.set i .bad)]) d = if d < δ.length then nth m i else .bad := by
    simp only [setMany]
    rw [nth_setAt_ne _ _ _ _ hdt, nth_setAt_eq]
  have hnt : nth (setMany δ [d, t] [nth m i, .tup (m.set i .bad)]) t = if t < δ.length then .tup (m.set i .bad) else .bad := by
    simp only [setMany]
    rw [nth_setAt_eq, len_setAt]
  have hslot : ∀ (F' : Nat → Prop) (x' : Option (Nat × Nat)), (∀ b, F b → F' b) → SlotU c.K B F' (giveO O y x') (a.put (some d) y) w t (nth (setMany δ [d, t] [nth m i, .tup (m.set i .bad)]) t) := by
    intro F' x' hF
    rw [hnt]
    split
    case isFalse => exact .inl rfl
    refine .inr ?_
    rw [hkt, av_put_ne hdt.symm]
    refine ⟨_, vs, rfl, htv, fun j => ?_⟩
    by_cases hj : j = i
    · subst hj
      rw [nth_set_bad]
      exact .inl rfl
    · rw [nth_set_ne hj]
      exact Lone_mono hF (fun _ _ => rfl) (fun g hg => ⟨hoS x' g _ hg (by simpa using hj), rfl⟩) (hl j)
  rcases newIn_some hk with ⟨l, hk, hle⟩ | ⟨l, hk, h1l, hle⟩
  · refine ⟨F, giveO O y (some (d, 0)), h.many rfl size_put rfl hav (by simp) (fun s hs => ?_) (fun _ hb => hb) (fun _ _ => rfl) (hoO _) (fun b hb => ⟨(h.fl b hb).1, (giveO_ne (hFb b hb)).trans (h.fl b hb).2⟩) (hol _) (fun _ hb => .inl hb) (Nat.le_refl _) rfl rfl rfl (fun _ _ _ => rfl)⟩
    rw [List.append_nil] at hs ⊢
    have hs' : s = d ∨ s = t := by simpa using hs
    rcases hs' with rfl | rfl
    · rw [hnd]
      split
      case isFalse => exact .inl rfl
      rename_i hd
      refine .inr ?_
      rw [hk, av_put_eq (by rw [h.la, ← h.ld]; exact hd)]
      exact .inr (OwnV_mono' (FB_le hle) (fun _ _ => rfl) (fun g hg ho => ⟨⟨giveO_eq hg, fun _ => ho.1⟩, rfl⟩) hv)
    · exact hslot F _ fun _ h => h
  · refine ⟨addF F y, giveO O y none, h.many rfl size_put rfl hav (by simp) (fun s hs => ?_) (fun _ hb => .inl hb) (fun _ _ => rfl) (hoO _) (fun b hb => ?_) (hol _) (fun b hb => ?_) (Nat.le_refl _) rfl rfl rfl (fun _ _ _ => rfl)⟩
    · rw [List.append_nil] at hs ⊢
      have hs' : s = d ∨ s = t := by simpa using hs
      rcases hs' with rfl | rfl
      · rw [hnd]
        split
        case isFalse => exact .inl rfl
        rename_i hd
        refine .inr ?_
        rw [hk, av_put_eq (by rw [h.la, ← h.ld]; exact hd)]
        refine .inr ?_
        refine RepV_mono (fun b hb => ?_) (fun _ _ => rfl) (OwnV_rep (hv.own (own' := fun g => B ≤ g ∧ V.blk y = some g) fun b hb ho => ⟨ho.1, hb⟩))
        rcases hb with hb | ⟨hb1, hb2⟩
        · exact FB_le hle _ (FB_mono (fun _ h => .inl h) _ hb)
        · have hx : addF F y b := .inr hb2
          match l, h1l with
          | 1, _ => exact ⟨hx, hb1⟩
          | _ + 2, _ => exact hx
      · exact hslot _ _ fun _ h => .inl h
    · rcases hb with hb | hb
      · exact ⟨(h.fl b hb).1, (giveO_ne (hFb b hb)).trans (h.fl b hb).2⟩
      · exact ⟨(hblk b hb).2, giveO_eq hb⟩
    · rcases hb with hb | hb
      · exact .inl hb
      · exact .inr (hblk b hb).1.1

theorem sound_extract {o : Oper} {x : Operand} {i : Nat} (ho : o.op = .extract x i) : Sound P c o := by
  intro A hA B X w0 F0 F O a w δ hI k r hg Q
  simp only [actOf, ho] at hA
  unfold exOf at hA
  split at hA
  case h_2 => cases hA
  rename_i d t hd
  split at hA
  case h_2 => cases hA
  rename_i ms hk
  have getI : ∀ {y : D}, tupAt (nth δ t) i = some y → ∃ l vs, nth δ t = .tup l ∧ av a t = .tuple vs ∧ nth l i = y ∧ (y ≠ .bad ∧ ∀ m, y ≠ .tup m) ∧ (∀ j, Lone B F O w (t, j + 1) (nthK ms j) (nth l j) (vs.getD j undef)) := by
    intro y hy
    have hb : nth δ t ≠ .bad := by
      intro e
      rw [e] at hy
      simp [tupAt] at hy
    obtain ⟨l, vs, h1, h2, h3⟩ := hI.tup hk hb
    rw [h1] at hy
    simp only [tupAt] at hy
    split at hy
    · cases hy
    · cases hy
    · rename_i hne hne2
      refine ⟨l, vs, h1, h2, ?_, ⟨fun e => ?_, fun m e => ?_⟩, h3⟩
      · rw [nth_eq, List.getD_eq_getElem?_getD, hy]; rfl
      · subst e
        exact hne hy
      · subst e
        exact hne2 m hy
  have run : ∀ {vs : Array Value}, av a t = .tuple vs → vs.getD i undef ≠ undef → (execOp a.eval o).run P w = .ok (.value (vs.getD i undef)) w := by
    intro vs hv hne
    refine run_v (s := Instr.extract (av a t) i) (by simp only [execOp, ho, eval_tmp]) ?_
    rw [hv]
    rw [Array.getD_eq_getD_getElem?] at hne ⊢
    cases h : vs[i]? with
    | none => rw [h] at hne; simp at hne
    | some v => simp [Instr.extract, h]
  split at hA
  · rename_i lv hm
    split at hA
    case h_2 => cases hA
    rename_i l hkd
    split at hA
    case h_2 => cases hA
    rename_i hle
    rw [ble_iff] at hle
    cases hA
    refine one_sound hI hd hg (fun z hz => ?_) Q
    simp only [getAll, nth] at hz
    obtain ⟨m, vs, h1, h2, h3, h4, h5⟩ := getI hz
    have h6 := (h5 i).resolve_left (by rw [h3]; exact h4.1)
    rw [hm, h3] at h6
    refine ⟨_, run h2 (fun e => ?_), .inr ?_⟩
    · rw [e] at h6
      exact undef_no h4.2 h6
    · rw [hkd]
      exact RepV_mono (FB_le hle) (fun _ _ => rfl) h6
  · rename_i z lv hm
    split at hA
    case h_2 => cases hA
    rename_i hnew
    cases hA
    simp only [goAc, getAll, nthC] at hg
    obtain ⟨y, hy, hk'⟩ := Option.bind_eq_some_iff.1 hg
    obtain ⟨m, vs, h1, h2, h3, h4, h5⟩ := getI hy
    have h6 := (h5 i).resolve_left (by rw [h3]; exact h4.1)
    rw [hm, h3] at h6
    have hne : vs.getD i undef ≠ undef := by
      intro e
      rw [e] at h6
      obtain ⟨l', e1, _, h7⟩ := h6
      rcases h7 with ⟨h7, _⟩ | ⟨_, _, _, _, _, _, h7, _⟩ <;> simp [undef] at h7
    have hrun := run h2 hne
    rw [← h3] at h6 hk'
    obtain ⟨F', O', hI'⟩ := hI.take (i := i) hk h1 h2 h5 hnew (h6.own fun _ _ ho => ⟨ho.2 rfl, ho.1⟩)
    refine many_skip hd hrun hI' ?_ Q
    rw [h1] at hk'
    exact hk'
  · cases hA

end
end Go.V
