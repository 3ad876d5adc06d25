/-
  Parts of owned slices, parts of tuples: they keep the invariant.
-/
import Derived.Test.YtankikbbdfgkbaaRows
import Derived.Test.YtankikbbdfgkbaaM2
namespace Go.V
open Go.RowKit

section
variable {P : Program} {c : Cx} {B : Nat} {X : Nat → Prop} {w0 : World} {F0 F : Nat → Prop} {O : Nat → Option (Nat × Nat)} {a : Act} {w : World} {δ : List D}

theorem OwnV_cut {G own : Nat → Prop} {z : Nat} {l : List D} {y : Value} (h : OwnV w G own z (.arr z l) y) :
    ∃ A cc, y = .slice A l.length cc ∧ l.length ≤ cc ∧ ∀ p q, p ≤ q → q ≤ l.length → OwnV w G own z (.arr z ((l.take q).drop p)) (sliced A p q cc z) := by
  obtain ⟨l', e, h2, h3⟩ := h
  cases e
  rcases h3 with ⟨rfl, rfl⟩ | ⟨g, o, cc, us, cs, et, rfl, a2, a3, a4, a5, a6, a7⟩
  · refine ⟨none, 0, rfl, Nat.le_refl _, fun p q hp hq => ?_⟩
    simp only [List.length_nil, Nat.le_zero] at hq
    subst hq
    simp only [Nat.le_zero] at hp
    subst hp
    exact ⟨[], by simp, by simp, .inl ⟨by simp [sliced], rfl⟩⟩
  · refine ⟨_, cc, rfl, a2, fun p q hp hq => ?_⟩
    have hul := RepL_length l us a5 h2
    have hlen : ((l.take q).drop p).length = q - p := by rw [List.length_drop, List.length_take]; omega
    have hcz : p * z + (cc - p) * z = cc * z := by rw [← Nat.add_mul]; congr 1; omega
    obtain ⟨t1, _⟩ := RepL_take l us a5 h2 q
    obtain ⟨_, t2⟩ := RepL_take (l.take q) (us.take (q * z)) t1 (fun d hd => h2 d (List.mem_of_mem_take hd)) p
    refine ⟨_, rfl, fun d hd => h2 d (List.mem_of_mem_take (List.mem_of_mem_drop hd)), .inr ?_⟩
    by_cases hc : cc = p
    · refine ⟨g, o, cc - p, _, cs, et, by simp only [sliced, hc, if_true, hlen], by rw [hlen]; omega, a3, by omega, t2, fun j u hj => ?_, a7⟩
      exfalso
      have h1 := (List.getElem?_eq_some_iff.1 hj).1
      have hqp : q = p := by omega
      subst hqp
      simp only [List.length_drop, List.length_take] at h1
      omega
    · refine ⟨g, o + p * z, cc - p, _, cs, et, by simp only [sliced, hc, if_false, hlen, Option.map_some, Addr.add_lit], by rw [hlen]; omega, a3, by omega, t2, fun j u hj => ?_, a7⟩
      rw [List.getElem?_drop] at hj
      rw [Nat.add_assoc]
      refine a6 _ u ?_
      have h1 := (List.getElem?_eq_some_iff.1 hj).1
      rw [List.length_take] at h1
      rw [List.getElem?_take_of_lt (by omega)] at hj
      exact hj

theorem sound_slice_own (hT : okT P c.T = true) {o : Oper} {t q : Nat} {lo hi : Option Operand} (ho : o.op = .slice t (.tmp q) lo hi none) {i : TI} (hi' : look c.T t = some i) (hsl : i.str = false → isSl i = true)
    {A : Ac} (hA : slOwn c o.dst i (.tmp q) lo hi = some A) (hI : Inv c B X w0 F0 F O a w δ) {k : List D → Option Out} {r : Out} (hg : goAc c A δ k = some r) (Q : Exit → Act → World → Prop) : o.wp P a w (Next c B X w0 F0 k r) Q := by
  have hti := tok hT hi'
  unfold slOwn at hA
  split at hA
  case h_2 => cases hA
  rename_i d rd lv ra hd hs
  split at hA
  case h_2 => cases hA
  rename_i hgv hnew hstr hst
  have hlo : RepB w (FB F B (lvOf c.K (loOf lo))) (opD δ (loOf lo)) (a.eval (loOf lo)) := hI.opd (ble_iff.1 hstr)
  have hloV := LoV_of hlo
  obtain ⟨hu, _, hez, _, y, hy, hz, _⟩ := isSl_ok hti (hsl hst)
  have he : P.elem t = i.elem := by simp [Program.elem, hu]
  have own : ∀ (dx : D) (l : List D) (z' : Nat), dx = .arr z' l → z' = i.ez → ((some ra = none ∧ (rd = [] → (Operand.tmp q) = .const (.slice none 0 0) ∧ dx = .arr 0 [])) ∨ ∃ r z io, some ra = some r ∧ rd ≠ [] ∧ dx = nth δ r ∧ a.eval (.tmp q) = av a r ∧ nthK c.K r = .own z lv io) →
      OwnV w (FB F B lv) (fun g => O g = some (ra, 0) ∧ B ≤ g) i.ez (.arr i.ez l) (a.eval (.tmp q)) := by
    intro dx l z' hdx hzz hq
    subst hzz
    rcases hq with ⟨h, _⟩ | ⟨r', zz, io, h, _, hda, hav, hkr⟩
    · cases h
    cases h
    obtain ⟨z'', lv', hkr'⟩ := mayGive_some hgv
    rw [hkr] at hkr'
    simp only [Kd.own.injEq] at hkr'
    obtain ⟨rfl, rfl, rfl⟩ := hkr'
    have hb : nth δ ra ≠ .bad := by rw [← hda, hdx]; simp
    have hown := hI.own hkr hb
    rw [← hda, hdx] at hown
    rw [hav]
    have hzz : i.ez = zz := by
      obtain ⟨l', e, _⟩ := hown
      simp only [D.arr.injEq] at e
      exact e.1
    rw [← hzz] at hown
    exact hown.own fun _ _ h => ⟨h.1, h.2 rfl⟩
  split at hA
  · rename_i h
    split at hA
    case h_2 => cases hA
    rename_i hh
    cases hA
    simp only [goAc] at hg
    obtain ⟨dx, hg, hdr, hsrcR, hq⟩ := src_ok hI hs hg
    clear hsrcR
    rw [hdr] at hg
    obtain ⟨yy, hyy, hk'⟩ := Option.bind_eq_some_iff.1 hg
    rw [valsOf_eq (δ := δ) [loOf lo, h]] at hyy
    simp only [List.map_cons, List.map_nil, arg2] at hyy
    have hhb := hI.opd (ble_iff.1 hh)
    unfold sliceD at hyy
    split at hyy
    · rename_i z' l k1 p k2 q' _ e1 e2
      split at hyy
      case isFalse => cases hyy
      rename_i hc
      obtain ⟨rfl, c1, c2, c3⟩ := hc
      cases hyy
      rw [e1] at hloV
      rw [e2] at hhb
      obtain ⟨hhv, _⟩ := RepB_v hhb
      have hown := own _ l _ rfl rfl hq
      obtain ⟨A, cc, hyv, hlc, hcut⟩ := OwnV_cut hown
      obtain ⟨F', O', hI'⟩ := hI.pass (d := d) hnew (hcut p.toNat q'.toNat (by omega) (by omega))
      refine many_skip hd (run_v (s := Instr.sliceAt t (av a q) (lo.map a.eval) (some (a.eval h)) none) (by simp only [execOp, ho, eval_tmp, Option.map_some, Option.map_none]) ?_) hI' hk' Q
      rw [eval_tmp] at hyv
      rw [hyv, hhv]
      rcases LoV_int hloV with e | ⟨e, rfl⟩
      · rw [e, run_sliceAt_slice w t _ _ _ _ (by rw [he]; exact hu), run_slice_lh w t A _ cc (by rw [he]; exact hu) k1 k2 p q' c1 c2 (by omega), he, run_sizeOf hy, hz]
        rfl
      · rw [e, run_sliceAt_slice w t _ _ _ _ (by rw [he]; exact hu), run_slice_h w t A _ cc (by rw [he]; exact hu) k2 q' (by omega) (by omega), he, run_sizeOf hy, hz]
        rfl
    · rename_i h _ _; cases h
    · cases hyy
  · cases hA
    simp only [goAc] at hg
    obtain ⟨dx, hg, hdr, hsrcR, hq⟩ := src_ok hI hs hg
    clear hsrcR
    rw [hdr] at hg
    obtain ⟨yy, hyy, hk'⟩ := Option.bind_eq_some_iff.1 hg
    rw [valsOf_eq (δ := δ) [loOf lo]] at hyy
    simp only [List.map_cons, List.map_nil, arg1] at hyy
    unfold sliceHi at hyy
    split at hyy
    · rename_i z' l k1 p _ e1
      split at hyy
      case isFalse => cases hyy
      rename_i hc
      obtain ⟨rfl, c1, c2⟩ := hc
      cases hyy
      rw [e1] at hloV
      have hown := own _ l _ rfl rfl hq
      obtain ⟨A, cc, hyv, hlc, hcut⟩ := OwnV_cut hown
      have hcc := hcut p.toNat l.length (by omega) (Nat.le_refl _)
      rw [List.take_length] at hcc
      obtain ⟨F', O', hI'⟩ := hI.pass (d := d) hnew hcc
      refine many_skip hd (run_v (s := Instr.sliceAt t (av a q) (lo.map a.eval) none none) (by simp only [execOp, ho, eval_tmp, Option.map_none]) ?_) hI' hk' Q
      rw [eval_tmp] at hyv
      rw [hyv]
      rcases LoV_int hloV with e | ⟨e, rfl⟩
      · rw [e, run_sliceAt_slice w t _ _ _ _ (by rw [he]; exact hu), run_slice_l w t A _ cc (by rw [he]; exact hu) k1 p c1 c2, he, run_sizeOf hy, hz]
        rfl
      · rw [e, run_sliceAt_slice w t _ _ _ _ (by rw [he]; exact hu), run_slice_all w t A _ cc (by rw [he]; exact hu), he, run_sizeOf hy, hz]
        rfl
    · rename_i h _; cases h
    · cases hyy

/-! ### parts of tuples -/
theorem Inv.tup (h : Inv c B X w0 F0 F O a w δ) {s : Nat} {ms : List Kd} (hk : nthK c.K s = .tup ms) (hb : nth δ s ≠ .bad) : ∃ l vs, nth δ s = .tup l ∧ av a s = .tuple vs ∧ ∀ i, Lone B F O w (s, i + 1) (nthK ms i) (nth l i) (vs.getD i undef) := by
  have h0 := (h.slot s).resolve_left hb
  rw [hk] at h0
  exact h0

theorem undef_no {G : Nat → Prop} {d : D} (hd : ∀ l, d ≠ .tup l) : ¬ RepV w G d undef := by
  intro h
  cases d
  case tup l => exact hd l rfl
  all_goals simp [RepV, RepC, undef] at h
  · obtain ⟨rfl, h⟩ := h
    simp [flat] at h
  · obtain ⟨rfl, A, n, c, h⟩ := h
    cases h

theorem nth_set_ne {l : List D} {i j : Nat} {x : D} (h : j ≠ i) : nth (l.set i x) j = nth l j := by
  rw [nth_eq, nth_eq, List.getD_eq_getElem?_getD, List.getD_eq_getElem?_getD, List.getElem?_set_ne (Ne.symm h)]
theorem nth_set_bad {l : List D} {i : Nat} : nth (l.set i .bad) i = .bad := by
  rw [nth_eq, List.getD_eq_getElem?_getD, List.getElem?_set_self']
  cases l[i]? <;> rfl

/-- A slice is taken out of a tuple. -/
theorem Inv.take (h : Inv c B X w0 F0 F O a w δ) {d t i z lv : Nat} {ms : List Kd} {m : List D} {vs : Array Value} {y : Value} (hkt : nthK c.K t = .tup ms) (ht : nth δ t = .tup m) (htv : av a t = .tuple vs) (hl : ∀ j, Lone B F O w (t, j + 1) (nthK ms j) (nth m j) (vs.getD j undef))
    (hk : newIn c.K d z lv = true) (hv : OwnV w (FB F B lv) (fun g => B ≤ g ∧ O g = some (t, i + 1)) z (nth m i) y) :
    ∃ F' O', Inv c B X w0 F0 F' O' (a.put (some d) y) w (setMany δ ([d, t] ++ ([] ++ depsAll c.K [d, t])) [nth m i, .tup (m.set i .bad)]) := by
  have hdt : d ≠ t := by
    intro e
    subst e
    rcases newIn_some hk with ⟨l, hk, _⟩ | ⟨l, hk, _⟩ <;> rw [hk] at hkt <;> cases hkt
  have hblk : ∀ b, V.blk y = some b → (B ≤ b ∧ O b = some (t, i + 1)) ∧ b < w.heap.size := hv.blk
  have hFb : ∀ b, F b → V.blk y ≠ some b := fun b hb e => by
    obtain ⟨⟨_, h1⟩, _⟩ := hblk b e
    rw [(h.fl b hb).2] at h1; cases h1
  have hoS : ∀ (x' : Option (Nat × Nat)) b p, O b = some p → p ≠ (t, i + 1) → giveO O y x' b = some p := fun x' b p hp hm => by
    rw [giveO_ne]
    · exact hp
    · intro e
      rw [(hblk b e).1.2] at hp
      exact hm (by cases hp; rfl)
  have hoO : ∀ (x' : Option (Nat × Nat)) b p, O b = some p → p.1 ∉ [d, t] ++ [] → giveO O y x' b = some p ∧ w.heap[b]? = w.heap[b]? := fun x' b p hp hm => ⟨hoS x' b p hp fun e => hm (by simp [e]), rfl⟩
  have hol : ∀ (x' : Option (Nat × Nat)) b p, giveO O y x' b = some p → b < w.heap.size ∧ (B ≤ b ∨ X b) := fun x' b p hp => by
    by_cases e : V.blk y = some b
    · exact ⟨(hblk b e).2, .inl (hblk b e).1.1⟩
    · rw [giveO_ne e] at hp
      exact h.ol b p hp
  have hav : ∀ s, s ∉ [d, t] → av (a.put (some d) y) s = av a s := fun s hs => av_put_ne fun e => hs (by simp [e])
  have hnd : nth (setMany δ [d, t] [nth m i, .tup (m.set i .bad)]) d = if d < δ.length then nth m i else .bad := by
    simp only [setMany]
    rw [nth_setAt_ne _ _ _ _ hdt, nth_setAt_eq]
  have hnt : nth (setMany δ [d, t] [nth m i, .tup (m.set i .bad)]) t = if t < δ.length then .tup (m.set i .bad) else .bad := by
    simp only [setMany]
    rw [nth_setAt_eq, len_setAt]
  have hslot : ∀ (F' : Nat → Prop) (x' : Option (Nat × Nat)), (∀ b, F b → F' b) → SlotU c.K B F' (giveO O y x') (a.put (some d) y) w t (nth (setMany δ [d, t] [nth m i, .tup (m.set i .bad)]) t) := by
    intro F' x' hF
    rw [hnt]
    split
    case isFalse => exact .inl rfl
    refine .inr ?_
    rw [hkt, av_put_ne hdt.symm]
    refine ⟨_, vs, rfl, htv, fun j => ?_⟩
    by_cases hj : j = i
    · subst hj
      rw [nth_set_bad]
      exact .inl rfl
    · rw [nth_set_ne hj]
      exact Lone_mono hF (fun _ _ => rfl) (fun g hg => ⟨hoS x' g _ hg (by simpa using hj), rfl⟩) (hl j)
  rcases newIn_some hk with ⟨l, hk, hle⟩ | ⟨l, hk, h1l, hle⟩
  · refine ⟨F, giveO O y (some (d, 0)), h.many rfl size_put rfl hav (by simp) (fun s hs => ?_) (fun _ hb => hb) (fun _ _ => rfl) (hoO _) (fun b hb => ⟨(h.fl b hb).1, (giveO_ne (hFb b hb)).trans (h.fl b hb).2⟩) (hol _) (fun _ hb => .inl hb) (Nat.le_refl _) rfl rfl rfl (fun _ _ _ => rfl)⟩
    rw [List.append_nil] at hs ⊢
    have hs' : s = d ∨ s = t := by simpa using hs
    rcases hs' with rfl | rfl
    · rw [hnd]
      split
      case isFalse => exact .inl rfl
      rename_i hd
      refine .inr ?_
      rw [hk, av_put_eq (by rw [h.la, ← h.ld]; exact hd)]
      exact .inr (OwnV_mono' (FB_le hle) (fun _ _ => rfl) (fun g hg ho => ⟨⟨giveO_eq hg, fun _ => ho.1⟩, rfl⟩) hv)
    · exact hslot F _ fun _ h => h
  · refine ⟨addF F y, giveO O y none, h.many rfl size_put rfl hav (by simp) (fun s hs => ?_) (fun _ hb => .inl hb) (fun _ _ => rfl) (hoO _) (fun b hb => ?_) (hol _) (fun b hb => ?_) (Nat.le_refl _) rfl rfl rfl (fun _ _ _ => rfl)⟩
    · rw [List.append_nil] at hs ⊢
      have hs' : s = d ∨ s = t := by simpa using hs
      rcases hs' with rfl | rfl
      · rw [hnd]
        split
        case isFalse => exact .inl rfl
        rename_i hd
        refine .inr ?_
        rw [hk, av_put_eq (by rw [h.la, ← h.ld]; exact hd)]
        refine .inr ?_
        refine RepV_mono (fun b hb => ?_) (fun _ _ => rfl) (OwnV_rep (hv.own (own' := fun g => B ≤ g ∧ V.blk y = some g) fun b hb ho => ⟨ho.1, hb⟩))
        rcases hb with hb | ⟨hb1, hb2⟩
        · exact FB_le hle _ (FB_mono (fun _ h => .inl h) _ hb)
        · have hx : addF F y b := .inr hb2
          match l, h1l with
          | 1, _ => exact ⟨hx, hb1⟩
          | _ + 2, _ => exact hx
      · exact hslot _ _ fun _ h => .inl h
    · rcases hb with hb | hb
      · exact ⟨(h.fl b hb).1, (giveO_ne (hFb b hb)).trans (h.fl b hb).2⟩
      · exact ⟨(hblk b hb).2, giveO_eq hb⟩
    · rcases hb with hb | hb
      · exact .inl hb
      · exact .inr (hblk b hb).1.1

theorem sound_extract {o : Oper} {x : Operand} {i : Nat} (ho : o.op = .extract x i) : Sound P c o := by
  intro A hA B X w0 F0 F O a w δ hI k r hg Q
  simp only [actOf, ho] at hA
  unfold exOf at hA
  split at hA
  case h_2 => cases hA
  rename_i d t hd
  split at hA
  case h_2 => cases hA
  rename_i ms hk
  have getI : ∀ {y : D}, tupAt (nth δ t) i = some y → ∃ l vs, nth δ t = .tup l ∧ av a t = .tuple vs ∧ nth l i = y ∧ (y ≠ .bad ∧ ∀ m, y ≠ .tup m) ∧ (∀ j, Lone B F O w (t, j + 1) (nthK ms j) (nth l j) (vs.getD j undef)) := by
    intro y hy
    have hb : nth δ t ≠ .bad := by
      intro e
      rw [e] at hy
      simp [tupAt] at hy
    obtain ⟨l, vs, h1, h2, h3⟩ := hI.tup hk hb
    rw [h1] at hy
    simp only [tupAt] at hy
    split at hy
    · cases hy
    · cases hy
    · rename_i hne hne2
      refine ⟨l, vs, h1, h2, ?_, ⟨fun e => ?_, fun m e => ?_⟩, h3⟩
      · rw [nth_eq, List.getD_eq_getElem?_getD, hy]; rfl
      · subst e
        exact hne hy
      · subst e
        exact hne2 m hy
  have run : ∀ {vs : Array Value}, av a t = .tuple vs → vs.getD i undef ≠ undef → (execOp a.eval o).run P w = .ok (.value (vs.getD i undef)) w := by
    intro vs hv hne
    refine run_v (s := Instr.extract (av a t) i) (by simp only [execOp, ho, eval_tmp]) ?_
    rw [hv]
    rw [Array.getD_eq_getD_getElem?] at hne ⊢
    cases h : vs[i]? with
    | none => rw [h] at hne; simp at hne
    | some v => simp [Instr.extract, h]
  split at hA
  · rename_i lv hm
    split at hA
    case h_2 => cases hA
    rename_i l hkd
    split at hA
    case h_2 => cases hA
    rename_i hle
    rw [ble_iff] at hle
    cases hA
    refine one_sound hI hd hg (fun z hz => ?_) Q
    simp only [getAll, nth] at hz
    obtain ⟨m, vs, h1, h2, h3, h4, h5⟩ := getI hz
    have h6 := (h5 i).resolve_left (by rw [h3]; exact h4.1)
    rw [hm, h3] at h6
    refine ⟨_, run h2 (fun e => ?_), .inr ?_⟩
    · rw [e] at h6
      exact undef_no h4.2 h6
    · rw [hkd]
      exact RepV_mono (FB_le hle) (fun _ _ => rfl) h6
  · rename_i z lv hm
    split at hA
    case h_2 => cases hA
    rename_i hnew
    cases hA
    simp only [goAc, getAll, nthC] at hg
    obtain ⟨y, hy, hk'⟩ := Option.bind_eq_some_iff.1 hg
    obtain ⟨m, vs, h1, h2, h3, h4, h5⟩ := getI hy
    have h6 := (h5 i).resolve_left (by rw [h3]; exact h4.1)
    rw [hm, h3] at h6
    have hne : vs.getD i undef ≠ undef := by
      intro e
      rw [e] at h6
      obtain ⟨l', e1, _, h7⟩ := h6
      rcases h7 with ⟨h7, _⟩ | ⟨_, _, _, _, _, _, h7, _⟩ <;> simp [undef] at h7
    have hrun := run h2 hne
    rw [← h3] at h6 hk'
    obtain ⟨F', O', hI'⟩ := hI.take (i := i) hk h1 h2 h5 hnew (h6.own fun _ _ ho => ⟨ho.2 rfl, ho.1⟩)
    refine many_skip hd hrun hI' ?_ Q
    rw [h1] at hk'
    exact hk'
  · cases hA

end
end Go.V
/-
  Contracts of functions, and a call.
-/
namespace Go.V
open Go.RowKit

def ArgOk (w : World) (F own : Nat → Prop) (k : Kd) (d : D) (y : Value) : Prop :=
  d = .bad ∨ match k with
    | .dat lv => RepV w (FB F 0 lv) d y
    | .own z lv true => OwnV w (FB F 0 lv) own z d y
    | .box n lv true => BoxV w (FB F 0 lv) own n d y
    | _ => False
def ArgsOk (w : World) (F : Nat → Prop) (ow : Nat → Option Nat) : Nat → List Kd → List D → List Value → Prop
  | _, [], [], [] => True
  | i, k :: ks, d :: ds, y :: ys => ArgOk w F (fun g => ow g = some i) k d y ∧ ArgsOk w F ow (i + 1) ks ds ys
  | _, _, _, _ => False
def isIo : Kd → Bool
  | .own _ _ true => true
  | .box _ _ true => true
  | _ => false
/-- What the parameters that are written hold at the end. -/
def UsOk (w : World) (F : Nat → Prop) : List Kd → List D → List Value → Prop
  | [], [], _ => True
  | k :: ks, us, y :: ys => if isIo k then (match us with
      | u :: us => u ≠ .bad ∧ ArgOk w F (fun _ => True) k u y ∧ UsOk w F ks us ys
      | [] => False) else UsOk w F ks us ys
  | _, _, _ => False
def ResOk (w : World) (F : Nat → Prop) (B : Nat) (own : Nat → Prop) (k : Kd) (d : D) (y : Value) : Prop :=
  d = .bad ∨ match k with
    | .dat lv => RepV w (FB F B lv) d y
    | .own z lv false => OwnV w (FB F B lv) (fun g => own g ∧ B ≤ g) z d y
    | _ => False
def resV : List Value → Value
  | [y] => y
  | ys => .tuple ys.toArray

structure CallPost (S : FS) (args : Array Value) (rs us : List D) (w : World) (F : Nat → Prop) (ow : Nat → Option Nat) (F' : Nat → Prop) (R : Nat → Option Nat) (vs : List Value) (w' : World) : Prop where
  os : w'.os = w.os
  tape : w'.tape = w.tape
  output : w'.output = w.output
  size : w.heap.size ≤ w'.heap.size
  keep : ∀ b, b < w.heap.size → ow b = none → w'.heap[b]? = w.heap[b]?
  f0 : ∀ b, F b → F' b
  fn : ∀ b, F' b → (F b ∨ w.heap.size ≤ b) ∧ b < w'.heap.size ∧ R b = none
  rn : ∀ b j, R b = some j → w.heap.size ≤ b ∧ b < w'.heap.size
  len : vs.length = S.rm.length
  lenD : rs.length = S.rm.length
  res : ∀ j, ResOk w' F' w.heap.size (fun g => R g = some j) (nthK S.rm j) (nth rs j) (vs.getD j undef)
  us : UsOk w' F' S.pm us args.toList

/-- A call, however it is carried out. -/
def Enters (P : Program) (f : FuncId) (args : Array Value) (w : World) (R : Value → World → Prop) : Prop :=
  ∀ (o : Oper) (a : Act) (next : Act → World → Prop) (Q : Exit → Act → World → Prop), (∀ v w', R v w' → next (a.put o.dst v) w') → o.upon P a next Q ((callFunc f args).run P w)

def Meets (G : List (Nat × (Obj → Prop))) (P : Program) (f : FuncId) (S : FS) : Prop :=
  ∀ (ds rs us : List D), S.f ds = some (.ret rs us) → ∀ (args : Array Value) (w : World) (F : Nat → Prop) (ow : Nat → Option Nat), gOk G w F → ArgsOk w F ow 0 S.pm ds args.toList →
    (∀ b, F b → b < w.heap.size ∧ ow b = none) → (∀ b i, ow b = some i → b < w.heap.size) → Enters P f args w fun v w' => ∃ F' R vs, v = resV vs ∧ CallPost S args rs us w F ow F' R vs w'

section
variable {P : Program} {c : Cx} {B : Nat} {X : Nat → Prop} {w0 : World} {F0 F : Nat → Prop} {O : Nat → Option (Nat × Nat)} {a : Act} {w : World} {δ : List D}

/-! ### the arguments -/
def asmV : List Ag → List D → Option (List D)
  | [], _ => some []
  | .d x chk :: l, is => match x with
    | .tmp _ => match is with
      | i :: is => match chk with
        | false => (asmV l is).map (i :: ·)
        | true => (chkV i).bind fun i => (asmV l is).map (i :: ·)
      | [] => none
    | .const v => (asmV l is).map (constD v :: ·)
    | .func f => (asmV l is).map (.clo f [] :: ·)
    | .global _ => none
  | .bor t r :: l, is => match Nat.beq t r with
    | true => match is with
      | i :: is => (asmV l is).map (i :: ·)
      | _ => none
    | false => match is with
      | p :: i :: is => (liveD p i).bind fun i => (asmV l is).map (i :: ·)
      | _ => none
  | .io t r :: l, is => match Nat.beq t r with
    | true => match is with
      | i :: is => (liveD i i).bind fun i => (asmV l is).map (i :: ·)
      | _ => none
    | false => match is with
      | p :: i :: is => (ref0 p i).bind fun i => (liveD i i).bind fun i => (asmV l is).map (i :: ·)
      | _ => none

theorem asm_app (o : Option (List D)) (i : D) (acc : List D) (k : List D → Option Out) : ((o.map (i :: ·)).bind fun ds => k (acc ++ ds)) = o.bind fun ds => k (app acc [i] ++ ds) := by
  cases o <;> simp [app_eq]

theorem asmK_eq : ∀ (l : List Ag) (acc is : List D) (k : List D → Option Out), asmK acc l is k = (asmV l is).bind fun ds => k (acc ++ ds)
  | [], acc, is, k => by simp [asmK, asmV]
  | .d x chk :: l, acc, is, k => by
    cases x with
    | tmp t =>
      cases is with
      | nil => simp [asmK, asmV]
      | cons i is =>
        cases chk
        · simp only [asmK, asmV]
          rw [asm_app, asmK_eq l]
        · simp only [asmK, asmV, Option.bind_assoc]
          congr 1
          funext i
          rw [asm_app, asmK_eq l]
    | const v => simp only [asmK, asmV]; rw [asm_app, asmK_eq l]
    | func f => simp only [asmK, asmV]; rw [asm_app, asmK_eq l]
    | global g => simp [asmK, asmV]
  | .bor t r :: l, acc, is, k => by
    cases hb : Nat.beq t r
    · rcases is with _ | ⟨p, _ | ⟨i, is⟩⟩
      · simp [asmK, asmV, hb]
      · simp [asmK, asmV, hb]
      · simp only [asmK, asmV, hb, Option.bind_assoc]
        refine congrArg _ (funext fun i => ?_)
        rw [asm_app, asmK_eq l]
    · cases is with
      | nil => simp [asmK, asmV, hb]
      | cons i is => simp only [asmK, asmV, hb]; rw [asm_app, asmK_eq l]
  | .io t r :: l, acc, is, k => by
    cases hb : Nat.beq t r
    · rcases is with _ | ⟨p, _ | ⟨i, is⟩⟩
      · simp [asmK, asmV, hb]
      · simp [asmK, asmV, hb]
      · simp only [asmK, asmV, hb, Option.bind_assoc]
        refine congrArg _ (funext fun i => ?_)
        refine congrArg _ (funext fun i => ?_)
        rw [asm_app, asmK_eq l]
    · cases is with
      | nil => simp [asmK, asmV, hb]
      | cons i is =>
        simp only [asmK, asmV, hb, Option.bind_assoc]
        refine congrArg _ (funext fun i => ?_)
        rw [asm_app, asmK_eq l]

theorem ArgOk_dat {F' own : Nat → Prop} {lv l : Nat} {d : D} {y : Value} (hF : ∀ b, F b → F' b) (h : RepB w (FB F B lv) d y) (hl : lv ≤ l) (h1 : l ≠ 1) : ArgOk w F' own (.dat l) d y := by
  rcases h with h | h
  · exact .inl h
  · refine .inr (RepV_mono (fun b hb => ?_) (fun _ _ => rfl) h)
    match l, h1, hl with
    | 0, _, hl =>
      have : lv = 0 := by omega
      subst this
      exact hb
    | l + 2, _, _ => exact hF b (FB_sub b hb)

def ioAt : List Ag → Nat → Option Nat
  | [], _ => none
  | .io _ r :: _, 0 => some r
  | _ :: _, 0 => none
  | _ :: l, n + 1 => ioAt l n

theorem args_ok (hI : Inv c B X w0 F0 F O a w δ) {F' : Nat → Prop} {ow : Nat → Option Nat} (hF : ∀ b, F b → F' b) : ∀ (xs : List Operand) (pm : List Kd) (ags : List Ag) (i0 : Nat) (ds : List D), agsOf c.K xs pm = some ags → okPm pm = true →
    asmV ags (getAll δ (agRd ags)) = some ds → (∀ r ∈ agBor ags, ∀ b, O b = some (r, 0) → F' b) → (∀ j r, ioAt ags j = some r → ∀ b, O b = some (r, 0) → ow b = some (i0 + j)) → ArgsOk w F' ow i0 pm ds (xs.map a.eval)
  | [], [], ags, i0, ds, h, _, hd, _, _ => by
    simp only [agsOf, Option.some.injEq] at h
    subst h
    simp [asmV] at hd
    subst hd
    trivial
  | [], _ :: _, _, _, _, h, _, _, _, _ => by simp [agsOf] at h
  | _ :: _, [], _, _, _, h, _, _, _, _ => by simp [agsOf] at h
  | x :: xs, m :: pm, ags, i0, ds, h, hpm, hd, hbor, hio => by
    simp only [agsOf] at h
    split at h
    case h_2 => cases h
    rename_i g l hg hl
    cases h
    have hpm' : okPm pm = true ∧ (∀ lv, m = .dat lv → lv ≠ 1) ∧ (∀ z lv io, m = .own z lv io → io = true ∧ lv ≠ 1) ∧ (∀ z lv io, m = .box z lv io → io = true ∧ lv ≠ 1) := by
      cases m with
      | dat lv =>
        simp only [okPm] at hpm
        split at hpm
        case h_2 => cases hpm
        rename_i h1 h2
        exact ⟨hpm, fun l e => by cases e; intro e; subst e; simp at h1, fun _ _ _ e => (by cases e), fun _ _ _ e => (by cases e)⟩
      | own z lv io =>
        cases io
        · simp [okPm] at hpm
        simp only [okPm] at hpm
        split at hpm
        case h_2 => cases hpm
        rename_i h1 h2
        exact ⟨hpm, fun _ e => (by cases e), fun _ l _ e => by cases e; exact ⟨rfl, fun e => by subst e; simp at h1⟩, fun _ _ _ e => (by cases e)⟩
      | box z lv io =>
        cases io
        · simp [okPm] at hpm
        simp only [okPm] at hpm
        split at hpm
        case h_2 => cases hpm
        rename_i h1 h2
        exact ⟨hpm, fun _ e => (by cases e), fun _ _ _ e => (by cases e), fun _ l _ e => by cases e; exact ⟨rfl, fun e => by subst e; simp at h1⟩⟩
      | _ => simp [okPm] at hpm
    obtain ⟨hp1, hp2, hp3, hp4⟩ := hpm'
    have rest : ∀ d' ds', ds = d' :: ds' → asmV l (getAll δ (agRd l)) = some ds' → (∀ r ∈ agBor l, ∀ b, O b = some (r, 0) → F' b) → (∀ j r, ioAt l j = some r → ∀ b, O b = some (r, 0) → ow b = some (i0 + 1 + j)) →
        ArgOk w F' (fun g => ow g = some i0) m d' (a.eval x) → ArgsOk w F' ow i0 (m :: pm) ds ((x :: xs).map a.eval) := by
      intro d' ds' e h1 h2 h3 h4
      subst e
      exact ⟨h4, args_ok hI hF xs pm l (i0 + 1) ds' hl hp1 h1 h2 h3⟩
    have hio' : ∀ j r, ioAt l j = some r → ∀ b, O b = some (r, 0) → ow b = some (i0 + 1 + j) := fun j r hj b hb => by
      have := hio (j + 1) r (by cases g <;> exact hj) b hb
      rw [this]
      congr 1
      omega
    have hbor' : ∀ r ∈ agBor l, ∀ b, O b = some (r, 0) → F' b := fun r hr => hbor r (by cases g <;> simp [agBor, hr])
    -- the argument itself
    unfold agOf at hg
    split at hg
    · rename_i lm
      have hl1 := hp2 lm rfl
      split at hg
      · rename_i t
        split at hg
        · rename_i lv hk
          have hrep := hI.dat hk
          split at hg
          · rename_i hle
            cases hg
            simp only [app, getAll, asmV] at hd
            obtain ⟨ds', h1, rfl⟩ := Option.map_eq_some_iff.1 hd
            exact rest _ _ rfl h1 hbor' hio' (ArgOk_dat hF hrep (ble_iff.1 hle) hl1)
          · split at hg
            case h_2 => cases hg
            rename_i hle h0
            cases hg
            simp only [app, getAll, asmV] at hd
            obtain ⟨i, hc, hd⟩ := Option.bind_eq_some_iff.1 hd
            obtain ⟨ds', h1, rfl⟩ := Option.map_eq_some_iff.1 hd
            refine rest _ _ rfl h1 hbor' hio' ?_
            unfold chkV at hc
            split at hc
            case isFalse => cases hc
            rename_i hv
            cases hc
            refine .inr (RepV_isV hv (hrep.rep ?_))
            intro e
            rw [e] at hv
            simp [D.isV] at hv
        · rename_i z lv io hk
          split at hg
          case h_2 => cases hg
          rename_i hl2
          cases hg
          simp only [agRd, Nat.beq_refl, getAll, asmV] at hd
          obtain ⟨ds', h1, rfl⟩ := Option.map_eq_some_iff.1 hd
          refine rest _ _ rfl h1 hbor' hio' ?_
          by_cases hb : nth δ t = .bad
          · exact .inl hb
          · refine .inr (RepV_mono (fun b hb => ?_) (fun _ _ => rfl) (OwnV_rep (hI.own hk hb)))
            rw [beq_iff] at hl2
            subst hl2
            rcases hb with hb | hb
            · exact hF b (FB_sub b hb)
            · exact hbor t (by simp [agBor]) b hb.1
        · rename_i r hk
          split at hg
          case h_2 => cases hg
          rename_i hl2 hown
          cases hg
          rw [beq_iff] at hl2
          subst hl2
          have hviaD : ∀ (hbt : nth δ t ≠ .bad), ArgOk w F' (fun g => ow g = some i0) (.dat 2) (nth δ r) (a.eval (.tmp t)) := by
            intro hbt
            obtain ⟨g1, g2, g3, g4⟩ := hI.via hk hbt
            obtain ⟨z, lv, io, hkr⟩ : ∃ z lv io, nthK c.K r = .own z lv io := by
              unfold isOwn at hown
              split at hown
              · exact ⟨_, _, _, ‹_›⟩
              · cases hown
            rw [eval_tmp, g1]
            refine .inr (RepV_mono (fun b hb => ?_) (fun _ _ => rfl) (OwnV_rep (hI.own hkr g3)))
            rcases hb with hb | hb
            · exact hF b (FB_sub b hb)
            · exact hbor r (by simp [agBor]) b hb.1
          cases htr : Nat.beq t r
          · simp only [agRd, htr, getAll, asmV] at hd
            obtain ⟨i, hc, hd⟩ := Option.bind_eq_some_iff.1 hd
            obtain ⟨ds', h1, rfl⟩ := Option.map_eq_some_iff.1 hd
            obtain ⟨hbt, rfl⟩ := liveD_some hc
            exact rest _ _ rfl h1 hbor' hio' (hviaD hbt)
          · have := beq_iff.1 htr
            subst this
            simp only [agRd, htr, getAll, asmV] at hd
            obtain ⟨ds', h1, rfl⟩ := Option.map_eq_some_iff.1 hd
            refine rest _ _ rfl h1 hbor' hio' ?_
            by_cases hb : nth δ t = .bad
            · exact .inl hb
            · exact hviaD hb
        · cases hg
      · cases hg
      · rename_i f
        cases hg
        simp only [agRd, app, asmV] at hd
        obtain ⟨ds', h1, rfl⟩ := Option.map_eq_some_iff.1 hd
        refine rest _ _ rfl h1 hbor' hio' (ArgOk_dat hF (lv := 0) (hI.opd (x := .func f) (by simp [lvOf])) (Nat.zero_le _) hl1)
      · rename_i v
        split at hg
        case h_2 => cases hg
        rename_i hv
        cases hg
        simp only [agRd, app, asmV] at hd
        obtain ⟨ds', h1, rfl⟩ := Option.map_eq_some_iff.1 hd
        have := hI.opd (x := .const v) (by simp [lvOf, hv])
        simp only [lvOf, hv, opD] at this
        exact rest _ _ rfl h1 hbor' hio' (ArgOk_dat hF this (Nat.zero_le _) hl1)
    · rename_i z l'
      have hl1 := (hp3 z l' true rfl).2
      have hcv : ∀ (lv : Nat), l' = lv → ∀ b, FB F B lv b → FB F' 0 l' b := by
        intro lv e b hb
        subst e
        match l', hl1 with
        | 0, _ => exact hb.elim
        | n + 2, _ => exact hF b hb
      split at hg
      case h_2 => cases hg
      rename_i t
      split at hg
      · rename_i z' lv io hk
        split at hg
        case h_2 => cases hg
        rename_i h1 h2
        rw [beq_iff] at h1 h2
        subst h1
        cases hg
        simp only [agRd, Nat.beq_refl, getAll, asmV] at hd
        obtain ⟨i, hc, hd⟩ := Option.bind_eq_some_iff.1 hd
        obtain ⟨ds', h1', rfl⟩ := Option.map_eq_some_iff.1 hd
        obtain ⟨hb, rfl⟩ := liveD_some hc
        exact rest _ _ rfl h1' hbor' hio' (.inr (OwnV_mono' (hcv lv h2) (fun _ _ => rfl) (fun g _ ho => ⟨by simpa using hio 0 t rfl g ho.1, rfl⟩) (hI.own hk hb)))
      · rename_i r hk
        split at hg
        case h_2 => cases hg
        rename_i z' lv io hkr
        split at hg
        case h_2 => cases hg
        rename_i h1 h2
        rw [beq_iff] at h1 h2
        subst h1
        cases hg
        have hvia : nth δ t ≠ .bad → nth δ r ≠ .bad → ArgOk w F' (fun g => ow g = some i0) (.own z l' true) (nth δ r) (a.eval (.tmp t)) := by
          intro hbt hb
          rw [eval_tmp, (hI.via hk hbt).1]
          exact .inr (OwnV_mono' (hcv lv h2) (fun _ _ => rfl) (fun g _ ho => ⟨by simpa using hio 0 r rfl g ho.1, rfl⟩) (hI.own hkr hb))
        cases htr : Nat.beq t r
        · simp only [agRd, htr, getAll, asmV] at hd
          obtain ⟨i, hc, hd⟩ := Option.bind_eq_some_iff.1 hd
          obtain ⟨i', hc', hd⟩ := Option.bind_eq_some_iff.1 hd
          obtain ⟨ds', h1', rfl⟩ := Option.map_eq_some_iff.1 hd
          obtain ⟨hb, rfl⟩ := liveD_some hc'
          unfold ref0 at hc
          split at hc
          case h_2 => cases hc
          rename_i hr0
          cases hc
          exact rest _ _ rfl h1' hbor' hio' (hvia (by rw [hr0]; simp) hb)
        · have e := beq_iff.1 htr
          subst e
          rw [hk] at hkr
          cases hkr
      · cases hg
    · rename_i n l'
      have hl1 := (hp4 n l' true rfl).2
      have hcv : ∀ (lv : Nat), l' = lv → ∀ b, FB F B lv b → FB F' 0 l' b := by
        intro lv e b hb
        subst e
        match l', hl1 with
        | 0, _ => exact hb.elim
        | n + 2, _ => exact hF b hb
      split at hg
      case h_2 => cases hg
      rename_i t
      split at hg
      · rename_i z' lv io hk
        split at hg
        case h_2 => cases hg
        rename_i h1 h2
        rw [beq_iff] at h1 h2
        subst h1
        cases hg
        simp only [agRd, Nat.beq_refl, getAll, asmV] at hd
        obtain ⟨i, hc, hd⟩ := Option.bind_eq_some_iff.1 hd
        obtain ⟨ds', h1', rfl⟩ := Option.map_eq_some_iff.1 hd
        obtain ⟨hb, rfl⟩ := liveD_some hc
        exact rest _ _ rfl h1' hbor' hio' (.inr (BoxV_mono (hcv lv h2) (fun _ _ => rfl) (fun g ho => ⟨by simpa using hio 0 t rfl g ho.1, rfl⟩) (hI.box hk hb)))
      · rename_i r hk
        split at hg
        case h_2 => cases hg
        rename_i z' lv io hkr
        split at hg
        case h_2 => cases hg
        rename_i h1 h2
        rw [beq_iff] at h1 h2
        subst h1
        cases hg
        cases htr : Nat.beq t r
        · simp only [agRd, htr, getAll, asmV] at hd
          obtain ⟨i, hc, hd⟩ := Option.bind_eq_some_iff.1 hd
          obtain ⟨i', hc', hd⟩ := Option.bind_eq_some_iff.1 hd
          obtain ⟨ds', h1', rfl⟩ := Option.map_eq_some_iff.1 hd
          obtain ⟨hb, rfl⟩ := liveD_some hc'
          unfold ref0 at hc
          split at hc
          case h_2 => cases hc
          rename_i hr0
          cases hc
          obtain ⟨ii, ff, h5, _, h6⟩ := hI.ref hk (by rw [hr0]; simp)
          rw [hr0] at h5
          cases h5
          rw [hkr] at h6
          obtain ⟨g0, e1, e2⟩ := h6
          refine rest _ _ rfl h1' hbor' hio' (.inr ?_)
          rw [eval_tmp, e2, ← e1]
          exact BoxV_mono (hcv lv h2) (fun _ _ => rfl) (fun g ho => ⟨by simpa using hio 0 r rfl g ho.1, rfl⟩) (hI.box hkr hb)
        · have e := beq_iff.1 htr
          subst e
          rw [hk] at hkr
          cases hkr
      · cases hg
    · cases hg

end
end Go.V
/-
  A call keeps the invariant.
-/
namespace Go.V
open Go.RowKit

section
variable {P : Program} {c : Cx} {B : Nat} {X : Nat → Prop} {w0 : World} {F0 F : Nat → Prop} {O : Nat → Option (Nat × Nat)} {a : Act} {w : World} {δ : List D}

theorem BoxV_mono' {w w' : World} {F F' : Nat → Prop} {own own' : Nat → Prop} {n : Nat} {d : D} {y : Value} (hF : ∀ b, F b → F' b) (hw : ∀ b, F b → w'.heap[b]? = w.heap[b]?)
    (ho : ∀ g, V.blk y = some g → own g → own' g ∧ w'.heap[g]? = w.heap[g]?) (h : BoxV w F own n d y) : BoxV w' F' own' n d y := by
  obtain ⟨l, us, g, e, a1, rfl, a3, a4, a5, a6, a7⟩ := h
  exact ⟨l, us, g, e, a1, rfl, (ho g rfl a7).2.trans a3, RepL_mono hF hw _ _ a4, a5, a6, (ho g rfl a7).1⟩
theorem BoxV.blk {F : Nat → Prop} {own : Nat → Prop} {n : Nat} {d : D} {y : Value} (h : BoxV w F own n d y) : ∀ b, V.blk y = some b → own b ∧ b < w.heap.size := by
  intro b hb
  obtain ⟨l, us, g, e, a1, rfl, a3, a4, a5, a6, a7⟩ := h
  simp [V.blk] at hb
  subst hb
  exact ⟨a7, (Array.getElem?_eq_some_iff.1 a3).1⟩

def owIx : List Ag → Nat → Nat → Option Nat
  | [], _, _ => none
  | .io _ q :: l, r, i => if q = r then some i else owIx l r (i + 1)
  | .d _ _ :: l, r, i => owIx l r (i + 1)
  | .bor _ _ :: l, r, i => owIx l r (i + 1)
theorem owIx_mem : ∀ {l : List Ag} {r i j : Nat}, owIx l r i = some j → r ∈ agIo l
  | .io _ q :: l, r, i, j, h => by
    simp only [owIx] at h
    split at h
    · rename_i e; subst e; simp [agIo]
    · simp [agIo, owIx_mem h]
  | .d _ _ :: l, r, i, j, h => by simpa [agIo] using owIx_mem (l := l) h
  | .bor _ _ :: l, r, i, j, h => by simpa [agIo] using owIx_mem (l := l) h
theorem ioAt_mem : ∀ {l : List Ag} {r j : Nat}, ioAt l j = some r → r ∈ agIo l
  | .io _ q :: l, r, 0, h => by simp [ioAt] at h; simp [agIo, h]
  | .io _ q :: l, r, j + 1, h => by simp only [agIo, List.mem_cons]; exact .inr (ioAt_mem (l := l) h)
  | .d _ _ :: l, r, 0, h => by simp [ioAt] at h
  | .bor _ _ :: l, r, 0, h => by simp [ioAt] at h
  | .d _ _ :: l, r, j + 1, h => by simpa [agIo] using ioAt_mem (l := l) h
  | .bor _ _ :: l, r, j + 1, h => by simpa [agIo] using ioAt_mem (l := l) h
theorem nodupN_cons {a : Nat} {l : List Nat} (h : nodupN (a :: l) = true) : a ∉ l ∧ nodupN l = true := by
  simp only [nodupN, memN_eq] at h
  split at h
  · cases h
  · rename_i h1
    exact ⟨by simpa using h1, h⟩
theorem owIx_at : ∀ {l : List Ag} {r i j : Nat}, nodupN (agIo l) = true → ioAt l j = some r → owIx l r i = some (i + j)
  | .io _ q :: l, r, i, 0, _, h => by simp [ioAt] at h; simp [owIx, h]
  | .io _ q :: l, r, i, j + 1, hn, h => by
    obtain ⟨h1, h2⟩ := nodupN_cons hn
    have h3 := ioAt_mem (l := l) h
    have hne : ¬ q = r := fun e => h1 (by rw [e]; exact h3)
    simp only [owIx]
    rw [if_neg hne, owIx_at (l := l) h2 h]
    congr 1; omega
  | .d _ _ :: l, r, i, 0, _, h => by simp [ioAt] at h
  | .bor _ _ :: l, r, i, 0, _, h => by simp [ioAt] at h
  | .d _ _ :: l, r, i, j + 1, hn, h => by simp only [owIx]; rw [owIx_at (l := l) hn h]; congr 1; omega
  | .bor _ _ :: l, r, i, j + 1, hn, h => by simp only [owIx]; rw [owIx_at (l := l) hn h]; congr 1; omega

/-- What is known of the roots that a call writes. -/
def IoArg (c : Cx) (a : Act) (δ : List D) : List Ag → List Kd → List Operand → Prop
  | [], [], [] => True
  | .io _ r :: l, m :: pm, x :: xs => (nth δ r ≠ .bad ∧ a.eval x = av a r ∧ ((∃ z lv io, m = .own z lv true ∧ nthK c.K r = .own z lv io ∧ lv ≠ 1) ∨ ∃ n lv io, m = .box n lv true ∧ nthK c.K r = .box n lv io ∧ lv ≠ 1)) ∧ IoArg c a δ l pm xs
  | _ :: l, m :: pm, _ :: xs => isIo m = false ∧ IoArg c a δ l pm xs
  | _, _, _ => False

theorem okPm_tail {m : Kd} {pm : List Kd} (h : okPm (m :: pm) = true) : okPm pm = true ∧ (∀ z lv, m = .own z lv true → lv ≠ 1) ∧ ∀ n lv, m = .box n lv true → lv ≠ 1 := by
  cases m with
  | dat lv =>
    simp only [okPm] at h
    split at h
    case h_2 => cases h
    exact ⟨h, fun _ _ e => (by cases e), fun _ _ e => (by cases e)⟩
  | own z lv io =>
    cases io
    · simp [okPm] at h
    simp only [okPm] at h
    split at h
    case h_2 => cases h
    rename_i h1 h2
    exact ⟨h, fun _ l e => by cases e; intro e; subst e; simp at h1, fun _ _ e => (by cases e)⟩
  | box z lv io =>
    cases io
    · simp [okPm] at h
    simp only [okPm] at h
    split at h
    case h_2 => cases h
    rename_i h1 h2
    exact ⟨h, fun _ _ e => (by cases e), fun _ l e => by cases e; intro e; subst e; simp at h1⟩
  | _ => simp [okPm] at h

theorem agOf_bor {K : List Kd} {x : Operand} {m : Kd} {t r : Nat} (h : agOf K x m = some (.bor t r)) : ∃ lv, m = .dat lv := by
  cases m with
  | dat lv => exact ⟨lv, rfl⟩
  | own z lv io =>
    exfalso
    cases io
    · simp [agOf] at h
    · simp only [agOf] at h
      repeat (split at h <;> try cases h)
  | box z lv io =>
    exfalso
    cases io
    · simp [agOf] at h
    · simp only [agOf] at h
      repeat (split at h <;> try cases h)
  | _ => simp [agOf] at h

theorem agOf_io {K : List Kd} {x : Operand} {m : Kd} {t r : Nat} (h : agOf K x m = some (.io t r)) : x = .tmp t ∧ ((∃ z lv io, m = .own z lv true ∧ ((t = r ∧ nthK K t = .own z lv io) ∨ (nthK K t = .via r ∧ nthK K r = .own z lv io))) ∨
    ∃ n lv io, m = .box n lv true ∧ ((t = r ∧ nthK K t = .box n lv io) ∨ (nthK K t = .ref r ∧ nthK K r = .box n lv io))) := by
  cases m with
  | dat lv =>
    exfalso
    simp only [agOf] at h
    repeat (split at h <;> try cases h)
  | own z lv io =>
    cases io
    · simp [agOf] at h
    · simp only [agOf] at h
      split at h
      case h_2 => cases h
      split at h
      · rename_i hk
        split at h
        case h_2 => cases h
        rename_i h1 h2
        rw [beq_iff] at h1 h2
        cases h
        exact ⟨rfl, .inl ⟨_, _, _, rfl, .inl ⟨rfl, by rw [hk, h1, h2]⟩⟩⟩
      · rename_i hk
        split at h
        case h_2 => cases h
        rename_i hk2
        split at h
        case h_2 => cases h
        rename_i h1 h2
        rw [beq_iff] at h1 h2
        cases h
        exact ⟨rfl, .inl ⟨_, _, _, rfl, .inr ⟨hk, by rw [hk2, h1, h2]⟩⟩⟩
      · cases h
  | box z lv io =>
    cases io
    · simp [agOf] at h
    · simp only [agOf] at h
      split at h
      case h_2 => cases h
      split at h
      · rename_i hk
        split at h
        case h_2 => cases h
        rename_i h1 h2
        rw [beq_iff] at h1 h2
        cases h
        exact ⟨rfl, .inr ⟨_, _, _, rfl, .inl ⟨rfl, by rw [hk, h1, h2]⟩⟩⟩
      · rename_i hk
        split at h
        case h_2 => cases h
        rename_i hk2
        split at h
        case h_2 => cases h
        rename_i h1 h2
        rw [beq_iff] at h1 h2
        cases h
        exact ⟨rfl, .inr ⟨_, _, _, rfl, .inr ⟨hk, by rw [hk2, h1, h2]⟩⟩⟩
      · cases h
  | _ => simp [agOf] at h

theorem io_arg (hI : Inv c B X w0 F0 F O a w δ) : ∀ (xs : List Operand) (pm : List Kd) (ags : List Ag) (ds : List D), agsOf c.K xs pm = some ags → okPm pm = true → asmV ags (getAll δ (agRd ags)) = some ds → IoArg c a δ ags pm xs
  | [], [], ags, ds, h, _, _ => by
    simp only [agsOf, Option.some.injEq] at h
    subst h
    trivial
  | [], _ :: _, _, _, h, _, _ => by simp [agsOf] at h
  | _ :: _, [], _, _, h, _, _ => by simp [agsOf] at h
  | x :: xs, m :: pm, ags, ds, h, hpm, hd => by
    simp only [agsOf] at h
    split at h
    case h_2 => cases h
    rename_i g l hg hl
    cases h
    obtain ⟨hp1, hp2, hp3⟩ := okPm_tail hpm
    cases g with
    | d y chk =>
      have hnio : isIo m = false := by
        cases m with
        | own z lv io => cases io <;> first | rfl | (simp only [agOf] at hg; repeat (split at hg <;> try cases hg))
        | box z lv io => cases io <;> first | rfl | (simp only [agOf] at hg; repeat (split at hg <;> try cases hg))
        | _ => rfl
      have hd' : ∃ ds', asmV l (getAll δ (agRd l)) = some ds' := by
        cases y with
        | tmp t =>
          simp only [app, getAll, asmV] at hd
          split at hd
          · obtain ⟨ds', h1, _⟩ := Option.map_eq_some_iff.1 hd
            exact ⟨ds', h1⟩
          · obtain ⟨i, _, hd⟩ := Option.bind_eq_some_iff.1 hd
            obtain ⟨ds', h1, _⟩ := Option.map_eq_some_iff.1 hd
            exact ⟨ds', h1⟩
        | const v =>
          simp only [agRd, app, asmV] at hd
          obtain ⟨ds', h1, _⟩ := Option.map_eq_some_iff.1 hd
          exact ⟨ds', h1⟩
        | func v =>
          simp only [agRd, app, asmV] at hd
          obtain ⟨ds', h1, _⟩ := Option.map_eq_some_iff.1 hd
          exact ⟨ds', h1⟩
        | global v => simp [asmV] at hd
      obtain ⟨ds', hd'⟩ := hd'
      exact ⟨hnio, io_arg hI xs pm l ds' hl hp1 hd'⟩
    | bor t r =>
      have hnio : isIo m = false := by
        obtain ⟨lv, e⟩ := agOf_bor hg
        rw [e]; rfl
      have hd' : ∃ ds', asmV l (getAll δ (agRd l)) = some ds' := by
        cases htr : Nat.beq t r
        · simp only [agRd, htr, getAll, asmV] at hd
          obtain ⟨i, _, hd⟩ := Option.bind_eq_some_iff.1 hd
          obtain ⟨ds', h1, _⟩ := Option.map_eq_some_iff.1 hd
          exact ⟨ds', h1⟩
        · simp only [agRd, htr, getAll, asmV] at hd
          obtain ⟨ds', h1, _⟩ := Option.map_eq_some_iff.1 hd
          exact ⟨ds', h1⟩
      obtain ⟨ds', hd'⟩ := hd'
      exact ⟨hnio, io_arg hI xs pm l ds' hl hp1 hd'⟩
    | io t r =>
      obtain ⟨rfl, hk⟩ := agOf_io hg
      have main : (nth δ r ≠ .bad ∧ (t = r ∨ nth δ t = .ref 0 0)) ∧ ∃ ds', asmV l (getAll δ (agRd l)) = some ds' := by
        cases htr : Nat.beq t r
        · simp only [agRd, htr, getAll, asmV] at hd
          obtain ⟨i, hc, hd⟩ := Option.bind_eq_some_iff.1 hd
          obtain ⟨i', hc', hd⟩ := Option.bind_eq_some_iff.1 hd
          obtain ⟨ds', h1, _⟩ := Option.map_eq_some_iff.1 hd
          obtain ⟨hb, rfl⟩ := liveD_some hc'
          unfold ref0 at hc
          split at hc
          case h_2 => cases hc
          rename_i hr0
          cases hc
          exact ⟨⟨hb, .inr hr0⟩, ds', h1⟩
        · have e := beq_iff.1 htr
          subst e
          simp only [agRd, htr, getAll, asmV] at hd
          obtain ⟨i', hc', hd⟩ := Option.bind_eq_some_iff.1 hd
          obtain ⟨ds', h1, _⟩ := Option.map_eq_some_iff.1 hd
          exact ⟨⟨(liveD_some hc').1, .inl rfl⟩, ds', h1⟩
      obtain ⟨⟨hb, hre⟩, ds', hd'⟩ := main
      refine ⟨⟨hb, ?_, ?_⟩, io_arg hI xs pm l ds' hl hp1 hd'⟩
      · rcases hre with e | hr0
        · rw [e]; rfl
        · rcases hk with ⟨z, lv, io, _, h2⟩ | ⟨n, lv, io, _, h2⟩
          · rcases h2 with ⟨e, _⟩ | ⟨h3, h4⟩
            · rw [e]; rfl
            · exact (hI.via h3 (by rw [hr0]; simp)).1
          · rcases h2 with ⟨e, _⟩ | ⟨h3, h4⟩
            · rw [e]; rfl
            · obtain ⟨ii, ff, h5, _, h6⟩ := hI.ref h3 (by rw [hr0]; simp)
              rw [hr0] at h5
              cases h5
              rw [h4] at h6
              obtain ⟨g0, e1, e2⟩ := h6
              rw [eval_tmp, e1, e2]
      · rcases hk with ⟨z, lv, io, h1, h2⟩ | ⟨n, lv, io, h1, h2⟩
        · refine .inl ⟨z, lv, io, h1, ?_, hp2 z lv h1⟩
          rcases h2 with ⟨e, h2⟩ | ⟨_, h2⟩
          · rw [← e]; exact h2
          · exact h2
        · refine .inr ⟨n, lv, io, h1, ?_, hp3 n lv h1⟩
          rcases h2 with ⟨e, h2⟩ | ⟨_, h2⟩
          · rw [← e]; exact h2
          · exact h2

/-- What the roots hold after the call. -/
def IoNew (w' : World) (F' : Nat → Prop) (k : Kd) (u : D) (y : Value) : Prop :=
  u ≠ .bad ∧ match k with
    | .own z lv _ => lv ≠ 1 ∧ OwnV w' (FB F' 0 lv) (fun _ => True) z u y
    | .box n lv _ => lv ≠ 1 ∧ BoxV w' (FB F' 0 lv) (fun _ => True) n u y
    | _ => False

theorem io_new {w' : World} {F' : Nat → Prop} : ∀ (ags : List Ag) (pm : List Kd) (xs : List Operand) (us : List D), IoArg c a δ ags pm xs → UsOk w' F' pm us (xs.map a.eval) →
    us.length = (agIo ags).length ∧ ∀ (m r : Nat), (agIo ags)[m]? = some r → nth δ r ≠ .bad ∧ ∃ u : D, us[m]? = some u ∧ IoNew w' F' (nthK c.K r) u (av a r)
  | [], [], [], us, _, hu => by
    cases us with
    | nil => simp [agIo]
    | cons u us => simp [UsOk] at hu
  | .io t r :: l, m :: pm, x :: xs, us, h, hu => by
    obtain ⟨⟨h1, h2, h3⟩, h4⟩ := h
    simp only [List.map_cons, UsOk] at hu
    have hio : isIo m = true := by rcases h3 with ⟨z, lv, io, rfl, _⟩ | ⟨n, lv, io, rfl, _⟩ <;> rfl
    rw [if_pos hio] at hu
    cases us with
    | nil => exact hu.elim
    | cons u us =>
      obtain ⟨u1, u2, u3⟩ := hu
      obtain ⟨g1, g2⟩ := io_new l pm xs us h4 u3
      refine ⟨by simp [agIo, g1], fun j q hj => ?_⟩
      cases j with
      | zero =>
        simp only [agIo, List.getElem?_cons_zero, Option.some.injEq] at hj
        subst hj
        refine ⟨h1, u, rfl, u1, ?_⟩
        rw [h2] at u2
        have u2 := u2.resolve_left u1
        rcases h3 with ⟨z, lv, io, rfl, hk, hlv⟩ | ⟨n, lv, io, rfl, hk, hlv⟩
        · rw [hk]; exact ⟨hlv, u2⟩
        · rw [hk]; exact ⟨hlv, u2⟩
      | succ j =>
        simp only [agIo, List.getElem?_cons_succ] at hj
        exact g2 j q hj
  | .d y chk :: l, m :: pm, x :: xs, us, h, hu => by
    obtain ⟨h1, h2⟩ := h
    simp only [List.map_cons, UsOk, h1] at hu
    exact io_new l pm xs us h2 hu
  | .bor y chk :: l, m :: pm, x :: xs, us, h, hu => by
    obtain ⟨h1, h2⟩ := h
    simp only [List.map_cons, UsOk, h1] at hu
    exact io_new l pm xs us h2 hu
  | [], [], _ :: _, _, h, _ => h.elim
  | [], _ :: _, _, _, h, _ => h.elim
  | .io _ _ :: _, [], _, _, h, _ => h.elim
  | .io _ _ :: _, _ :: _, [], _, h, _ => h.elim
  | .d _ _ :: _, [], _, _, h, _ => h.elim
  | .d _ _ :: _, _ :: _, [], _, h, _ => h.elim
  | .bor _ _ :: _, [], _, _, h, _ => h.elim
  | .bor _ _ :: _, _ :: _, [], _, h, _ => h.elim

theorem outs_eq (us : List D) : ∀ (ios : List Nat) (j : Nat), j + ios.length ≤ us.length → clOf.go us j ios = (us.drop j).take ios.length
  | [], j, _ => by simp [clOf.go]
  | _ :: l, j, h => by
    simp only [List.length_cons] at h
    simp only [clOf.go]
    rw [outs_eq us l (j + 1) (by omega)]
    have hj : j < us.length := by omega
    rw [List.drop_eq_getElem_cons hj, List.length_cons, List.take_succ_cons, nth_eq, List.getD_eq_getElem?_getD, List.getElem?_eq_getElem hj]
    rfl

theorem setMany_at : ∀ (ss : List Nat) (ds δ : List D) (m s : Nat), nodupN ss = true → ss[m]? = some s → s < δ.length → nth (setMany δ ss ds) s = nth ds m
  | t :: ss, [], δ, m, s, hn, hm, hl => by
    rw [nth_kill _ _ _ (List.mem_of_getElem? hm)]
  | t :: ss, d :: ds, δ, 0, s, hn, hm, hl => by
    obtain ⟨h1, h2⟩ := nodupN_cons hn
    simp at hm
    subst hm
    simp only [setMany]
    rw [nth_setMany_notin _ _ _ _ h1, nth_setAt_eq, if_pos hl]
  | t :: ss, d :: ds, δ, m + 1, s, hn, hm, hl => by
    obtain ⟨h1, h2⟩ := nodupN_cons hn
    simp only [setMany]
    rw [setMany_at ss ds _ m s h2 (by simpa using hm) (by rw [len_setAt]; exact hl)]

theorem nodup_app {d : Nat} {l : List Nat} (h1 : memN d l = false) (h2 : nodupN l = true) : nodupN ([d] ++ l) = true := by
  simp only [List.cons_append, List.nil_append, nodupN, h1]
  exact h2

theorem apartN_eq : ∀ {l m : List Nat}, apartN l m = true → ∀ x ∈ l, x ∉ m
  | a :: l, m, h, x, hx => by
    simp only [apartN, memN_eq] at h
    split at h
    · cases h
    · rename_i h1
      rcases List.mem_cons.1 hx with rfl | hx
      · simpa using h1
      · exact apartN_eq h x hx

theorem root_lt {K : List Kd} {r : Nat} (h : isRoot K r) : r < K.length := by
  by_cases hd : r < K.length
  · exact hd
  · exfalso
    have : ∀ (K : List Kd) (r : Nat), ¬ r < K.length → nthK K r = .no := by
      intro K
      induction K with
      | nil => intro r _; rfl
      | cons k K ih =>
        intro r hr
        cases r with
        | zero => simp at hr
        | succ r => exact ih r (by simpa using hr)
    rw [isRoot, this K r hd] at h
    exact h

theorem io0_tail {m : Kd} {pm : List Kd} (h : io0 (m :: pm) = true) : io0 pm = true ∧ (∀ z lv io, m = .own z lv io → lv = 0) ∧ ∀ n lv io, m = .box n lv io → lv = 0 := by
  cases m with
  | own z lv io =>
    simp only [io0] at h
    split at h
    case h_2 => cases h
    rename_i h0
    exact ⟨h, fun _ _ _ e => by cases e; exact beq_iff.1 h0, fun _ _ _ e => (by cases e)⟩
  | box z lv io =>
    simp only [io0] at h
    split at h
    case h_2 => cases h
    rename_i h0
    exact ⟨h, fun _ _ _ e => (by cases e), fun _ _ _ e => by cases e; exact beq_iff.1 h0⟩
  | _ => exact ⟨by simpa only [io0] using h, fun _ _ _ e => (by cases e), fun _ _ _ e => (by cases e)⟩

theorem io0_at : ∀ (ags : List Ag) (pm : List Kd) (xs : List Operand), IoArg c a δ ags pm xs → io0 pm = true → ∀ (m r : Nat), (agIo ags)[m]? = some r → ∀ lv, ((∃ z io, nthK c.K r = .own z lv io) ∨ ∃ n io, nthK c.K r = .box n lv io) → lv = 0
  | [], _, _, _, _, m, r, hm, _, _ => by simp [agIo] at hm
  | .io t q :: l, m :: pm, x :: xs, h, h0, j, r, hj, lv, hk => by
    obtain ⟨⟨_, _, h3⟩, h4⟩ := h
    obtain ⟨g1, g2, g3⟩ := io0_tail h0
    cases j with
    | zero =>
      simp only [agIo, List.getElem?_cons_zero, Option.some.injEq] at hj
      subst hj
      rcases h3 with ⟨z, lv', io, rfl, hk', _⟩ | ⟨n, lv', io, rfl, hk', _⟩
      · have := g2 z lv' true rfl
        subst this
        rw [hk'] at hk
        rcases hk with ⟨_, _, e⟩ | ⟨_, _, e⟩ <;> cases e
        rfl
      · have := g3 n lv' true rfl
        subst this
        rw [hk'] at hk
        rcases hk with ⟨_, _, e⟩ | ⟨_, _, e⟩ <;> cases e
        rfl
    | succ j => exact io0_at l pm xs h4 g1 j r (by simpa [agIo] using hj) lv hk
  | .d _ _ :: l, m :: pm, x :: xs, h, h0, j, r, hj, lv, hk => io0_at l pm xs h.2 (io0_tail h0).1 j r (by simpa [agIo] using hj) lv hk
  | .bor _ _ :: l, m :: pm, x :: xs, h, h0, j, r, hj, lv, hk => io0_at l pm xs h.2 (io0_tail h0).1 j r (by simpa [agIo] using hj) lv hk
  | .io _ _ :: _, [], _, h, _, _, _, _, _, _ => h.elim
  | .io _ _ :: _, _ :: _, [], h, _, _, _, _, _, _ => h.elim
  | .d _ _ :: _, [], _, h, _, _, _, _, _, _ => h.elim
  | .d _ _ :: _, _ :: _, [], h, _, _, _, _, _, _ => h.elim
  | .bor _ _ :: _, [], _, h, _, _, _, _, _, _ => h.elim
  | .bor _ _ :: _, _ :: _, [], h, _, _, _, _, _, _ => h.elim

/-- What the caller knows after the call: the general step. 'g': who gets a result's new block ('none': it is data from now on). -/
theorem call_step (hI : Inv c B X w0 F0 F O a w δ) {S : FS} {ags : List Ag} {xs : List Operand} {ds rs us : List D} {F' : Nat → Prop} {R : Nat → Option Nat} {vs : List Value} {w' : World} {v : Value} {dst : Option Nat} {x : List D}
    (hags : agsOf c.K xs S.pm = some ags) (hpm : okPm S.pm = true) (hds : asmV ags (getAll δ (agRd ags)) = some ds) (hnd : nodupN (agIo ags) = true)
    (hbor : agBor ags = [] ∨ (noAny S.rm = true ∧ io0 S.pm = true))
    (hpost : CallPost S (xs.map a.eval).toArray rs us w (fun b => F b ∨ ∃ r ∈ agBor ags, O b = some (r, 0)) (fun b => match O b with
      | some (r, 0) => owIx ags r 0
      | _ => none) F' R vs w')
    (hdx : (dst = none ∧ x = []) ∨ ∃ d y, dst = some d ∧ x = [y] ∧ memN d (agIo ags) = false) (g : Nat → Option (Nat × Nat)) (hg : ∀ j p, g j = some p → ∀ d, dst = some d → p.1 = d) (hgn : dst = none → ∀ j, g j = none)
    (hU : ∀ (F2 : Nat → Prop) (O2 : Nat → Option (Nat × Nat)), (∀ lv b, (agBor ags = [] ∨ lv ≤ 1) → FB F' w.heap.size lv b → FB F2 B lv b) → (∀ b j, R b = some j → O2 b = g j ∧ B ≤ b ∧ (g j = none → F2 b)) → ∀ d y, dst = some d → x = [y] → d < δ.length → SlotU c.K B F2 O2 (a.put dst v) w' d y) :
    ∃ F2 O2, Inv c B X w0 F0 F2 O2 (a.put dst v) w' (setMany δ (dst.toList ++ (agIo ags ++ depsAll c.K dst.toList)) (x ++ us)) := by
  have hB := hI.bb
  have hioA := io_arg hI xs S.pm ags ds hags hpm hds
  obtain ⟨hul, hun⟩ := io_new (c := c) (a := a) (δ := δ) ags S.pm xs us hioA (by simpa using hpost.us)
  -- what the call may have written
  have hkeep : ∀ b, b < w.heap.size → (∀ p, O b = some p → p.1 ∉ agIo ags) → w'.heap[b]? = w.heap[b]? := by
    intro b hb hp
    refine hpost.keep b hb ?_
    split
    · rename_i r he
      cases h : owIx ags r 0 with
      | none => rfl
      | some j => exact absurd (owIx_mem h) (hp _ he)
    · rfl
  have hRn : ∀ b, b < w.heap.size → R b = none := fun b hb => by
    cases h : R b with
    | none => rfl
    | some j => have := (hpost.rn b j h).1; omega
  let F2 : Nat → Prop := fun b => F b ∨ (F' b ∧ w.heap.size ≤ b) ∨ ∃ j, R b = some j ∧ g j = none
  let O2 : Nat → Option (Nat × Nat) := fun b => match R b with
    | some j => g j
    | none => O b
  have hO2n : ∀ b, R b = none → O2 b = O b := fun b h => by simp only [O2, h]
  have hO2s : ∀ b j, R b = some j → O2 b = g j := fun b j h => by simp only [O2, h]
  have hOlt : ∀ b, w.heap.size ≤ b → O b = none := fun b hb => by
    cases h : O b with
    | none => rfl
    | some p => have := (hI.ol b p h).1; omega
  have hlv : ∀ lv b, (agBor ags = [] ∨ lv ≤ 1) → FB F' w.heap.size lv b → FB F2 B lv b := by
    intro lv b hbl hb
    match lv, hbl, hb with
    | 0, _, hb => exact hb.elim
    | 1, _, hb => exact ⟨.inr (.inl hb), Nat.le_trans hB hb.2⟩
    | n + 2, hbl, hb =>
      have he : agBor ags = [] := hbl.resolve_right (by omega)
      rcases (hpost.fn b hb).1 with h1 | h1
      · rcases h1 with h1 | ⟨r, hr, _⟩
        · exact .inl h1
        · rw [he] at hr; cases hr
      · exact .inr (.inl ⟨hb, h1⟩)
  have hnd2 : nodupN (dst.toList ++ agIo ags) = true := by
    rcases hdx with ⟨rfl, _⟩ | ⟨d, y, rfl, _, hm⟩
    · exact hnd
    · exact nodup_app hm hnd
  have hlen : (x ++ us).length = (dst.toList ++ agIo ags).length := by
    rcases hdx with ⟨rfl, rfl⟩ | ⟨d, y, rfl, rfl, _⟩ <;> simp [hul]
  have hlt : ∀ r, isRoot c.K r → r < δ.length := fun r hr => by
    rw [hI.ld]
    exact root_lt hr
  have hgetio : ∀ (m r : Nat), (agIo ags)[m]? = some r → isRoot c.K r → nth (setMany δ (dst.toList ++ agIo ags) (x ++ us)) r = nth us m := by
    intro m r hm hr
    rcases hdx with ⟨rfl, rfl⟩ | ⟨d, y, rfl, rfl, _⟩
    · exact setMany_at _ _ _ m r hnd (by simpa using hm) (hlt r hr)
    · have := setMany_at (δ := δ) ([d] ++ agIo ags) ([y] ++ us) (m := m + 1) (s := r) hnd2 (by simpa using hm) (hlt r hr)
      simpa [nth] using this
  have hrootIo : ∀ (m r : Nat), (agIo ags)[m]? = some r → isRoot c.K r := by
    intro m r hm
    obtain ⟨_, u, _, hn⟩ := hun m r hm
    obtain ⟨_, hn⟩ := hn
    unfold isRoot
    generalize nthK c.K r = kk at hn
    cases kk <;> first | exact hn.elim | trivial
  refine ⟨F2, O2, hI.many hlen (by cases dst <;> simp [Act.put]) (by cases dst <;> rfl) (fun s hs => ?_) (fun r hr _ hb => ?_) (fun s hs => ?_) (fun _ hb => .inl hb) (fun b hb => ?_) (fun b p hp hm => ?_) (fun b hb => ?_) (fun b p hp => ?_) (fun b hb => ?_) hpost.size hpost.os hpost.tape hpost.output (fun b hb hx => ?_)⟩
  · cases dst with
    | none => rfl
    | some d => exact av_put_ne fun e => hs (by simp [e])
  · obtain ⟨m, hm⟩ := List.getElem?_of_mem hr
    obtain ⟨_, u, hu, hn⟩ := hun m r hm
    rw [hgetio m r hm (hrootIo m r hm), nth_eq, List.getD_eq_getElem?_getD, hu]
    exact hn.1
  · rcases List.mem_append.1 hs with hs | hs
    · rcases hdx with ⟨rfl, _⟩ | ⟨d, y, rfl, rfl, _⟩
      · cases hs
      · have : s = d := by simpa using hs
        subst this
        by_cases hsl : s < δ.length
        · have e := setMany_at (δ := δ) ([s] ++ agIo ags) ([y] ++ us) (m := 0) (s := s) hnd2 rfl hsl
          simp only [Option.toList_some] at e ⊢
          rw [e]
          exact hU F2 O2 hlv (fun b j hj => ⟨hO2s b j hj, Nat.le_trans hB (hpost.rn b j hj).1, fun hn => .inr (.inr ⟨j, hj, hn⟩)⟩) s y rfl rfl hsl
        · refine .inl ?_
          have : ∀ (l : List D) (n : Nat), ¬ n < l.length → nth l n = .bad := fun l n h => by
            rw [nth_eq, List.getD_eq_getElem?_getD, List.getElem?_eq_none (by omega)]; rfl
          exact this _ _ (by rw [len_setMany]; exact hsl)
    · have hs' := hs
      obtain ⟨m, hm⟩ := List.getElem?_of_mem hs
      have hr := hrootIo m s hm
      obtain ⟨hb, u, hu, hn⟩ := hun m s hm
      rw [hgetio m s hm hr, nth_eq, List.getD_eq_getElem?_getD, hu]
      have hav : av (a.put dst v) s = av a s := by
        cases dst with
        | none => rfl
        | some d =>
          refine av_put_ne ?_
          rcases hdx with ⟨h, _⟩ | ⟨d', y, h, _, hm'⟩
          · cases h
          · cases h
            rintro rfl
            rw [memN_eq] at hm'
            exact (of_decide_eq_false hm') hs'
      refine .inr ?_
      obtain ⟨hn1, hn2⟩ := hn
      have hbl : ∀ lv, lv ≠ 1 → (agBor ags = [] ∨ lv ≤ 1) → ∀ b, FB F' 0 lv b → FB F2 B lv b := by
        intro lv h1 h2 b hb
        refine hlv lv b h2 ?_
        match lv, h1 with
        | 0, _ => exact hb
        | n + 2, _ => exact hb
      have hlv1 : ∀ lv, (∃ z io, nthK c.K s = .own z lv io) ∨ (∃ n io, nthK c.K s = .box n lv io) → agBor ags = [] ∨ lv ≤ 1 := by
        intro lv hk
        rcases hbor with h | ⟨_, h0⟩
        · exact .inl h
        · right
          have := io0_at ags S.pm xs hioA h0 m s hm lv hk
          omega
      generalize hks : nthK c.K s = kk at hn2
      cases kk with
      | own z lv io =>
        refine .inr ?_
        obtain ⟨h1, h2⟩ := hn2
        rw [hav]
        have hown := (hI.own hks hb).blk
        exact OwnV_mono' (hbl lv h1 (hlv1 lv (.inl ⟨z, io, hks⟩))) (fun _ _ => rfl) (fun b hbk _ => ⟨⟨(hO2n b (hRn b (hown b hbk).2)).trans (hown b hbk).1.1, (hown b hbk).1.2⟩, rfl⟩) h2
      | box n lv io =>
        refine .inr ?_
        obtain ⟨h1, h2⟩ := hn2
        rw [hav]
        have hown := (hI.box hks hb).blk
        exact BoxV_mono' (hbl lv h1 (hlv1 lv (.inr ⟨n, io, hks⟩))) (fun _ _ => rfl) (fun b hbk _ => ⟨⟨(hO2n b (hRn b (hown b hbk).2)).trans (hown b hbk).1.1, (hown b hbk).1.2⟩, rfl⟩) h2
      | _ => exact hn2.elim
  · exact hkeep b (hI.fl b hb).1 fun p hp => by rw [(hI.fl b hb).2] at hp; cases hp
  · have hb := (hI.ol b p hp).1
    exact ⟨(hO2n b (hRn b hb)).trans hp, hkeep b hb fun q hq => by rw [hp] at hq; cases hq; exact fun hm' => hm (List.mem_append_right _ hm')⟩
  · rcases hb with hb | hb | ⟨j, hj, hn⟩
    · obtain ⟨h1, h2⟩ := hI.fl b hb
      exact ⟨Nat.lt_of_lt_of_le h1 hpost.size, (hO2n b (hRn b h1)).trans h2⟩
    · obtain ⟨_, h1, h2⟩ := hpost.fn b hb.1
      exact ⟨h1, (hO2n b h2).trans (hOlt b hb.2)⟩
    · exact ⟨(hpost.rn b j hj).2, (hO2s b j hj).trans hn⟩
  · cases h : R b with
    | none =>
      rw [hO2n b h] at hp
      exact ⟨Nat.lt_of_lt_of_le (hI.ol b p hp).1 hpost.size, (hI.ol b p hp).2⟩
    | some j => exact ⟨(hpost.rn b j h).2, .inl (Nat.le_trans hB (hpost.rn b j h).1)⟩
  · rcases hb with hb | hb | ⟨j, hj, _⟩
    · exact .inl hb
    · exact .inr (Nat.le_trans hB hb.2)
    · exact .inr (Nat.le_trans hB (hpost.rn b j hj).1)
  · refine hkeep b (Nat.lt_of_lt_of_le hb hB) fun p hp => ?_
    rcases (hI.ol b p hp).2 with h1 | h1
    · omega
    · exact absurd h1 hx

theorem noAny_at : ∀ {ms : List Kd}, noAny ms = true → ∀ i lv, (nthK ms i = .dat lv ∨ ∃ z io, nthK ms i = .own z lv io) → lv ≤ 1
  | [], _, i, lv, hk => by simp [nthK] at hk
  | m :: ms, h, i, lv, hk => by
    have : (∀ l, m = .dat l → l ≤ 1) ∧ (∀ z l io, m = .own z l io → l ≤ 1) ∧ noAny ms = true := by
      cases m with
      | dat a =>
        simp only [noAny] at h
        split at h
        case h_2 => cases h
        rename_i e
        exact ⟨fun l e' => by cases e'; exact ble_iff.1 e, fun _ _ _ e => (by cases e), h⟩
      | own z a io =>
        simp only [noAny] at h
        split at h
        case h_2 => cases h
        rename_i e
        exact ⟨fun _ e => (by cases e), fun _ l _ e' => by cases e'; exact ble_iff.1 e, h⟩
      | _ => simp [noAny] at h
    obtain ⟨h1, h2, h3⟩ := this
    cases i with
    | zero =>
      simp only [nthK] at hk
      rcases hk with hk | ⟨z, io, hk⟩
      · exact h1 lv hk
      · exact h2 z lv io hk
    | succ i => exact noAny_at h3 i lv hk

theorem callee_run {o : Oper} {q : Call} {f : Nat} (ho : o.op = .call q) (hf : q.callee = .value (.func f)) : (execOp a.eval o).run P w = (callFunc f (q.args.map a.eval)).run P w := by
  simp [execOp, ho, resolve, hf, Deferred.ofValue, Act.eval, invoke]

theorem callee_clo {o : Oper} {q : Call} {t f : Nat} {us : Array Value} (ho : o.op = .call q) (hf : q.callee = .value (.tmp t)) (hv : av a t = .func (.func f) #[] us) : (execOp a.eval o).run P w = (callFunc f (q.args.map a.eval ++ us)).run P w := by
  have hv' : a.eval (.tmp t) = .func (.func f) #[] us := hv
  simp [execOp, ho, resolve, hf, Deferred.ofValue, hv', invoke]

theorem ArgsOk_append {w : World} {F : Nat → Prop} {ow : Nat → Option Nat} : ∀ (pm pn : List Kd) (ds cs : List D) (ys us : List Value) (i : Nat), ArgsOk w F ow i pm ds ys → ArgsOk w F ow (i + pm.length) pn cs us → ArgsOk w F ow i (pm ++ pn) (ds ++ cs) (ys ++ us)
  | [], pn, [], cs, [], us, i, _, h => by simpa using h
  | k :: pm, pn, d :: ds, cs, y :: ys, us, i, h1, h2 => ⟨h1.1, ArgsOk_append pm pn ds cs ys us (i + 1) h1.2 (by rw [show i + 1 + pm.length = i + (k :: pm).length by simp; omega]; exact h2)⟩
  | [], _, _ :: _, _, _, _, _, h, _ => h.elim
  | [], _, [], _, _ :: _, _, _, h, _ => h.elim
  | _ :: _, _, [], _, _, _, _, h, _ => h.elim
  | _ :: _, _, _ :: _, _, [], _, _, h, _ => h.elim
theorem agsOf_len {K : List Kd} : ∀ (xs : List Operand) (pm : List Kd) (ags : List Ag), agsOf K xs pm = some ags → pm.length = xs.length
  | [], [], _, _ => rfl
  | x :: xs, m :: ms, ags, h => by
    simp only [agsOf] at h
    split at h
    · rename_i h1 h2
      simp [agsOf_len xs ms _ h2]
    · cases h
  | [], _ :: _, _, h => by simp [agsOf] at h
  | _ :: _, [], _, h => by simp [agsOf] at h
theorem takeN_eq {α : Type} : ∀ (n : Nat) (l : List α), takeN n l = l.take n
  | 0, l => by simp [takeN]
  | n + 1, [] => by simp [takeN]
  | n + 1, _ :: l => by simp [takeN, takeN_eq n l]
theorem caps_ok {w : World} {F : Nat → Prop} {ow : Nat → Option Nat} : ∀ (pn : List Kd) (cs : List D) (us : List Value) (i : Nat), allDat2 pn = true → cs.length = pn.length → cs.all D.single = true → RepL w F cs us → ArgsOk w F ow i pn cs us
  | [], [], us, i, _, _, _, h => by
    rw [RepL_nil] at h
    subst h
    trivial
  | k :: pn, d :: cs, us, i, hk, hl, hs, h => by
    obtain ⟨v1, v2, rfl, h1, h2⟩ := RepL_cons.1 h
    simp only [List.all_cons, Bool.and_eq_true] at hs
    obtain ⟨y, rfl, _⟩ := RepC_len d v1 hs.1 h1
    cases k with
    | dat lv =>
      simp only [allDat2] at hk
      split at hk
      case h_2 => cases hk
      rename_i e
      rw [beq_iff] at e
      subst e
      exact ⟨.inr ((RepV_single hs.1).2 h1), caps_ok pn cs v2 (i + 1) hk (by simpa using hl) hs.2 h2⟩
    | _ => simp [allDat2] at hk
  | [], _ :: _, _, _, _, hl, _, _ => by simp at hl
  | _ :: _, [], _, _, _, hl, _, _ => by simp at hl
theorem UsOk_cut {w : World} {F : Nat → Prop} : ∀ (pm pn : List Kd) (us : List D) (ys zs : List Value), pm.length = ys.length → allDat2 pn = true → UsOk w F (pm ++ pn) us (ys ++ zs) → UsOk w F pm us ys
  | [], pn, us, [], zs, _, hn, h => by
    have : ∀ (pn : List Kd) (us : List D) (zs : List Value), allDat2 pn = true → UsOk w F pn us zs → us = [] := by
      intro pn
      induction pn with
      | nil =>
        intro us zs _ h
        cases us with
        | nil => rfl
        | cons u us => exact h.elim
      | cons k pn ih =>
        intro us zs hk h
        cases k with
        | dat lv =>
          cases zs with
          | nil => cases us <;> exact h.elim
          | cons z zs =>
            simp only [UsOk, isIo, Bool.false_eq_true, if_false] at h
            simp only [allDat2] at hk
            split at hk
            · exact ih us zs hk h
            · cases hk
        | _ => simp [allDat2] at hk
    have e := this pn us zs hn (by simpa using h)
    subst e
    trivial
  | k :: pm, pn, us, y :: ys, zs, hl, hn, h => by
    simp only [List.cons_append, UsOk] at h ⊢
    split
    · rename_i hk
      rw [if_pos hk] at h
      cases us with
      | nil => exact h
      | cons u us => exact ⟨h.1, h.2.1, UsOk_cut pm pn us ys zs (by simpa using hl) hn h.2.2⟩
    · rename_i hk
      rw [if_neg hk] at h
      exact UsOk_cut pm pn us ys zs (by simpa using hl) hn h
  | [], _, _, _ :: _, _, hl, _, _ => by simp at hl
  | _ :: _, _, _, [], _, hl, _, _ => by simp at hl

theorem sound_clc (hS : ∀ f S, look c.S f = some S → Meets c.G P f S) {o : Oper} {q : Call} {t f : Nat} {S : FS} (ho : o.op = .call q) (hf : q.callee = .value (.tmp t)) (hlk : look c.S f = some S) {A : Ac} (hA : clcOf c o.dst t f S q.args.toList = some A) (hI : Inv c B X w0 F0 F O a w δ)
    {k : List D → Option Out} {r : Out} (hg : goAc c A δ k = some r) (Q : Exit → Act → World → Prop) : o.wp P a w (Next c B X w0 F0 k r) Q := by
  have hM := hS f S hlk
  unfold clcOf at hA
  split at hA
  case h_2 => cases hA
  rename_i d lt lr hd hkt hrm
  split at hA
  case h_2 => cases hA
  rename_i ags l hags hkd
  split at hA
  case h_2 => cases hA
  rename_i hlr hlt hpm hdat hio hbor
  cases hA
  rw [lenN_eq, takeN_eq] at hags hpm
  rw [lenN_eq, dropN_eq] at hdat
  rw [ble_iff] at hlr hlt
  simp only [goAc, getAll] at hg
  obtain ⟨caps, hc1, hg⟩ := Option.bind_eq_some_iff.1 hg
  rw [asmK_eq] at hg
  obtain ⟨ds, h1, hg⟩ := Option.bind_eq_some_iff.1 hg
  simp only [List.nil_append] at hg
  unfold callK at hg
  split at hg
  case h_2 => cases hg
  rename_i rs us h2
  -- the closure
  unfold capsD at hc1
  split at hc1
  case h_2 => cases hc1
  rename_i g0 l0 hclo
  split at hc1
  case isFalse => cases hc1
  rename_i hcc
  cases hc1
  obtain ⟨rfl, hcl, hcs⟩ := hcc
  have hbt : nth δ t ≠ .bad := fun e => by rw [e] at hclo; cases hclo
  have hst := (hI.slot t).resolve_left hbt
  rw [hkt] at hst
  have hrep := hst.resolve_left hbt
  rw [hclo] at hrep
  simp only [RepV, RepC] at hrep
  obtain ⟨uv, hav, hru⟩ := hrep
  simp only [List.cons.injEq, and_true] at hav
  have hpmE : S.pm = S.pm.take q.args.toList.length ++ S.pm.drop q.args.toList.length := (List.take_append_drop _ _).symm
  have hlenA := agsOf_len _ _ _ hags
  have hFB : ∀ b, FB F B lt b → F b := FB_sub
  have hargs := args_ok (F' := F) (ow := fun _ => none) hI (fun _ h => h) q.args.toList _ ags 0 ds hags hpm h1 (fun r hr b hb => by rw [hbor] at hr; cases hr) (fun j r hj b hb => by
    have := ioAt_mem hj
    rw [hio] at this
    cases this)
  have hcaps := caps_ok (w := w) (F := F) (ow := fun _ => none) (S.pm.drop q.args.toList.length) caps uv (0 + (S.pm.take q.args.toList.length).length) hdat (by rw [hcl, lenN_eq, lenN_eq, dropN_eq]) hcs (RepL_mono hFB (fun _ _ => rfl) _ _ hru)
  have hall := ArgsOk_append _ _ _ _ _ _ 0 hargs hcaps
  rw [← hpmE] at hall
  have he := hM (ds ++ caps) rs us h2 ((q.args.toList.map a.eval).toArray ++ uv.toArray) w F (fun _ => none) hI.gl (by simpa using hall) (fun b hb => ⟨(hI.fl b hb).1, rfl⟩) (fun b i hb => by cases hb) o a (Next c B X w0 F0 k r) Q (fun v w' hp => ?_)
  · unfold Oper.wp
    rw [callee_clo ho hf hav]
    have : q.args.map a.eval = (q.args.toList.map a.eval).toArray := by rw [← List.map_toArray, Array.toArray_toList]
    rw [this]
    exact he
  · obtain ⟨F', R, vs, hv, hp⟩ := hp
    have hpost : CallPost { pm := S.pm.take q.args.toList.length, rm := S.rm, f := S.f } (q.args.toList.map a.eval).toArray rs us w (fun b => F b ∨ ∃ r ∈ agBor ags, O b = some (r, 0)) (fun b => match O b with
      | some (r, 0) => owIx ags r 0
      | _ => none) F' R vs w' := by
      refine ⟨hp.os, hp.tape, hp.output, hp.size, fun b hb _ => hp.keep b hb rfl, fun b hb => ?_, fun b hb => ⟨?_, (hp.fn b hb).2⟩, hp.rn, hp.len, hp.lenD, hp.res, ?_⟩
      · rcases hb with hb | ⟨r, hr, _⟩
        · exact hp.f0 b hb
        · rw [hbor] at hr; cases hr
      · rcases (hp.fn b hb).1 with h | h
        · exact .inl (.inl h)
        · exact .inr h
      · have hu := hp.us
        rw [hpmE] at hu
        simp only [Array.toList_append] at hu
        exact UsOk_cut _ _ _ _ _ (by simpa using hlenA) hdat hu
    have hvl := hp.len
    rw [hrm] at hvl
    obtain ⟨y, rfl⟩ := List.length_eq_one_iff.1 hvl
    simp only [resV] at hv
    subst hv
    have hres := hp.res 0
    rw [hrm] at hres
    simp only [nthK, List.getD_cons_zero] at hres
    have hsz : d < δ.length → av (a.put (some d) v) d = v := fun h => av_put_eq (by rw [hI.la, ← hI.ld]; exact h)
    obtain ⟨F2, O2, hI'⟩ := call_step (S := { pm := S.pm.take q.args.toList.length, rm := S.rm, f := S.f }) (v := v) (dst := some d) (x := [nth rs 0]) hI hags hpm h1 (by simp [hio, nodupN]) (.inl hbor) hpost (.inr ⟨d, nth rs 0, rfl, rfl, by simp [hio, memN]⟩) (fun _ => none) (fun _ _ h => by cases h) (fun _ _ => rfl) (fun F2 O2 h4 h5 d' y' e1 e2 h6 => by
      cases e1
      simp only [List.cons.injEq, and_true] at e2
      subst e2
      by_cases hb : nth rs 0 = .bad
      · exact .inl hb
      · refine .inr ?_
        rw [hkd, hsz h6]
        exact .inr (RepV_mono (fun b hb => FB_le hlr _ (h4 lr b (.inl hbor) hb)) (fun _ _ => rfl) (hres.resolve_left hb)))
    have hus : us = [] := by
      have h3 := (io_new (c := c) (a := a) (δ := δ) ags _ q.args.toList us (io_arg hI _ _ _ _ hags hpm h1) (by simpa using hpost.us)).1
      rw [hio] at h3
      exact List.eq_nil_of_length_eq_zero h3
    subst hus
    refine ⟨F2, O2, _, by rw [hd]; exact hI', ?_⟩
    rw [hio]
    simpa using hg

theorem sound_call (hS : ∀ f S, look c.S f = some S → Meets c.G P f S) {o : Oper} {q : Call} {f : Nat} {S : FS} (ho : o.op = .call q) (hf : q.callee = .value (.func f)) (hlk : look c.S f = some S) {A : Ac} (hA : clOf c o.dst S q.args.toList = some A) (hI : Inv c B X w0 F0 F O a w δ)
    {k : List D → Option Out} {r : Out} (hg : goAc c A δ k = some r) (Q : Exit → Act → World → Prop) : o.wp P a w (Next c B X w0 F0 k r) Q := by
  have hM := hS f S hlk
  unfold clOf at hA
  split at hA
  · cases hA
  rename_i ags hags
  simp only at hA
  split at hA
  case h_2 => cases hA
  rename_i hokB hnd hpm
  have hbor : agBor ags = [] ∨ (noAny S.rm = true ∧ io0 S.pm = true ∧ apartN (agBor ags) (agIo ags) = true) := by
    split at hokB
    · rename_i e; exact .inl e
    · split at hokB
      · rename_i h1 h2; exact .inr ⟨h1, h2, hokB⟩
      · cases hokB
  have hbor' : agBor ags = [] ∨ (noAny S.rm = true ∧ io0 S.pm = true) := hbor.imp id fun h => ⟨h.1, h.2.1⟩
  -- the call itself
  have call : ∀ (ds rs us : List D), asmV ags (getAll δ (agRd ags)) = some ds → S.f ds = some (.ret rs us) → (∀ v w' F' R vs, v = resV vs → CallPost S (q.args.toList.map a.eval).toArray rs us w (fun b => F b ∨ ∃ r ∈ agBor ags, O b = some (r, 0)) (fun b => match O b with
      | some (r, 0) => owIx ags r 0
      | _ => none) F' R vs w' → Next c B X w0 F0 k r (a.put o.dst v) w') → o.wp P a w (Next c B X w0 F0 k r) Q := by
    intro ds rs us h1 h2 h3
    have hargs := args_ok (F' := fun b => F b ∨ ∃ r ∈ agBor ags, O b = some (r, 0)) (ow := fun b => match O b with
      | some (r, 0) => owIx ags r 0
      | _ => none) hI (fun _ h => .inl h) q.args.toList S.pm ags 0 ds hags hpm h1 (fun r hr b hb => .inr ⟨r, hr, hb⟩) (fun j r hj b hb => by simp only [hb]; rw [owIx_at hnd hj])
    have he := hM ds rs us h2 (q.args.toList.map a.eval).toArray w _ _ (gOk_mono (fun _ h => Or.inl h) (fun _ _ => rfl) hI.gl) (by simpa using hargs) (fun b hb => ?_) (fun b i hb => ?_) o a (Next c B X w0 F0 k r) Q (fun v w' hp => ?_)
    · unfold Oper.wp
      rw [callee_run ho hf]
      have : q.args.map a.eval = (q.args.toList.map a.eval).toArray := by rw [← List.map_toArray, Array.toArray_toList]
      rw [this]
      exact he
    · rcases hb with hb | ⟨r', hr, hb⟩
      · obtain ⟨g1, g2⟩ := hI.fl b hb
        exact ⟨g1, by simp only [g2]⟩
      · refine ⟨(hI.ol b _ hb).1, ?_⟩
        simp only [hb]
        cases h : owIx ags r' 0 with
        | none => rfl
        | some j =>
          rcases hbor with h0 | ⟨_, _, h0⟩
          · rw [h0] at hr; cases hr
          · exact absurd (owIx_mem h) (apartN_eq h0 r' hr)
    · split at hb
      · rename_i r' hr; exact (hI.ol b _ hr).1
      · cases hb
    · obtain ⟨F', R, vs, h4, h5⟩ := hp
      exact h3 v w' F' R vs h4 h5
  have asm : ∀ (K : List D → List D → Option Out), asmK [] ags (getAll δ (agRd ags)) (fun ds => callK (S.f ds) K) = some r → ∃ ds rs us, asmV ags (getAll δ (agRd ags)) = some ds ∧ S.f ds = some (.ret rs us) ∧ K rs us = some r := by
    intro K h
    rw [asmK_eq] at h
    obtain ⟨ds, h1, h2⟩ := Option.bind_eq_some_iff.1 h
    simp only [List.nil_append] at h2
    unfold callK at h2
    split at h2
    · rename_i rs us h3
      exact ⟨ds, rs, us, h1, h3, h2⟩
    · cases h2
  have uslen : ∀ {ds rs us : List D} {F' : Nat → Prop} {R : Nat → Option Nat} {vs : List Value} {w' : World} {F1 : Nat → Prop} {ow : Nat → Option Nat}, asmV ags (getAll δ (agRd ags)) = some ds → CallPost S (q.args.toList.map a.eval).toArray rs us w F1 ow F' R vs w' → clOf.outs us (agIo ags) = us := by
    intro ds rs us F' R vs w' F1 ow h1 h2
    have h3 := (io_new (c := c) (a := a) (δ := δ) ags S.pm q.args.toList us (io_arg hI _ _ _ _ hags hpm h1) (by simpa using h2.us)).1
    unfold clOf.outs
    rw [outs_eq us _ 0 (by omega), List.drop_zero, ← h3, List.take_length]
  have hlv0 : ∀ i lv, (nthK S.rm i = .dat lv ∨ ∃ z io, nthK S.rm i = .own z lv io) → agBor ags = [] ∨ lv ≤ 1 := fun i lv hk => hbor'.imp id fun h => noAny_at h.1 i lv hk
  split at hA
  · rename_i hd
    split at hA
    case h_2 => cases hA
    rename_i hrm
    cases hA
    obtain ⟨ds, rs, us, h1, h2, h3⟩ := asm _ hg
    refine call ds rs us h1 h2 (fun v w' F' R vs hv hp => ?_)
    obtain ⟨F2, O2, hI'⟩ := call_step (v := v) (dst := none) (x := []) hI hags hpm h1 hnd hbor' hp (.inl ⟨rfl, rfl⟩) (fun _ => none) (fun _ _ h => by cases h) (fun _ _ => rfl) (fun _ _ _ _ _ _ h => by cases h)
    rw [uslen h1 hp] at h3
    exact ⟨F2, O2, _, by rw [hd]; exact hI', h3⟩
  · rename_i d hd
    split at hA
    · rename_i h1' h2' hrm
      cases hA
      obtain ⟨ds, rs, us, h1, h2, h3⟩ := asm _ hg
      refine call ds rs us h1 h2 (fun v w' F' R vs hv hp => ?_)
      obtain ⟨F2, O2, hI'⟩ := call_step (v := v) (dst := some d) (x := [.bad]) hI hags hpm h1 hnd hbor' hp (.inr ⟨d, .bad, rfl, rfl, h2'⟩) (fun _ => none) (fun _ _ h => by cases h) (fun _ _ => rfl) (fun _ _ _ _ d y _ h _ => by
        simp only [List.cons.injEq, and_true] at h
        exact .inl h.symm)
      rw [uslen h1 hp] at h3
      exact ⟨F2, O2, _, by rw [hd]; exact hI', h3⟩
    · rename_i kd h1' h2' hrm
      cases hA
      obtain ⟨ds, rs, us, h1, h2, h3⟩ := asm _ hg
      refine call ds rs us h1 h2 (fun v w' F' R vs hv hp => ?_)
      have hvl := hp.len
      rw [hrm] at hvl
      obtain ⟨y, rfl⟩ := List.length_eq_one_iff.1 hvl
      simp only [resV] at hv
      subst hv
      have hres := hp.res 0
      rw [hrm] at hres
      simp only [nthK, List.getD_cons_zero] at hres
      rw [hrm] at h1'
      have hlv := hlv0 0
      rw [hrm] at hlv
      simp only [nthK] at hlv
      have fin : ∀ (g : Nat → Option (Nat × Nat)), (∀ j p, g j = some p → p.1 = d) → (∀ (F2 : Nat → Prop) (O2 : Nat → Option (Nat × Nat)), (∀ lv b, (agBor ags = [] ∨ lv ≤ 1) → FB F' w.heap.size lv b → FB F2 B lv b) → (∀ b j, R b = some j → O2 b = g j ∧ B ≤ b ∧ (g j = none → F2 b)) → d < δ.length → SlotU c.K B F2 O2 (a.put (some d) v) w' d (nth rs 0)) →
          Next c B X w0 F0 k r (a.put o.dst v) w' := by
        intro g hg' hU
        obtain ⟨F2, O2, hI'⟩ := call_step (v := v) (dst := some d) (x := [nth rs 0]) hI hags hpm h1 hnd hbor' hp (.inr ⟨d, nth rs 0, rfl, rfl, h2'⟩) g (fun j p h d' e => by cases e; exact hg' j p h) (fun h => by cases h) (fun F2 O2 h4 h5 d' y' e1 e2 h6 => by
          cases e1
          simp only [List.cons.injEq, and_true] at e2
          subst e2
          exact hU F2 O2 h4 h5 h6)
        rw [uslen h1 hp] at h3
        exact ⟨F2, O2, _, by rw [hd]; exact hI', h3⟩
      have hsz : d < δ.length → av (a.put (some d) v) d = v := fun h => av_put_eq (by rw [hI.la, ← hI.ld]; exact h)
      by_cases hb : nth rs 0 = .bad
      · exact fin (fun _ => none) (fun _ _ h => by cases h) (fun _ _ _ _ _ => .inl hb)
      have hres := hres.resolve_left hb
      cases kd with
      | dat lv =>
        simp only [rmFit] at h1'
        split at h1'
        case h_2 => cases h1'
        rename_i l hkd
        rw [ble_iff] at h1'
        refine fin (fun _ => none) (fun _ _ h => by cases h) (fun F2 O2 h4 h5 h6 => .inr ?_)
        rw [hkd, hsz h6]
        exact .inr (RepV_mono (fun b hb => FB_le h1' _ (h4 lv b (hlv lv (.inl rfl)) hb)) (fun _ _ => rfl) hres)
      | own z lv io =>
        cases io
        case true =>
          simp only [rmFit] at h1'
          split at h1'
          · simp [sameKs] at h1'
          · cases h1'
        simp only [rmFit] at h1'
        have hlv' := hlv lv (.inr ⟨z, false, rfl⟩)
        rcases newIn_some h1' with ⟨l, hkd, hle⟩ | ⟨l, hkd, h1l, hle⟩
        · refine fin (fun _ => some (d, 0)) (fun _ _ h => by cases h; rfl) (fun F2 O2 h4 h5 h6 => .inr ?_)
          rw [hkd, hsz h6]
          exact .inr (OwnV_mono' (fun b hb => FB_le hle _ (h4 lv b hlv' hb)) (fun _ _ => rfl) (fun b _ hb => ⟨⟨(h5 b 0 hb.1).1, fun _ => (h5 b 0 hb.1).2.1⟩, rfl⟩) hres)
        · refine fin (fun _ => none) (fun _ _ h => by cases h) (fun F2 O2 h4 h5 h6 => .inr ?_)
          rw [hkd, hsz h6]
          refine .inr (RepV_mono (fun b hb => ?_) (fun _ _ => rfl) (OwnV_rep hres))
          rcases hb with hb | ⟨hb1, hb2⟩
          · exact FB_le hle _ (h4 lv b hlv' hb)
          · obtain ⟨_, g2, g3⟩ := h5 b 0 hb1
            match l, h1l with
            | 1, _ => exact ⟨g3 rfl, g2⟩
            | _ + 2, _ => exact g3 rfl
      | _ => exact hres.elim
    · rename_i h1' h2' hn0 hn1
      cases hA
      obtain ⟨ds, rs, us, h1, h2, h3⟩ := asm _ hg
      refine call ds rs us h1 h2 (fun v w' F' R vs hv hp => ?_)
      have hvl := hp.len
      have hfit : ∃ ns, nthK c.K d = .tup ns ∧ sameKs S.rm ns = true := by
        unfold rmFit at h1'
        split at h1'
        · rename_i e; exact absurd e (hn1 _)
        · rename_i e; exact absurd e (hn1 _)
        · rename_i e; exact absurd e hn0
        · split at h1'
          · exact ⟨_, ‹_›, h1'⟩
          · cases h1'
      obtain ⟨ns, hkd, hsame⟩ := hfit
      have hv2 : v = .tuple vs.toArray := by
        rw [hv]
        unfold resV
        split
        · rename_i y
          exfalso
          have : S.rm.length = 1 := by rw [← hvl]; rfl
          obtain ⟨kk, e⟩ := List.length_eq_one_iff.1 this
          exact hn1 _ e
        · rfl
      obtain ⟨F2, O2, hI'⟩ := call_step (v := v) (dst := some d) (x := [.tup rs]) hI hags hpm h1 hnd hbor' hp (.inr ⟨d, .tup rs, rfl, rfl, h2'⟩) (fun j => some (d, j + 1)) (fun j p h d' e => by cases e; cases h; rfl) (fun h => by cases h) (fun F2 O2 h4 h5 d' y' e1 e2 h6 => by
        cases e1
        simp only [List.cons.injEq, and_true] at e2
        subst e2
        refine .inr ?_
        rw [hkd, av_put_eq (by rw [hI.la, ← hI.ld]; exact h6), hv2]
        refine ⟨rs, vs.toArray, rfl, rfl, fun i => ?_⟩
        obtain ⟨e1, e2⟩ := sameKs_at hsame i
        rw [e1]
        have hgd : vs.toArray.getD i undef = vs.getD i undef := by simp
        rw [hgd]
        rcases hp.res i with hb | hres
        · exact .inl hb
        rcases e2 with e2 | ⟨lv, e2⟩ | ⟨z, lv, e2⟩
        · rw [e2] at hres; exact hres.elim
        · rw [e2] at hres ⊢
          exact .inr (RepV_mono (fun b hb => h4 lv b (hlv0 i lv (.inl e2)) hb) (fun _ _ => rfl) hres)
        · rw [e2] at hres ⊢
          exact .inr (OwnV_mono' (fun b hb => h4 lv b (hlv0 i lv (.inr ⟨z, false, e2⟩)) hb) (fun _ _ => rfl) (fun b _ hb => ⟨⟨(h5 b i hb.1).1, fun _ => (h5 b i hb.1).2.1⟩, rfl⟩) hres))
      rw [uslen h1 hp] at h3
      exact ⟨F2, O2, _, by rw [hd]; exact hI', h3⟩
    · cases hA

end
end Go.V
/-
  Every operation keeps the invariant; each is a function of what it reads.
-/
namespace Go.V
open Go.RowKit

section
variable {P : Program} {c : Cx}

theorem sound_minmax {o : Oper} {q : Call} (ho : o.op = .call q) {bi : Builtin} (hq : q.callee = .builtin bi) (f : D → D → Option D) (g : Value → Value → Sem Value) (hbi : (bi = .min ∧ f = minD ∧ g = Builtin.min2) ∨ (bi = .max ∧ f = maxD ∧ g = Builtin.max2))
    {A : Ac} (hA : dataOp c o.dst q.args.toList 0 (fold1 f) = some A) {B : Nat} {X : Nat → Prop} {w0 : World} {F0 F : Nat → Prop} {O : Nat → Option (Nat × Nat)} {a : Act} {w : World} {δ : List D} (hI : Inv c B X w0 F0 F O a w δ) {k : List D → Option Out} {r : Out} (hg : goAc c A δ k = some r) (Q : Exit → Act → World → Prop) : o.wp P a w (Next c B X w0 F0 k r) Q := by
  rcases hbi with ⟨rfl, rfl, rfl⟩ | ⟨rfl, rfl, rfl⟩
  · refine foldM_sound ho hq rfl (f := minD) (g := Builtin.min2) (fun w G a b z x y ha hb h => min_run ha hb h) (fun x rest v he hr => ?_) hA hI hg Q
    simp [builtin, Builtin.min_, he, hr]
  · refine foldM_sound ho hq rfl (f := maxD) (g := Builtin.max2) (fun w G a b z x y ha hb h => max_run ha hb h) (fun x rest v he hr => ?_) hA hI hg Q
    simp [builtin, Builtin.max_, he, hr]

theorem sound_all (hT : okT P c.T = true) (hS : ∀ f S, look c.S f = some S → Meets c.G P f S) (o : Oper) : Sound P c o := by
  intro A hA B X w0 F0 F O a w δ hI k r hg Q
  have hA0 := hA
  unfold actOf at hA
  split at hA
  case h_1 x ho => exact sound_mv (.inl ho) hA hI hg Q
  case h_2 x ho => exact sound_mv (.inr ho) hA hI hg Q
  case h_3 q x y ho => exact sound_pick ho A hA0 B X w0 F0 F O a w δ hI k r hg Q
  case h_4 t ho => exact sound_alloc hT ho A hA0 B X w0 F0 F O a w δ hI k r hg Q
  case h_5 t x ho => exact sound_box ho A hA0 B X w0 F0 F O a w δ hI k r hg Q
  case h_6 t ps ho => exact sound_build hT ho A hA0 B X w0 F0 F O a w δ hI k r hg Q
  case h_7 t n ps ho => exact sound_buildSlice hT ho A hA0 B X w0 F0 F O a w δ hI k r hg Q
  case h_8 t p ho => exact sound_load hT ho A hA0 B X w0 F0 F O a w δ hI k r hg Q
  case h_9 t p x ho => exact sound_store hT ho A hA0 B X w0 F0 F O a w δ hI k r hg Q
  case h_10 x ho => exact sound_nilCheck ho A hA0 B X w0 F0 F O a w δ hI k r hg Q
  case h_11 op t x y _ ho => exact sound_binOp hT ho A hA0 B X w0 F0 F O a w δ hI k r hg Q
  case h_12 op t x ho => exact sound_unOp ho A hA0 B X w0 F0 F O a w δ hI k r hg Q
  case h_13 s t x ho => exact sound_convert hT ho A hA0 B X w0 F0 F O a w δ hI k r hg Q
  case h_14 f u v ho => exact sound_makeFunc ho A hA0 B X w0 F0 F O a w δ hI k r hg Q
  case h_15 t n m ho => exact sound_makeSlice hT ho A hA0 B X w0 F0 F O a w δ hI k r hg Q
  case h_16 t x lo hi ho =>
    have hA1 := withT_some hA
    clear hA
    obtain ⟨i, hi', hA⟩ := hA1
    have main : ∀ (hsl : i.str = false → isSl i = true), slOf c o.dst i x lo hi = some A → o.wp P a w (Next c B X w0 F0 k r) Q := by
      intro hsl hA
      have hA2 := hA
      unfold slOf at hA2
      split at hA2
      case h_2 => cases hA2
      rename_i q
      split at hA2
      · rename_i lv hk; exact sound_slice_dat hT ho hi' hsl hk hA hI hg Q
      · exact sound_slice_own hT ho hi' hsl hA2 hI hg Q
      · exact sound_slice_own hT ho hi' hsl hA2 hI hg Q
      · cases hA2
    split at hA
    · rename_i h1 h2; exact main (fun _ => h1) hA
    · rename_i h1 h2; exact main (fun h => by rw [h] at h2; cases h2) hA
    · cases hA
  case h_17 t x f ho => exact sound_fieldAddr hT ho A hA0 B X w0 F0 F O a w δ hI k r hg Q
  case h_18 t x f ho => exact sound_field hT ho A hA0 B X w0 F0 F O a w δ hI k r hg Q
  case h_19 t x i ho => exact sound_indexAddr hT ho A hA0 B X w0 F0 F O a w δ hI k r hg Q
  case h_20 t x i ho => exact sound_index hT ho A hA0 B X w0 F0 F O a w δ hI k r hg Q
  case h_21 x i ho => exact sound_extract ho A hA0 B X w0 F0 F O a w δ hI k r hg Q
  case h_22 q ho =>
    unfold caOf at hA
    split at hA
    · rename_i x t hq h1 h2
      have hA1 := withT_some hA
      clear hA
      obtain ⟨i, hi, hA⟩ := hA1
      have eq : q = { callee := .builtin .len, args := #[x], argTypes := #[t] } := by
        obtain ⟨cl, ar, ty⟩ := q
        simp only at hq h1 h2
        subst hq
        congr
        · rw [← Array.toArray_toList (xs := ar), h1]
        · rw [← Array.toArray_toList (xs := ty), h2]
      rw [eq] at ho
      split at hA
      · rename_i g1 g2
        exact lnOf_sound hT ho hi (fun _ => g1) (fun h => by cases h) hA hI hg Q
      · rename_i g1 g2
        exact lnOf_sound hT ho hi (fun h => by cases h) (fun _ => g2) hA hI hg Q
      · cases hA
    · rename_i s x t u hq h1 h2
      split at hA
      case h_2 => cases hA
      rename_i htu
      rw [beq_iff] at htu
      subst htu
      have hA1 := withT_some hA
      clear hA
      obtain ⟨i, hi, hA⟩ := hA1
      have hA1 := withT_some hA
      clear hA
      obtain ⟨e, he, hA⟩ := hA1
      split at hA
      case h_2 => cases hA
      rename_i hsl
      exact sound_append hT ho hq h1 h2 hi he hsl hA hI hg Q
    · rename_i hq; exact sound_minmax ho hq minD Builtin.min2 (.inl ⟨rfl, rfl, rfl⟩) hA hI hg Q
    · rename_i hq; exact sound_minmax ho hq maxD Builtin.max2 (.inr ⟨rfl, rfl, rfl⟩) hA hI hg Q
    · rename_i f hq
      split at hA
      case h_2 => cases hA
      rename_i S hlk
      exact sound_call hS ho hq hlk hA hI hg Q
    · rename_i t hq
      split at hA
      case h_2 => cases hA
      rename_i f hC
      split at hA
      case h_2 => cases hA
      rename_i S hlk
      exact sound_clc hS ho hq hlk hA hI hg Q
    · cases hA
  case h_23 => cases hA

/-! ### each act is a function of what it reads -/
def Nt (n : Nat) (f : (List D → Option Out) → Option Out) : Prop := ∃ o : Option (List D), (∀ k, f k = o.bind k) ∧ ∀ l, o = some l → l.length = n
def NatA : Ac → Prop
  | .one _ _ _ => True
  | .many _ hw cw fn => ∀ is, Nt (hw ++ cw).length (fn is)

theorem Nt_ret {n : Nat} {l : List D} (h : l.length = n) : Nt n (fun k => k l) := ⟨some l, fun _ => rfl, fun l' e => by cases e; exact h⟩
theorem Nt_none {n : Nat} : Nt n (fun _ => none) := ⟨none, fun _ => rfl, fun _ e => by cases e⟩
theorem Nt_bind {n : Nat} {X : Option D} {f : D → (List D → Option Out) → Option Out} (h : ∀ y, Nt n (f y)) : Nt n (fun k => X.bind fun y => f y k) := by
  cases X with
  | none => exact Nt_none
  | some y => exact h y
theorem Nt_bindL {n : Nat} {X : Option (List D)} {f : List D → (List D → Option Out) → Option Out} (h : ∀ y, Nt n (f y)) : Nt n (fun k => X.bind fun y => f y k) := by
  cases X with
  | none => exact Nt_none
  | some y => exact h y
theorem Nt_nth {n : Nat} {is : List D} {i : Nat} {f : D → (List D → Option Out) → Option Out} (h : ∀ y, Nt n (f y)) : Nt n (fun k => nthC is i fun y => f y k) := by
  simp only [nthC_eq]
  exact h _
theorem Nt_goP {n q r : Nat} {is : List D} {f : D → D → List D → (List D → Option Out) → Option Out} (h : ∀ b p is, Nt n (f b p is)) : Nt n (fun k => goP q r is fun b p is => f b p is k) := by
  unfold goP
  cases Nat.beq q r
  · rcases is with _ | ⟨p, _ | ⟨b, is⟩⟩
    · exact Nt_none
    · exact Nt_none
    · exact h _ _ _
  · cases is with
    | nil => exact Nt_none
    | cons b is => exact h _ _ _
theorem Nt_stK {n m : Nat} {chk : Bool} {b p y : D} {f : D → (List D → Option Out) → Option Out} (h : ∀ y, Nt n (f y)) : Nt n (fun k => stK chk m b p y fun b => f b k) := by
  unfold stK
  cases chk
  · exact Nt_bind h
  · exact Nt_bind fun _ => Nt_bind h
theorem Nt_src {n : Nat} {rd : List Nat} {is : List D} {f : D → (List D → Option Out) → Option Out} (h : ∀ y, Nt n (f y)) : Nt n (fun k => srcVal rd is fun y => f y k) := by
  unfold srcVal
  rcases rd with _ | ⟨a, _ | ⟨b, rd⟩⟩
  · exact h _
  · exact Nt_nth h
  · exact Nt_nth fun p => Nt_nth fun x => Nt_bind h
theorem Nt_asm {n : Nat} {ags : List Ag} {is : List D} {f : List D → (List D → Option Out) → Option Out} (h : ∀ y, Nt n (f y)) : Nt n (fun k => asmK [] ags is fun y => f y k) := by
  simp only [asmK_eq, List.nil_append]
  cases asmV ags is with
  | none => exact Nt_none
  | some y => exact h y
theorem Nt_call {n : Nat} {r : Option Out} {f : List D → List D → (List D → Option Out) → Option Out} (h : ∀ y z, Nt n (f y z)) : Nt n (fun k => callK r fun y z => f y z k) := by
  unfold callK
  split
  · exact h _ _
  · exact Nt_none

theorem dataOp_nat {dst : Option Nat} {xs : List Operand} {lv : Nat} {h : List D → Option D} {A : Ac} (hA : dataOp c dst xs lv h = some A) : NatA A := by
  unfold dataOp at hA
  repeat' (split at hA)
  all_goals first | (cases hA; done) | (cases hA; trivial)
theorem lvFit_nat {rd : List Nat} {d lv l : Nat} {h : List D → Option D} {A : Ac} (hA : mapO (fun h => Ac.one rd d h) (lvFit lv l h) = some A) : NatA A := by
  unfold lvFit at hA
  repeat' (split at hA)
  all_goals first | (cases hA; done) | (cases hA; trivial)

theorem mvOf_nat {dst : Option Nat} {x : Operand} {t : Nat} {A : Ac} (hA : mvOf c dst x t = some A) : NatA A := by
  unfold mvOf at hA
  repeat' (split at hA)
  all_goals first
    | (cases hA; done)
    | exact dataOp_nat hA
    | (cases hA; trivial)
    | (cases hA; exact fun is => Nt_nth fun x => Nt_ret rfl)
    | (cases hA; exact fun is => Nt_nth fun p => Nt_nth fun x => Nt_bind fun y => Nt_ret rfl)
    | (cases hA; exact fun is => Nt_ret rfl)
    | (obtain ⟨i, _, hA⟩ := withT_some hA; exact dataOp_nat hA)
theorem ldOf_nat {dst : Option Nat} {i : TI} {p : Operand} {A : Ac} (hA : ldOf c dst i p = some A) : NatA A := by
  unfold ldOf at hA
  repeat' (split at hA)
  all_goals first | (cases hA; done) | exact dataOp_nat hA | exact lvFit_nat hA
theorem stOf_nat {i : TI} {p x : Operand} {A : Ac} (hA : stOf c i p x = some A) : NatA A := by
  have main : ∀ q r lv, stTo c i q r lv x = some A → NatA A := by
    intro q r lv hA
    unfold stTo at hA
    repeat' (split at hA)
    all_goals first
      | (cases hA; done)
      | (cases hA; exact fun is => Nt_goP fun b p is => Nt_nth fun y => Nt_stK fun b => Nt_ret rfl)
      | (cases hA; exact fun is => Nt_goP fun b p is => Nt_stK fun b => Nt_ret rfl)
  unfold stOf at hA
  repeat' (split at hA)
  all_goals first | (cases hA; done) | exact main _ _ _ hA
theorem faOf_nat {dst : Option Nat} {i : TI} {f : Nat} {p : Operand} {A : Ac} (hA : faOf c dst i f p = some A) : NatA A := by
  unfold faOf at hA
  repeat' (split at hA)
  all_goals first | (cases hA; done) | exact dataOp_nat hA | (cases hA; trivial)
theorem iaOf_nat {dst : Option Nat} {i : TI} {x y : Operand} {A : Ac} (hA : iaOf c dst i x y = some A) : NatA A := by
  unfold iaOf at hA
  repeat' (split at hA)
  all_goals first | (cases hA; done) | exact dataOp_nat hA | (cases hA; trivial)
theorem bsOf_nat {dst : Option Nat} {i : TI} {n : Nat} {ps : List (Nat × Operand)} {A : Ac} (hA : bsOf c dst i n ps = some A) : NatA A := by
  unfold bsOf at hA
  simp only at hA
  repeat' (split at hA)
  all_goals first | (cases hA; done) | (cases hA; exact fun is => Nt_bind fun y => Nt_ret rfl)
theorem Nt_chk {n : Nat} {chk : Bool} {b : D} {f : D → (List D → Option Out) → Option Out} (h : ∀ y, Nt n (f y)) : Nt n (fun k => chkK chk b fun b => f b k) := by
  cases chk
  · exact h b
  · exact Nt_bind h
theorem apOf_nat {dst : Option Nat} {i : TI} {x y : Operand} {A : Ac} (hA : apOf c dst i x y = some A) : NatA A := by
  have main : ∀ d chk rs rx os, apTo c d i chk rs rx os = some A → NatA A := by
    intro d chk rs rx os hA
    unfold apTo at hA
    repeat' (split at hA)
    all_goals first
      | (cases hA; done)
      | (cases hA; exact fun is => Nt_src fun a => Nt_src fun b => Nt_chk fun b => Nt_bind fun y => Nt_ret rfl)
      | (cases hA; exact fun is => Nt_src fun b => Nt_chk fun b => Nt_bind fun y => Nt_ret rfl)
  unfold apOf at hA
  repeat' (split at hA)
  all_goals first
    | (cases hA; done)
    | exact main _ _ _ _ _ hA
theorem lnOf_nat {dst : Option Nat} {str : Bool} {x : Operand} {A : Ac} (hA : lnOf c dst str x = some A) : NatA A := by
  unfold lnOf at hA
  repeat' (split at hA)
  all_goals first | (cases hA; done) | exact dataOp_nat hA | (cases hA; trivial)
theorem slOf_nat {dst : Option Nat} {i : TI} {x : Operand} {lo hi : Option Operand} {A : Ac} (hA : slOf c dst i x lo hi = some A) : NatA A := by
  have own : slOwn c dst i x lo hi = some A → NatA A := by
    intro hA
    unfold slOwn at hA
    repeat' (split at hA)
    all_goals first | (cases hA; done) | (cases hA; exact fun is => Nt_src fun a => Nt_bind fun y => Nt_ret rfl)
  unfold slOf at hA
  repeat' (split at hA)
  all_goals first | (cases hA; done) | exact dataOp_nat hA | exact own hA
theorem mkOf_nat {dst : Option Nat} {i e : TI} {x y : Operand} {A : Ac} (hA : mkOf c dst i e x y = some A) : NatA A := by
  unfold mkOf at hA
  repeat' (split at hA)
  all_goals first | (cases hA; done) | (cases hA; exact fun is => Nt_bind fun y => Nt_ret rfl)
theorem bxOf_nat {dst : Option Nat} {i : TI} {x : Operand} {A : Ac} (hA : bxOf c dst i x = some A) : NatA A := by
  unfold bxOf at hA
  repeat' (split at hA)
  all_goals first | (cases hA; done) | (cases hA; exact fun is => Nt_bind fun y => Nt_ret rfl) | (cases hA; exact fun is => Nt_bind fun y => Nt_bind fun y => Nt_ret rfl)
theorem clcOf_nat {dst : Option Nat} {t f : Nat} {S : FS} {xs : List Operand} {A : Ac} (hA : clcOf c dst t f S xs = some A) : NatA A := by
  unfold clcOf at hA
  repeat' (split at hA)
  all_goals first
    | (cases hA; done)
    | (cases hA; exact fun is => by
        cases is with
        | nil => exact Nt_none
        | cons cl is => exact Nt_bindL fun caps => Nt_asm fun ds => Nt_call fun rs us => Nt_ret rfl)
theorem alOf_nat {dst : Option Nat} {i : TI} {A : Ac} (hA : alOf c dst i = some A) : NatA A := by
  unfold alOf at hA
  repeat' (split at hA)
  all_goals first | (cases hA; done) | (cases hA; exact fun is => Nt_ret rfl)
theorem exOf_nat {dst : Option Nat} {x : Operand} {i : Nat} {A : Ac} (hA : exOf c dst x i = some A) : NatA A := by
  unfold exOf at hA
  repeat' (split at hA)
  all_goals first | (cases hA; done) | (cases hA; trivial) | (cases hA; exact fun is => Nt_nth fun t => Nt_bind fun y => Nt_ret rfl)
theorem outs_len (us : List D) : ∀ (ios : List Nat) (j : Nat), (clOf.go us j ios).length = ios.length
  | [], _ => rfl
  | _ :: l, j => by simp [clOf.go, outs_len us l]
theorem clOf_nat {dst : Option Nat} {S : FS} {xs : List Operand} {A : Ac} (hA : clOf c dst S xs = some A) : NatA A := by
  unfold clOf at hA
  split at hA
  · cases hA
  simp only at hA
  split at hA
  case h_2 => cases hA
  repeat' (split at hA)
  all_goals first
    | (cases hA; done)
    | (cases hA; exact fun is => Nt_asm fun ds => Nt_call fun rs us => Nt_ret (by simp [clOf.outs, outs_len]))
theorem cvOf_nat {dst : Option Nat} {i j : TI} {x : Operand} {A : Ac} (hA : cvOf c dst i j x = some A) : NatA A := by
  unfold cvOf at hA
  repeat' (split at hA)
  all_goals first | (cases hA; done) | exact dataOp_nat hA | (cases hA; trivial)
theorem ixOf_nat {dst : Option Nat} {i : TI} {x y : Operand} {A : Ac} (hA : ixOf c dst i x y = some A) : NatA A := by
  unfold ixOf at hA
  repeat' (split at hA)
  all_goals first | (cases hA; done) | exact dataOp_nat hA | (obtain ⟨i, _, hA⟩ := withT_some hA; exact dataOp_nat hA)
theorem buOf_nat {dst : Option Nat} {i : TI} {ps : List (Nat × Operand)} {A : Ac} (hA : buOf c dst i ps = some A) : NatA A := by
  unfold buOf at hA
  simp only at hA
  repeat' (split at hA)
  all_goals first | (cases hA; done) | exact dataOp_nat hA
theorem ncOf_nat {dst : Option Nat} {x : Operand} {A : Ac} (hA : ncOf c dst x = some A) : NatA A := by
  unfold ncOf at hA
  repeat' (split at hA)
  all_goals first | (cases hA; done) | exact dataOp_nat hA | (cases hA; trivial)
theorem caOf_nat {dst : Option Nat} {q : Call} {A : Ac} (hA : caOf c dst q = some A) : NatA A := by
  unfold caOf at hA
  split at hA
  · obtain ⟨i, _, hA⟩ := withT_some hA
    split at hA <;> first | exact lnOf_nat hA | cases hA
  · split at hA
    · obtain ⟨i, _, hA⟩ := withT_some hA
      obtain ⟨e, _, hA⟩ := withT_some hA
      split at hA <;> first | exact apOf_nat hA | cases hA
    · cases hA
  · exact dataOp_nat hA
  · exact dataOp_nat hA
  · split at hA <;> first | exact clOf_nat hA | cases hA
  · repeat' (split at hA)
    all_goals first | exact clcOf_nat hA | cases hA
  · cases hA

theorem actOf_nat {o : Oper} {A : Ac} (hA : actOf c o = some A) : NatA A := by
  unfold actOf at hA
  split at hA
  case h_1 => exact mvOf_nat hA
  case h_2 => exact mvOf_nat hA
  case h_3 => exact dataOp_nat hA
  case h_4 => obtain ⟨i, _, hA⟩ := withT_some hA; exact alOf_nat hA
  case h_5 => obtain ⟨i, _, hA⟩ := withT_some hA; exact bxOf_nat hA
  case h_6 => obtain ⟨i, _, hA⟩ := withT_some hA; exact buOf_nat hA
  case h_7 =>
    obtain ⟨i, _, hA⟩ := withT_some hA
    obtain ⟨e, _, hA⟩ := withT_some hA
    split at hA <;> first | exact bsOf_nat hA | cases hA
  case h_8 => obtain ⟨i, _, hA⟩ := withT_some hA; exact ldOf_nat hA
  case h_9 =>
    split at hA
    · obtain ⟨i, _, hA⟩ := withT_some hA; exact stOf_nat hA
    · cases hA
  case h_10 => exact ncOf_nat hA
  case h_11 =>
    obtain ⟨i, _, hA⟩ := withT_some hA
    split at hA
    · exact dataOp_nat hA
    · split at hA <;> exact dataOp_nat hA
  case h_12 => exact dataOp_nat hA
  case h_13 =>
    obtain ⟨i, _, hA⟩ := withT_some hA
    obtain ⟨e, _, hA⟩ := withT_some hA
    exact cvOf_nat hA
  case h_14 => split at hA <;> first | exact dataOp_nat hA | cases hA
  case h_15 =>
    obtain ⟨i, _, hA⟩ := withT_some hA
    obtain ⟨e, _, hA⟩ := withT_some hA
    split at hA <;> first | exact mkOf_nat hA | cases hA
  case h_16 =>
    obtain ⟨i, _, hA⟩ := withT_some hA
    split at hA <;> first | exact slOf_nat hA | cases hA
  case h_17 => obtain ⟨i, _, hA⟩ := withT_some hA; exact faOf_nat hA
  case h_18 =>
    obtain ⟨i, _, hA⟩ := withT_some hA
    split at hA <;> first | exact dataOp_nat hA | cases hA
  case h_19 => obtain ⟨i, _, hA⟩ := withT_some hA; exact iaOf_nat hA
  case h_20 => obtain ⟨i, _, hA⟩ := withT_some hA; exact ixOf_nat hA
  case h_21 => exact exOf_nat hA
  case h_22 => exact caOf_nat hA
  case h_23 => cases hA

end
end Go.V
/-
  One step of a region, with its guard; regions in the order of the text.
-/
namespace Go.V
open Go.RowKit

def noRefK : Kd → Bool
  | .via _ => false
  | .ref _ => false
  | _ => true
/-- What is checked of an operation. -/
def okOp (c : Cx) (ops : List Oper) (o : Oper) : Bool :=
  (match o.dst with
    | some d => !isIo (nthK c.K d)
    | none => true) &&
  (match o.guard with
    | none => true
    | some (j, _) => (match gslot ops j with
        | some g => (match nthK c.K g with
          | .dat _ => true
          | _ => false)
        | none => false) &&
      (match actOf c o with
        | some (.one _ d _) => (match o.dst with
          | some d' => Nat.beq d' d
          | none => false)
        | some (.many _ hw cw _) => (hw ++ cw).all (fun s => noRefK (nthK c.K s)) && (match o.dst with
          | some d => memN d hw
          | none => true)
        | none => true))

/-- The roots that belong to the caller keep their values. -/
def IoV (c : Cx) (V : Nat → Value) (a : Act) : Prop := ∀ s, isIo (nthK c.K s) = true → av a s = V s

theorem upon_dst {P : Program} {o : Oper} {a : Act} {next : Act → World → Prop} {Q : Exit → Act → World → Prop} : ∀ {res : Result Go.Next}, o.upon P a next Q res → o.upon P a (fun a' w' => next a' w' ∧ ∀ s, o.dst ≠ some s → av a' s = av a s) Q res := by
  have key : ∀ (df : List Deferred) (v : Value) (s : Nat), o.dst ≠ some s → av (({ a with defers := df } : Act).put o.dst v) s = av a s := by
    intro df v s hs
    cases hd : o.dst with
    | none => rfl
    | some d =>
      have : s ≠ d := fun e => hs (by rw [hd, e])
      exact (av_put_ne this).trans rfl
  have key0 : ∀ (v : Value) (s : Nat), o.dst ≠ some s → av (a.put o.dst v) s = av a s := fun v s hs => key a.defers v s hs
  intro res h
  cases res with
  | ok n w' =>
    cases n <;> simp only [Oper.upon] at h ⊢ <;>
      first
        | exact ⟨h, key0 _⟩
        | exact ⟨h, key _ _⟩
        | exact Calls.mono h (fun e w'' he => by cases e <;> first | exact ⟨he, key0 _⟩ | exact he)
        | exact Rows.mono h (fun _ _ he => ⟨he, key0 _⟩)
  | halt x w' => cases x <;> simp only [Oper.upon] at h ⊢ <;> exact h

section
variable {P : Program} {c : Cx} {B : Nat} {X : Nat → Prop} {w0 : World} {F0 F : Nat → Prop} {O : Nat → Option (Nat × Nat)} {a : Act} {w : World} {δ : List D}

theorem fit_eq : ∀ (ss : List Nat) (l : List D) (j : Nat), j + ss.length = l.length → fit l j ss = l.drop j
  | [], l, j, h => by simp [fit, List.drop_eq_nil_of_le (show l.length ≤ j by simp at h; omega)]
  | s :: ss, l, j, h => by
    simp only [List.length_cons] at h
    have hj : j < l.length := by omega
    simp only [fit]
    rw [fit_eq ss l (j + 1) (by omega), List.drop_eq_getElem_cons hj, nth_eq, List.getD_eq_getElem?_getD, List.getElem?_eq_getElem hj]
    rfl

/-- What an operation that is passed over leaves in the slots that it would have written. -/
def altV (K : List Kd) (dst : Option Nat) (δ : List D) (s : Nat) : D :=
  match dst with
  | some d => if memN s (d :: deps d K 0) then skipD (nthK K s) else nth δ s
  | none => nth δ s
theorem altC_eq (K : List Kd) (dst : Option Nat) (δ : List D) : ∀ (ss : List Nat) (k : List D → Option Out), altC K δ dst ss k = k (ss.map (altV K dst δ))
  | [], k => by simp [altC]
  | s :: ss, k => by
    cases dst with
    | none => simp only [altC, altV, nthC_eq, List.map_cons]; exact altC_eq K none δ ss _
    | some d =>
      simp only [altC, List.map_cons]
      cases h : memN s (d :: deps d K 0)
      · simp only [nthC_eq]
        rw [altC_eq K (some d) δ ss]
        simp only [altV, h, Bool.false_eq_true, if_false]
      · simp only
        rw [altC_eq K (some d) δ ss]
        simp only [altV, h, if_true]

theorem setMany_map (f : Nat → D) : ∀ (ss : List Nat) (δ : List D) (s : Nat), nth (setMany δ ss (ss.map f)) s = if s ∈ ss then (if s < δ.length then f s else .bad) else nth δ s
  | [], δ, s => by simp [setMany]
  | t :: ss, δ, s => by
    simp only [List.map_cons, setMany]
    rw [setMany_map f ss (setAt δ t (f t)) s, len_setAt]
    by_cases hs : s ∈ ss
    · simp [hs]
    · by_cases ht : s = t
      · subst ht
        simp only [hs, if_false, List.mem_cons, true_or, if_true]
        exact nth_setAt_eq _ _ _
      · simp only [hs, if_false, List.mem_cons, ht, or_self]
        exact nth_setAt_ne _ _ _ _ ht

theorem nth_lt {δ : List D} {s : Nat} (h : nth δ s ≠ .bad) : s < δ.length := by
  by_cases hl : s < δ.length
  · exact hl
  · exfalso
    rw [nth_eq, List.getD_eq_getElem?_getD, List.getElem?_eq_none (by omega)] at h
    exact h rfl

/-- What a slot holds behind an operation that is passed over. -/
theorem skip_ok {s : Nat} (hs : s < a.tmps.size) : SlotU c.K B F O (a.put (some s) undef) w s (skipD (nthK c.K s)) := by
  have hav : av (a.put (some s) undef) s = undef := by
    simp [av, Act.put, hs]
  unfold skipD
  split
  · rename_i lv hk
    refine .inr ?_
    simp only [hk]
    refine .inr ?_
    rw [hav]
    exact ⟨rfl, rfl⟩
  · exact .inl rfl

/-- An operation is passed over. -/
theorem Inv.pass_over (h : Inv c B X w0 F0 F O a w δ) {dst : Option Nat} {hw cw : List Nat} (hk : ∀ s ∈ hw ++ cw, noRefK (nthK c.K s) = true) (hd : ∀ d, dst = some d → d ∈ hw) :
    Inv c B X w0 F0 F O (a.put dst undef) w (setMany δ (hw ++ (cw ++ depsAll c.K hw)) ((hw ++ cw).map (altV c.K dst δ))) := by
  have hav : ∀ s, dst ≠ some s → av (a.put dst undef) s = av a s := by
    intro s hs
    cases dst with
    | none => rfl
    | some d => exact av_put_ne fun e => hs (by rw [e])
  have hnd : ∀ s, noRefK (nthK c.K s) = true → ∀ d, s ∉ deps d c.K 0 := fun s hs d hm => by
    rcases deps_kind hm with e | e <;> rw [e] at hs <;> cases hs
  refine h.many (by simp) (by cases dst <;> simp [Act.put]) (by cases dst <;> rfl) (fun s hs => hav s fun e => hs (hd s e)) (fun r hr hn hb => ?_) (fun s hs => ?_) (fun _ hb => hb) (fun _ _ => rfl) (fun _ _ hp _ => ⟨hp, rfl⟩) h.fl h.ol (fun _ hb => .inl hb) (Nat.le_refl _) rfl rfl rfl (fun _ _ _ => rfl)
  · rw [setMany_map, if_pos (List.mem_append_right _ hr), if_pos (nth_lt hb)]
    unfold altV
    split
    · rename_i d
      rw [if_neg]
      · exact hb
      · rw [memN_eq]
        simp only [decide_eq_true_eq, List.mem_cons, not_or]
        exact ⟨fun e => hn (e ▸ hd d rfl), hnd r (hk r (List.mem_append_right _ hr)) d⟩
    · exact hb
  · rw [setMany_map, if_pos hs]
    split
    case isFalse => exact .inl rfl
    rename_i hsl
    have keep : dst ≠ some s → SlotU c.K B F O (a.put dst undef) w s (nth δ s) := by
      intro hne
      rcases h.slot s with hb | hb
      · exact .inl hb
      · refine .inr ?_
        have hks := hk s hs
        rw [hav s hne]
        generalize nthK c.K s = kk at hks hb
        cases kk <;> first | exact hb | cases hks
    unfold altV
    split
    · rename_i d
      split
      · rename_i hm
        rw [memN_eq] at hm
        simp only [decide_eq_true_eq, List.mem_cons] at hm
        rcases hm with rfl | hm
        · exact skip_ok (by rw [h.la, ← h.ld]; exact hsl)
        · rcases deps_kind hm with e | e <;> (rw [e]; exact .inl rfl)
      · rename_i hm
        rw [memN_eq] at hm
        simp only [decide_eq_true_eq, List.mem_cons, not_or] at hm
        exact keep fun e => hm.1 (by cases e; rfl)
    · exact keep (by simp)

/-- What an operation reads; what it writes. -/
def rdS (c : Cx) (ops : List Oper) (o : Oper) : List Nat :=
  match actOf c o with
  | none => []
  | some A => match o.guard with
    | none => rdAc A
    | some (j, _) => match gslot ops j with
      | none => []
      | some g => match A with
        | .one rd _ _ => g :: rd
        | .many rd hw cw _ => g :: (rd ++ (hw ++ cw))
def wrS (c : Cx) (o : Oper) : List Nat :=
  match actOf c o with
  | none => []
  | some (.one _ d _) => d :: deps d c.K 0
  | some (.many _ hw cw _) => hw ++ (cw ++ depsAll c.K hw)

theorem getAll_congr {δ δ' : List D} : ∀ {ss : List Nat}, (∀ s ∈ ss, nth δ s = nth δ' s) → getAll δ ss = getAll δ' ss
  | [], _ => rfl
  | s :: ss, h => by
    simp only [getAll]
    rw [h s (by simp), getAll_congr fun t ht => h t (by simp [ht])]

theorem getAll_at {δ δ' : List D} : ∀ {ss : List Nat}, getAll δ ss = getAll δ' ss → ∀ s ∈ ss, nth δ s = nth δ' s
  | t :: ss, h, s, hs => by
    simp only [getAll, List.cons.injEq] at h
    rcases List.mem_cons.1 hs with rfl | hs
    · exact h.1
    · exact getAll_at h.2 s hs

/-- A step: what it writes is a function of what it reads. -/
theorem step_form (c : Cx) (ops : List Oper) (o : Oper) : ∃ φ : List D → Option (List D), (∀ δ k, stepK c ops o δ k = (φ δ).bind fun l => k (setMany δ (wrS c o) l)) ∧ ∀ δ δ', getAll δ (rdS c ops o) = getAll δ' (rdS c ops o) → φ δ = φ δ' := by
  unfold stepK rdS wrS
  cases hA : actOf c o with
  | none => exact ⟨fun _ => none, fun _ _ => rfl, fun _ _ _ => rfl⟩
  | some A =>
    have hn := actOf_nat hA
    cases hgd : o.guard with
    | none =>
      cases A with
      | one rd d h =>
        refine ⟨fun δ => (h (getAll δ rd)).map fun z => [z], fun δ k => ?_, fun δ δ' e => by simp only [rdAc] at e; simp only [e]⟩
        simp only [getC_eq]
        cases h (getAll δ rd) with
        | none => rfl
        | some z => exact setManyC_eq _ _ _ _
      | many rd hw cw fn =>
        refine ⟨fun δ => Classical.choose (hn (getAll δ rd)), fun δ k => ?_, fun δ δ' e => by simp only [rdAc] at e; simp only [e]⟩
        simp only [getC_eq, setManyC_eq, app_eq]
        exact (Classical.choose_spec (hn (getAll δ rd))).1 _
    | some jp =>
      obtain ⟨j, pol⟩ := jp
      simp only
      cases hg : gslot ops j with
      | none => exact ⟨fun _ => none, fun _ _ => rfl, fun _ _ _ => rfl⟩
      | some g =>
        cases A with
        | one rd d h =>
          refine ⟨fun δ => (gate (skipD (nthK c.K d)) (nth δ g) pol (h (getAll δ rd))).map fun z => [z], fun δ k => ?_, fun δ δ' e => by simp only [getAll, List.cons.injEq] at e; simp only [e.1, e.2]⟩
          simp only [getC_eq, nthC_eq]
          cases gate (skipD (nthK c.K d)) (nth δ g) pol (h (getAll δ rd)) with
          | none => rfl
          | some z => exact setManyC_eq _ _ _ _
        | many rd hw cw fn =>
          refine ⟨fun δ => match nth δ g with
            | .v (.bool b) => if b = pol then Classical.choose (hn (getAll δ rd)) else some ((hw ++ cw).map (altV c.K o.dst δ))
            | .tup _ => some ((hw ++ cw).map (altV c.K o.dst δ))
            | _ => none, fun δ k => ?_, fun δ δ' e => ?_⟩
          · simp only [getC_eq, setManyC_eq, nthC_eq, app_eq, altC_eq]
            unfold gateC
            split
            · rename_i b hb
              rw [hb]
              simp only
              split
              · obtain ⟨h1, h2⟩ := Classical.choose_spec (hn (getAll δ rd))
                rw [h1]
                cases hc : Classical.choose (hn (getAll δ rd)) with
                | none => rfl
                | some l =>
                  have hl := h2 l hc
                  simp only [Option.bind_some]
                  rw [fit_eq _ l 0 (by omega), List.drop_zero, fit_eq _ l 0 (by omega), List.drop_zero]
              · simp only [Option.bind_some]
                rw [fit_eq _ _ 0 (by simp), List.drop_zero]
            · rename_i l hb
              rw [hb]
              simp only [Option.bind_some]
              rw [fit_eq _ _ 0 (by simp), List.drop_zero]
            · rename_i hb hb'
              split
              · rename_i b hb2; exact absurd hb2 (hb b)
              · rename_i l hb2; exact absurd hb2 (hb' l)
              · rfl
          · simp only [getAll, List.cons.injEq, getAll_append] at e
            have e2 := List.append_inj e.2 (by rw [getAll_len, getAll_len])
            have e3 : ∀ s ∈ hw ++ cw, nth δ s = nth δ' s := getAll_at (by rw [getAll_append, getAll_append]; exact e2.2)
            have e4 : (hw ++ cw).map (altV c.K o.dst δ) = (hw ++ cw).map (altV c.K o.dst δ') := by
              refine List.map_congr_left fun s hs => ?_
              unfold altV
              rw [e3 s hs]
            simp only [e.1, e2.1, e4]

/-- A step of a region. -/
def NextV (c : Cx) (B : Nat) (X : Nat → Prop) (w0 : World) (F0 : Nat → Prop) (V : Nat → Value) (k : List D → Option Out) (r : Out) (a : Act) (w : World) : Prop :=
  Next c B X w0 F0 k r a w ∧ IoV c V a

theorem step_sound (hT : okT P c.T = true) (hS : ∀ f S, look c.S f = some S → Meets c.G P f S) {ops : Array Oper} {o : Oper} (hok : okOp c ops.toList o = true) {V : Nat → Value} (hI : Inv c B X w0 F0 F O a w δ) (hV : IoV c V a) {k : List D → Option Out} {r : Out}
    (hg : stepK c ops.toList o δ k = some r) (Q : Exit → Act → World → Prop) :
    if Region.wanted o (yielded ops a.tmps) then o.wp P a w (NextV c B X w0 F0 V k r) Q else NextV c B X w0 F0 V k r (a.put o.dst undef) w := by
  unfold okOp at hok
  simp only [Bool.and_eq_true] at hok
  obtain ⟨hdst, hgd⟩ := hok
  have hio : ∀ s, isIo (nthK c.K s) = true → o.dst ≠ some s := fun s hs e => by
    rw [e] at hdst
    simp only at hdst
    rw [hs] at hdst
    cases hdst
  have lift : ∀ (A : Ac), actOf c o = some A → goAc c A δ k = some r → o.wp P a w (NextV c B X w0 F0 V k r) Q := by
    intro A hA hgo
    have h := sound_all hT hS o A hA B X w0 F0 F O a w δ hI k r hgo Q
    unfold Oper.wp at h ⊢
    refine Oper.wp_mono (P := P) (o := o) (a := a) (w := w) (K := fun a' w' => Next c B X w0 F0 k r a' w' ∧ ∀ s, o.dst ≠ some s → av a' s = av a s) (fun a' w' hn => ⟨hn.1, fun s hs => (hn.2 s (hio s hs)).trans (hV s hs)⟩) ?_
    exact upon_dst h
  have skipV : IoV c V (a.put o.dst undef) := by
    intro s hs
    cases hd : o.dst with
    | none => exact hV s hs
    | some d => exact (av_put_ne (fun e => hio s hs (by rw [hd, e]))).trans (hV s hs)
  unfold stepK at hg
  cases hA : actOf c o with
  | none => rw [hA] at hg; cases hg
  | some A =>
    rw [hA] at hg
    simp only at hg
    cases hgu : o.guard with
    | none =>
      rw [hgu] at hg
      rw [if_pos (by simp [Region.wanted, hgu])]
      refine lift A hA ?_
      cases A with
      | one rd d h =>
        simp only [getC_eq] at hg
        obtain ⟨z, h1, h2⟩ := Option.bind_eq_some_iff.1 hg
        rw [setManyC_eq] at h2
        simp only [goAc, h1, Option.bind_some]
        exact h2
      | many rd hw cw fn =>
        simp only [getC_eq, setManyC_eq, app_eq] at hg
        exact hg
    | some jp =>
      obtain ⟨j, pol⟩ := jp
      rw [hgu] at hg
      rw [hgu, hA] at hgd
      simp only [Bool.and_eq_true] at hgd
      simp only at hg
      cases hgs : gslot ops.toList j with
      | none => rw [hgs] at hg; cases hg
      | some g =>
        rw [hgs] at hg hgd
        simp only at hgd
        obtain ⟨hkd, hck⟩ := hgd
        have hyield : ∀ b, nth δ g = .v (.bool b) → yielded ops a.tmps j = some b := by
          intro b hb
          obtain ⟨lv, hk⟩ : ∃ lv, nthK c.K g = .dat lv := by
            split at hkd
            · exact ⟨_, ‹_›⟩
            · cases hkd
          have hr := hI.dat hk
          rw [hb] at hr
          obtain ⟨hv, _⟩ := RepB_v hr
          have hlt : g < a.tmps.size := by
            rw [hI.la, ← hI.ld]
            exact nth_lt (by rw [hb]; simp)
          have hg1 : a.tmps[g]? = some (.bool b) := by
            rw [av, Array.getD_eq_getD_getElem?, Array.getElem?_eq_getElem hlt] at hv
            rw [Array.getElem?_eq_getElem hlt]
            simpa using hv
          unfold gslot at hgs
          rw [nthO_eq, Array.getElem?_toList] at hgs
          unfold yielded
          cases ho : ops[j]? with
          | none => rw [ho] at hgs; cases hgs
          | some oj =>
            rw [ho] at hgs
            simp only at hgs
            simp [hgs, hg1]
        have hyT : ∀ l, nth δ g = .tup l → yielded ops a.tmps j = none := by
          intro l hb
          obtain ⟨lv, hk⟩ : ∃ lv, nthK c.K g = .dat lv := by
            split at hkd
            · exact ⟨_, ‹_›⟩
            · cases hkd
          have hr := hI.dat hk
          rw [hb] at hr
          have hv : av a g = .tuple #[] := (hr.rep (by simp)).2
          unfold yielded
          rw [gslot, nthO_eq, Array.getElem?_toList] at hgs
          cases ho : ops[j]? with
          | none => simp
          | some oj =>
            rw [ho] at hgs
            simp only at hgs
            simp only [Option.bind_some, hgs]
            cases hx : a.tmps[g]? with
            | none => rfl
            | some x =>
              have : x = .tuple #[] := by
                rw [← hv, av, Array.getD_eq_getD_getElem?, hx]
                rfl
              subst this
              rfl
        cases A with
        | one rd d h =>
          simp only [nthC_eq, getC_eq] at hg
          obtain ⟨z, h1, h2⟩ := Option.bind_eq_some_iff.1 hg
          rw [setManyC_eq] at h2
          unfold gate at h1
          have skip : z = skipD (nthK c.K d) → NextV c B X w0 F0 V k r (a.put o.dst undef) w := by
            rintro rfl
            refine ⟨⟨F, O, _, ?_, h2⟩, skipV⟩
            simp only at hck
            split at hck
            · rename_i d' hd'
              rw [beq_iff] at hck
              subst hck
              rw [hd']
              refine hI.put ?_
              unfold skipD PutOk
              split
              · rename_i hkk
                refine .inr ?_
                rw [hkk]
                exact ⟨rfl, rfl⟩
              · exact .inl rfl
            · cases hck
          split at h1
          case h_3 => cases h1
          case h_2 =>
            rename_i l hb
            have hy := hyT l hb
            rw [if_neg (by simp [Region.wanted, hgu, hy])]
            exact skip (by cases h1; rfl)
          rename_i b hb
          have hy := hyield b hb
          split at h1
          · rename_i hbp
            rw [if_pos (by simp [Region.wanted, hgu, hy, hbp])]
            exact lift _ hA (by simp only [goAc, h1, Option.bind_some]; exact h2)
          · rename_i hbp
            rw [if_neg (by simp [Region.wanted, hgu, hy, hbp])]
            exact skip (by cases h1; rfl)
        | many rd hw cw fn =>
          simp only [nthC_eq, getC_eq, altC_eq, app_eq, setManyC_eq] at hg
          unfold gateC at hg
          have skip : k (setMany δ (hw ++ (cw ++ depsAll c.K hw)) (fit ((hw ++ cw).map (altV c.K o.dst δ)) 0 (hw ++ cw))) = some r → NextV c B X w0 F0 V k r (a.put o.dst undef) w := by
            intro hg
            rw [fit_eq _ _ 0 (by simp), List.drop_zero] at hg
            simp only [Bool.and_eq_true, List.all_eq_true] at hck
            refine ⟨⟨F, O, _, hI.pass_over hck.1 (fun d hd => ?_), hg⟩, skipV⟩
            have h3 := hck.2
            rw [hd] at h3
            simp only [memN_eq, decide_eq_true_eq] at h3
            exact h3
          split at hg
          case h_3 => cases hg
          case h_2 =>
            rename_i l hb
            have hy := hyT l hb
            rw [if_neg (by simp [Region.wanted, hgu, hy])]
            exact skip hg
          rename_i b hb
          have hy := hyield b hb
          obtain ⟨φ, hφ, hlen⟩ := actOf_nat hA (getAll δ rd)
          split at hg
          · rename_i hbp
            rw [if_pos (by simp [Region.wanted, hgu, hy, hbp])]
            refine lift _ hA ?_
            simp only [goAc]
            rw [hφ] at hg ⊢
            cases hp : φ with
            | none => rw [hp] at hg; cases hg
            | some l =>
              rw [hp] at hg
              have hl := hlen l hp
              simp only [Option.bind_some] at hg ⊢
              rw [fit_eq _ l 0 (by omega), List.drop_zero, fit_eq _ l 0 (by omega), List.drop_zero] at hg
              exact hg
          · rename_i hbp
            rw [if_neg (by simp [Region.wanted, hgu, hy, hbp])]
            exact skip hg

/-- A region in the order of its text. -/
theorem list_sound (hT : okT P c.T = true) (hS : ∀ f S, look c.S f = some S → Meets c.G P f S) {ops : Array Oper} {V : Nat → Value} {Q : Exit → Act → World → Prop} {k : List D → Option Out} {r : Out} (hQ : ∀ a w, NextV c B X w0 F0 V k r a w → Q .normal a w) :
    ∀ (l : List Oper), (∀ o ∈ l, okOp c ops.toList o = true) → ∀ (F : Nat → Prop) (O : Nat → Option (Nat × Nat)) (a : Act) (w : World) (δ : List D), Inv c B X w0 F0 F O a w δ → IoV c V a → runOps c ops.toList l δ k = some r → wpList P ops Q l a w
  | [], _, F, O, a, w, δ, hI, hV, hg => hQ a w ⟨⟨F, O, δ, hI, hg⟩, hV⟩
  | o :: l, hok, F, O, a, w, δ, hI, hV, hg => by
    simp only [runOps] at hg
    have h := step_sound hT hS (hok o (by simp)) hI hV hg Q
    have ih : ∀ a w, NextV c B X w0 F0 V (fun δ' => runOps c ops.toList l δ' k) r a w → wpList P ops Q l a w := by
      rintro a w ⟨⟨F', O', δ', hI', hk'⟩, hV'⟩
      exact list_sound hT hS hQ l (fun o' ho' => hok o' (by simp [ho'])) F' O' a w δ' hI' hV' hk'
    unfold wpList
    split
    · rename_i hw
      rw [if_pos hw] at h
      exact .inl (Oper.wp_mono ih h)
    · rename_i hw
      rw [if_neg hw] at h
      exact ih _ _ h

end
end Go.V
