/-
  Parts of owned slices, parts of tuples: they keep the invariant.
-/
import Derived.Test.YtlphibidnkjpdaaDoorRows
import Derived.Test.YtlphibidnkjpdaaDoorTie
import Derived.Test.YtlphibidnkjpdaaDoorCards
import Derived.Test.YtlphibidnkjpdaaDoorM2
namespace Go.V
open Go.RowKit

section
variable {P : Program} {c : Cx} {B : Nat} {X : Nat → Prop} {w0 : World} {F0 F : Nat → Prop} {O : Nat → Option (Nat × Nat)} {a : Act} {w : World} {δ : List D}

theorem OwnV_cut {G own : Nat → Prop} {z : Nat} {l : List D} {y : Value} (h : OwnV w G own z (.arr z l) y) :
    ∃ A cc, y = .slice A l.length cc ∧ l.length ≤ cc ∧ ∀ p q, p ≤ q → q ≤ l.length → OwnV w G own z (.arr z ((l.take q).drop p)) (sliced A p q cc z) := by
  obtain ⟨l', e, h2, h3⟩ := h
  cases e
  rcases h3 with ⟨rfl, rfl⟩ | ⟨g, o, cc, us, cs, et, rfl, a2, a3, a4, a5, a6, a7⟩
  · refine ⟨none, 0, rfl, Nat.le_refl _, fun p q hp hq => ?_⟩
    simp only [List.length_nil, Nat.le_zero] at hq
    subst hq
    simp only [Nat.le_zero] at hp
    subst hp
    exact ⟨[], by simp, by simp, .inl ⟨by simp [sliced], rfl⟩⟩
  · refine ⟨_, cc, rfl, a2, fun p q hp hq => ?_⟩
    have hul := RepL_length l us a5 h2
    have hlen : ((l.take q).drop p).length = q - p := by rw [List.length_drop, List.length_take]; omega
    have hcz : p * z + (cc - p) * z = cc * z := by rw [← Nat.add_mul]; congr 1; omega
    obtain ⟨t1, _⟩ := RepL_take l us a5 h2 q
    obtain ⟨_, t2⟩ := RepL_take (l.take q) (us.take (q * z)) t1 (fun d hd => h2 d (List.mem_of_mem_take hd)) p
    refine ⟨_, rfl, fun d hd => h2 d (List.mem_of_mem_take (List.mem_of_mem_drop hd)), .inr ?_⟩
    by_cases hc : cc = p
    · refine ⟨g, o, cc - p, _, cs, et, by simp only [sliced, hc, if_true, hlen], by rw [hlen]; omega, a3, by omega, t2, fun j u hj => ?_, a7⟩
      exfalso
      have h1 := (List.getElem?_eq_some_iff.1 hj).1
      have hqp : q = p := by omega
      subst hqp
      simp only [List.length_drop, List.length_take] at h1
      omega
    · refine ⟨g, o + p * z, cc - p, _, cs, et, by simp only [sliced, hc, if_false, hlen, Option.map_some, Addr.add_lit], by rw [hlen]; omega, a3, by omega, t2, fun j u hj => ?_, a7⟩
      rw [List.getElem?_drop] at hj
      rw [Nat.add_assoc]
      refine a6 _ u ?_
      have h1 := (List.getElem?_eq_some_iff.1 hj).1
      rw [List.length_take] at h1
      rw [List.getElem?_take_of_lt (by omega)] at hj
      exact hj

theorem sound_slice_own (hT : okT P c.T = true) {o : Oper} {t q : Nat} {lo hi : Option Operand} (ho : o.op = .slice t (.tmp q) lo hi none) {i : TI} (hi' : look c.T t = some i) (hsl : i.str = false → isSl i = true)
    {A : Ac} (hA : slOwn c o.dst i (.tmp q) lo hi = some A) (hI : Inv c B X w0 F0 F O a w δ) {k : List D → Option Out} {r : Out} (hg : goAc c A δ k = some r) (Q : Exit → Act → World → Prop) : o.wp P a w (Next c B X w0 F0 k r) Q := by
  have hti := tok hT hi'
  unfold slOwn at hA
  split at hA
  case h_2 => cases hA
  rename_i d rd lv ra hd hs
  split at hA
  case h_2 => cases hA
  rename_i hgv hnew hstr hst
  have hlo : RepB w (FB F B (lvOf c.K (loOf lo))) (opD δ (loOf lo)) (a.eval (loOf lo)) := hI.opd (ble_iff.1 hstr)
  have hloV := LoV_of hlo
  obtain ⟨hu, _, hez, _, y, hy, hz, _⟩ := isSl_ok hti (hsl hst)
  have he : P.elem t = i.elem := by simp [Program.elem, hu]
  have own : ∀ (dx : D) (l : List D) (z' : Nat), dx = .arr z' l → z' = i.ez → ((some ra = none ∧ (rd = [] → (Operand.tmp q) = .const (.slice none 0 0) ∧ dx = .arr 0 [])) ∨ ∃ r z io, some ra = some r ∧ rd ≠ [] ∧ dx = nth δ r ∧ a.eval (.tmp q) = av a r ∧ nthK c.K r = .own z lv io) →
      OwnV w (FB F B lv) (fun g => O g = some (ra, 0) ∧ B ≤ g) i.ez (.arr i.ez l) (a.eval (.tmp q)) := by
    intro dx l z' hdx hzz hq
    subst hzz
    rcases hq with ⟨h, _⟩ | ⟨r', zz, io, h, _, hda, hav, hkr⟩
    · cases h
    cases h
    obtain ⟨z'', lv', hkr'⟩ := mayGive_some hgv
    rw [hkr] at hkr'
    simp only [Kd.own.injEq] at hkr'
    obtain ⟨rfl, rfl, rfl⟩ := hkr'
    have hb : nth δ ra ≠ .bad := by rw [← hda, hdx]; simp
    have hown := hI.own hkr hb
    rw [← hda, hdx] at hown
    rw [hav]
    have hzz : i.ez = zz := by
      obtain ⟨l', e, _⟩ := hown
      simp only [D.arr.injEq] at e
      exact e.1
    rw [← hzz] at hown
    exact hown.own fun _ _ h => ⟨h.1, h.2 rfl⟩
  split at hA
  · rename_i h
    split at hA
    case h_2 => cases hA
    rename_i hh
    cases hA
    simp only [goAc] at hg
    obtain ⟨dx, hg, hdr, hsrcR, hq⟩ := src_ok hI hs hg
    clear hsrcR
    rw [hdr] at hg
    obtain ⟨yy, hyy, hk'⟩ := Option.bind_eq_some_iff.1 hg
    rw [valsOf_eq (δ := δ) [loOf lo, h]] at hyy
    simp only [List.map_cons, List.map_nil, arg2] at hyy
    have hhb := hI.opd (ble_iff.1 hh)
    unfold sliceD at hyy
    split at hyy
    · rename_i z' l k1 p k2 q' _ e1 e2
      split at hyy
      case isFalse => cases hyy
      rename_i hc
      obtain ⟨rfl, c1, c2, c3⟩ := hc
      cases hyy
      rw [e1] at hloV
      rw [e2] at hhb
      obtain ⟨hhv, _⟩ := RepB_v hhb
      have hown := own _ l _ rfl rfl hq
      obtain ⟨A, cc, hyv, hlc, hcut⟩ := OwnV_cut hown
      obtain ⟨F', O', hI'⟩ := hI.pass (d := d) hnew (hcut p.toNat q'.toNat (by omega) (by omega))
      refine many_skip hd (run_v (s := Instr.sliceAt t (av a q) (lo.map a.eval) (some (a.eval h)) none) (by simp only [execOp, ho, eval_tmp, Option.map_some, Option.map_none]) ?_) hI' hk' Q
      rw [eval_tmp] at hyv
      rw [hyv, hhv]
      rcases LoV_int hloV with e | ⟨e, rfl⟩
      · rw [e, run_sliceAt_slice w t _ _ _ _ (by rw [he]; exact hu), run_slice_lh w t A _ cc (by rw [he]; exact hu) k1 k2 p q' c1 c2 (by omega), he, run_sizeOf hy, hz]
        rfl
      · rw [e, run_sliceAt_slice w t _ _ _ _ (by rw [he]; exact hu), run_slice_h w t A _ cc (by rw [he]; exact hu) k2 q' (by omega) (by omega), he, run_sizeOf hy, hz]
        rfl
    · rename_i h _ _; cases h
    · cases hyy
  · cases hA
    simp only [goAc] at hg
    obtain ⟨dx, hg, hdr, hsrcR, hq⟩ := src_ok hI hs hg
    clear hsrcR
    rw [hdr] at hg
    obtain ⟨yy, hyy, hk'⟩ := Option.bind_eq_some_iff.1 hg
    rw [valsOf_eq (δ := δ) [loOf lo]] at hyy
    simp only [List.map_cons, List.map_nil, arg1] at hyy
    unfold sliceHi at hyy
    split at hyy
    · rename_i z' l k1 p _ e1
      split at hyy
      case isFalse => cases hyy
      rename_i hc
      obtain ⟨rfl, c1, c2⟩ := hc
      cases hyy
      rw [e1] at hloV
      have hown := own _ l _ rfl rfl hq
      obtain ⟨A, cc, hyv, hlc, hcut⟩ := OwnV_cut hown
      have hcc := hcut p.toNat l.length (by omega) (Nat.le_refl _)
      rw [List.take_length] at hcc
      obtain ⟨F', O', hI'⟩ := hI.pass (d := d) hnew hcc
      refine many_skip hd (run_v (s := Instr.sliceAt t (av a q) (lo.map a.eval) none none) (by simp only [execOp, ho, eval_tmp, Option.map_none]) ?_) hI' hk' Q
      rw [eval_tmp] at hyv
      rw [hyv]
      rcases LoV_int hloV with e | ⟨e, rfl⟩
      · rw [e, run_sliceAt_slice w t _ _ _ _ (by rw [he]; exact hu), run_slice_l w t A _ cc (by rw [he]; exact hu) k1 p c1 c2, he, run_sizeOf hy, hz]
        rfl
      · rw [e, run_sliceAt_slice w t _ _ _ _ (by rw [he]; exact hu), run_slice_all w t A _ cc (by rw [he]; exact hu), he, run_sizeOf hy, hz]
        rfl
    · rename_i h _; cases h
    · cases hyy

/-! ### parts of tuples -/
theorem Inv.tup (h : Inv c B X w0 F0 F O a w δ) {s : Nat} {ms : List Kd} (hk : nthK c.K s = .tup ms) (hb : nth δ s ≠ .bad) : ∃ l vs, nth δ s = .tup l ∧ av a s = .tuple vs ∧ ∀ i, Lone B F O w (s, i + 1) (nthK ms i) (nth l i) (vs.getD i undef) := by
  have h0 := (h.slot s).resolve_left hb
  rw [hk] at h0
  exact h0

theorem undef_no {G : Nat → Prop} {d : D} (hd : ∀ l, d ≠ .tup l) : ¬ RepV w G d undef := by
  intro h
  cases d
  case tup l => exact hd l rfl
  all_goals simp [RepV, RepC, undef] at h
  · obtain ⟨rfl, h⟩ := h
    simp [flat] at h

theorem nth_set_ne {l : List D} {i j : Nat} {x : D} (h : j ≠ i) : nth (l.set i x) j = nth l j := by
  rw [nth_eq, nth_eq, List.getD_eq_getElem?_getD, List.getD_eq_getElem?_getD, List.getElem?_set_ne (Ne.symm h)]
theorem nth_set_bad {l : List D} {i : Nat} : nth (l.set i .bad) i = .bad := by
  rw [nth_eq, List.getD_eq_getElem?_getD, List.getElem?_set_self']
  cases l[i]? <;> rfl

/-- A slice is taken out of a tuple. -/
theorem Inv.take (h : Inv c B X w0 F0 F O a w δ) {d t i z lv : Nat} {ms : List Kd} {m : List D} {vs : Array Value} {y : Value} (hkt : nthK c.K t = .tup ms) (ht : nth δ t = .tup m) (htv : av a t = .tuple vs) (hl : ∀ j, Lone B F O w (t, j + 1) (nthK ms j) (nth m j) (vs.getD j undef))
    (hk : newIn c.K d z lv = true) (hv : OwnV w (FB F B lv) (fun g => B ≤ g ∧ O g = some (t, i + 1)) z (nth m i) y) :
    ∃ F' O', Inv c B X w0 F0 F' O' (a.put (some d) y) w (setMany δ ([d, t] ++ ([] ++ depsAll c.K [d, t])) [nth m i, .tup (m.set i .bad)]) := by
  have hdt : d ≠ t := by
    intro e
    subst e
    rcases newIn_some hk with ⟨l, hk, _⟩ | ⟨l, hk, _⟩ <;> rw [hk] at hkt <;> cases hkt
  have hblk : ∀ b, V.blk y = some b → (B ≤ b ∧ O b = some (t, i + 1)) ∧ b < w.heap.size := hv.blk
  have hFb : ∀ b, F b → V.blk y ≠ some b := fun b hb e => by
    obtain ⟨⟨_, h1⟩, _⟩ := hblk b e
    rw [(h.fl b hb).2] at h1; cases h1
  have hoS : ∀ (x' : Option (Nat × Nat)) b p, O b = some p → p ≠ (t, i + 1) → giveO O y x' b = some p := fun x' b p hp hm => by
    rw [giveO_ne]
    · exact hp
    · intro e
      rw [(hblk b e).1.2] at hp
      exact hm (by cases hp; rfl)
  have hoO : ∀ (x' : Option (Nat × Nat)) b p, O b = some p → p.1 ∉ [d, t] ++ [] → giveO O y x' b = some p ∧ w.heap[b]? = w.heap[b]? := fun x' b p hp hm => ⟨hoS x' b p hp fun e => hm (by simp [e]), rfl⟩
  have hol : ∀ (x' : Option (Nat × Nat)) b p, giveO O y x' b = some p → b < w.heap.size ∧ (B ≤ b ∨ X b) := fun x' b p hp => by
    by_cases e : V.blk y = some b
    · exact ⟨(hblk b e).2, .inl (hblk b e).1.1⟩
    · rw [giveO_ne e] at hp
      exact h.ol b p hp
  have hav : ∀ s, s ∉ [d, t] → av (a.put (some d) y) s = av a s := fun s hs => av_put_ne fun e => hs (by simp [e])
  have hnd : nth (setMany δ [d, t] [nth m i, .tup (m.set i .bad)]) d = if d < δ.length then nth m i else .bad := by
    simp only [setMany]
    rw [nth_setAt_ne _ _ _ _ hdt, nth_setAt_eq]
  have hnt : nth (setMany δ [d, t] [nth m i, .tup (m.set i .bad)]) t = if t < δ.length then .tup (m.set i .bad) else .bad := by
    simp only [setMany]
    rw [nth_setAt_eq, len_setAt]
  have hslot : ∀ (F' : Nat → Prop) (x' : Option (Nat × Nat)), (∀ b, F b → F' b) → SlotU c.K B F' (giveO O y x') (a.put (some d) y) w t (nth (setMany δ [d, t] [nth m i, .tup (m.set i .bad)]) t) := by
    intro F' x' hF
    rw [hnt]
    split
    case isFalse => exact .inl rfl
    refine .inr ?_
    rw [hkt, av_put_ne hdt.symm]
    refine ⟨_, vs, rfl, htv, fun j => ?_⟩
    by_cases hj : j = i
    · subst hj
      rw [nth_set_bad]
      exact .inl rfl
    · rw [nth_set_ne hj]
      exact Lone_mono hF (fun _ _ => rfl) (fun g hg => ⟨hoS x' g _ hg (by simpa using hj), rfl⟩) (hl j)
  rcases newIn_some hk with ⟨l, hk, hle⟩ | ⟨l, hk, h1l, hle⟩
  · refine ⟨F, giveO O y (some (d, 0)), h.many rfl size_put rfl hav (by simp) (fun s hs => ?_) (fun _ hb => hb) (fun _ _ => rfl) (hoO _) (fun b hb => ⟨(h.fl b hb).1, (giveO_ne (hFb b hb)).trans (h.fl b hb).2⟩) (hol _) (fun _ hb => .inl hb) (Nat.le_refl _) rfl rfl rfl (fun _ _ _ => rfl)⟩
    rw [List.append_nil] at hs ⊢
    have hs' : s = d ∨ s = t := by simpa using hs
    rcases hs' with rfl | rfl
    · rw [hnd]
      split
      case isFalse => exact .inl rfl
      rename_i hd
      refine .inr ?_
      rw [hk, av_put_eq (by rw [h.la, ← h.ld]; exact hd)]
      exact .inr (OwnV_mono' (FB_le hle) (fun _ _ => rfl) (fun g hg ho => ⟨⟨giveO_eq hg, fun _ => ho.1⟩, rfl⟩) hv)
    · exact hslot F _ fun _ h => h
  · refine ⟨addF F y, giveO O y none, h.many rfl size_put rfl hav (by simp) (fun s hs => ?_) (fun _ hb => .inl hb) (fun _ _ => rfl) (hoO _) (fun b hb => ?_) (hol _) (fun b hb => ?_) (Nat.le_refl _) rfl rfl rfl (fun _ _ _ => rfl)⟩
    · rw [List.append_nil] at hs ⊢
      have hs' : s = d ∨ s = t := by simpa using hs
      rcases hs' with rfl | rfl
      · rw [hnd]
        split
        case isFalse => exact .inl rfl
        rename_i hd
        refine .inr ?_
        rw [hk, av_put_eq (by rw [h.la, ← h.ld]; exact hd)]
        refine .inr ?_
        refine RepV_mono (fun b hb => ?_) (fun _ _ => rfl) (OwnV_rep (hv.own (own' := fun g => B ≤ g ∧ V.blk y = some g) fun b hb ho => ⟨ho.1, hb⟩))
        rcases hb with hb | ⟨hb1, hb2⟩
        · exact FB_le hle _ (FB_mono (fun _ h => .inl h) _ hb)
        · have hx : addF F y b := .inr hb2
          match l, h1l with
          | 1, _ => exact ⟨hx, hb1⟩
          | _ + 2, _ => exact hx
      · exact hslot _ _ fun _ h => .inl h
    · rcases hb with hb | hb
      · exact ⟨(h.fl b hb).1, (giveO_ne (hFb b hb)).trans (h.fl b hb).2⟩
      · exact ⟨(hblk b hb).2, giveO_eq hb⟩
    · rcases hb with hb | hb
      · exact .inl hb
      · exact .inr (hblk b hb).1.1

theorem sound_extract {o : Oper} {x : Operand} {i : Nat} (ho : o.op = .extract x i) : Sound P c o := by
  intro A hA B X w0 F0 F O a w δ hI k r hg Q
  simp only [actOf, ho] at hA
  unfold exOf at hA
  split at hA
  case h_2 => cases hA
  rename_i d t hd
  split at hA
  case h_2 => cases hA
  rename_i ms hk
  have getI : ∀ {y : D}, tupAt (nth δ t) i = some y → ∃ l vs, nth δ t = .tup l ∧ av a t = .tuple vs ∧ nth l i = y ∧ (y ≠ .bad ∧ ∀ m, y ≠ .tup m) ∧ (∀ j, Lone B F O w (t, j + 1) (nthK ms j) (nth l j) (vs.getD j undef)) := by
    intro y hy
    have hb : nth δ t ≠ .bad := by
      intro e
      rw [e] at hy
      simp [tupAt] at hy
    obtain ⟨l, vs, h1, h2, h3⟩ := hI.tup hk hb
    rw [h1] at hy
    simp only [tupAt] at hy
    split at hy
    · cases hy
    · cases hy
    · rename_i hne hne2
      refine ⟨l, vs, h1, h2, ?_, ⟨fun e => ?_, fun m e => ?_⟩, h3⟩
      · rw [nth_eq, List.getD_eq_getElem?_getD, hy]; rfl
      · subst e
        exact hne hy
      · subst e
        exact hne2 m hy
  have run : ∀ {vs : Array Value}, av a t = .tuple vs → vs.getD i undef ≠ undef → (execOp a.eval o).run P w = .ok (.value (vs.getD i undef)) w := by
    intro vs hv hne
    refine run_v (s := Instr.extract (av a t) i) (by simp only [execOp, ho, eval_tmp]) ?_
    rw [hv]
    rw [Array.getD_eq_getD_getElem?] at hne ⊢
    cases h : vs[i]? with
    | none => rw [h] at hne; simp at hne
    | some v => simp [Instr.extract, h]
  split at hA
  · rename_i lv hm
    split at hA
    case h_2 => cases hA
    rename_i l hkd
    split at hA
    case h_2 => cases hA
    rename_i hle
    rw [ble_iff] at hle
    cases hA
    refine one_sound hI hd hg (fun z hz => ?_) Q
    simp only [getAll, nth] at hz
    obtain ⟨m, vs, h1, h2, h3, h4, h5⟩ := getI hz
    have h6 := (h5 i).resolve_left (by rw [h3]; exact h4.1)
    rw [hm, h3] at h6
    refine ⟨_, run h2 (fun e => ?_), .inr ?_⟩
    · rw [e] at h6
      exact undef_no h4.2 h6
    · rw [hkd]
      exact RepV_mono (FB_le hle) (fun _ _ => rfl) h6
  · rename_i z lv hm
    split at hA
    case h_2 => cases hA
    rename_i hnew
    cases hA
    simp only [goAc, getAll, nthC] at hg
    obtain ⟨y, hy, hk'⟩ := Option.bind_eq_some_iff.1 hg
    obtain ⟨m, vs, h1, h2, h3, h4, h5⟩ := getI hy
    have h6 := (h5 i).resolve_left (by rw [h3]; exact h4.1)
    rw [hm, h3] at h6
    have hne : vs.getD i undef ≠ undef := by
      intro e
      rw [e] at h6
      obtain ⟨l', e1, _, h7⟩ := h6
      rcases h7 with ⟨h7, _⟩ | ⟨_, _, _, _, _, _, h7, _⟩ <;> simp [undef] at h7
    have hrun := run h2 hne
    rw [← h3] at h6 hk'
    obtain ⟨F', O', hI'⟩ := hI.take (i := i) hk h1 h2 h5 hnew (h6.own fun _ _ ho => ⟨ho.2 rfl, ho.1⟩)
    refine many_skip hd hrun hI' ?_ Q
    rw [h1] at hk'
    exact hk'
  · cases hA

end
end Go.V
/-
  Contracts of functions, and a call.
-/
namespace Go.V
open Go.RowKit

def ArgOk (w : World) (F own : Nat → Prop) (k : Kd) (d : D) (y : Value) : Prop :=
  d = .bad ∨ match k with
    | .dat lv => RepV w (FB F 0 lv) d y
    | .own z lv true => OwnV w (FB F 0 lv) own z d y
    | .box n lv true => BoxV w (FB F 0 lv) own n d y
    | _ => False
def ArgsOk (w : World) (F : Nat → Prop) (ow : Nat → Option Nat) : Nat → List Kd → List D → List Value → Prop
  | _, [], [], [] => True
  | i, k :: ks, d :: ds, y :: ys => ArgOk w F (fun g => ow g = some i) k d y ∧ ArgsOk w F ow (i + 1) ks ds ys
  | _, _, _, _ => False
def isIo : Kd → Bool
  | .own _ _ true => true
  | .box _ _ true => true
  | _ => false
/-- What the parameters that are written hold at the end. -/
def UsOk (w : World) (F : Nat → Prop) : List Kd → List D → List Value → Prop
  | [], [], _ => True
  | k :: ks, us, y :: ys => if isIo k then (match us with
      | u :: us => u ≠ .bad ∧ ArgOk w F (fun _ => True) k u y ∧ UsOk w F ks us ys
      | [] => False) else UsOk w F ks us ys
  | _, _, _ => False
def ResOk (w : World) (F : Nat → Prop) (B : Nat) (own : Nat → Prop) (k : Kd) (d : D) (y : Value) : Prop :=
  d = .bad ∨ match k with
    | .dat lv => RepV w (FB F B lv) d y
    | .own z lv false => OwnV w (FB F B lv) (fun g => own g ∧ B ≤ g) z d y
    | _ => False
def resV : List Value → Value
  | [y] => y
  | ys => .tuple ys.toArray

structure CallPost (S : FS) (args : Array Value) (rs us : List D) (w : World) (F : Nat → Prop) (ow : Nat → Option Nat) (F' : Nat → Prop) (R : Nat → Option Nat) (vs : List Value) (w' : World) : Prop where
  os : w'.os = w.os
  tape : w'.tape = w.tape
  output : w'.output = w.output
  size : w.heap.size ≤ w'.heap.size
  keep : ∀ b, b < w.heap.size → ow b = none → w'.heap[b]? = w.heap[b]?
  f0 : ∀ b, F b → F' b
  fn : ∀ b, F' b → (F b ∨ w.heap.size ≤ b) ∧ b < w'.heap.size ∧ R b = none
  rn : ∀ b j, R b = some j → w.heap.size ≤ b ∧ b < w'.heap.size
  len : vs.length = S.rm.length
  lenD : rs.length = S.rm.length
  res : ∀ j, ResOk w' F' w.heap.size (fun g => R g = some j) (nthK S.rm j) (nth rs j) (vs.getD j undef)
  us : UsOk w' F' S.pm us args.toList

/-- A call, however it is carried out. -/
def Enters (P : Program) (f : FuncId) (args : Array Value) (w : World) (R : Value → World → Prop) : Prop :=
  ∀ (o : Oper) (a : Act) (next : Act → World → Prop) (Q : Exit → Act → World → Prop), (∀ v w', R v w' → next (a.put o.dst v) w') → o.upon P a next Q ((callFunc f args).run P w)

def Meets (G : List (Nat × (Obj → Prop))) (P : Program) (f : FuncId) (S : FS) : Prop :=
  ∀ (ds rs us : List D), S.f ds = some (.ret rs us) → ∀ (args : Array Value) (w : World) (F : Nat → Prop) (ow : Nat → Option Nat), gOk G w F → ArgsOk w F ow 0 S.pm ds args.toList →
    (∀ b, F b → b < w.heap.size ∧ ow b = none) → (∀ b i, ow b = some i → b < w.heap.size) → Enters P f args w fun v w' => ∃ F' R vs, v = resV vs ∧ CallPost S args rs us w F ow F' R vs w'

section
variable {P : Program} {c : Cx} {B : Nat} {X : Nat → Prop} {w0 : World} {F0 F : Nat → Prop} {O : Nat → Option (Nat × Nat)} {a : Act} {w : World} {δ : List D}

/-! ### the arguments -/
def asmV : List Ag → List D → Option (List D)
  | [], _ => some []
  | .d x chk :: l, is => match x with
    | .tmp _ => match is with
      | i :: is => match chk with
        | false => (asmV l is).map (i :: ·)
        | true => (chkV i).bind fun i => (asmV l is).map (i :: ·)
      | [] => none
    | .const v => (asmV l is).map (constD v :: ·)
    | .func f => (asmV l is).map (.clo f [] :: ·)
    | .global _ => none
  | .bor t r :: l, is => match Nat.beq t r with
    | true => match is with
      | i :: is => (asmV l is).map (i :: ·)
      | _ => none
    | false => match is with
      | p :: i :: is => (liveD p i).bind fun i => (asmV l is).map (i :: ·)
      | _ => none
  | .io t r :: l, is => match Nat.beq t r with
    | true => match is with
      | i :: is => (liveD i i).bind fun i => (asmV l is).map (i :: ·)
      | _ => none
    | false => match is with
      | p :: i :: is => (ref0 p i).bind fun i => (liveD i i).bind fun i => (asmV l is).map (i :: ·)
      | _ => none

theorem asm_app (o : Option (List D)) (i : D) (acc : List D) (k : List D → Option Out) : ((o.map (i :: ·)).bind fun ds => k (acc ++ ds)) = o.bind fun ds => k (app acc [i] ++ ds) := by
  cases o <;> simp [app_eq]

theorem asmK_eq : ∀ (l : List Ag) (acc is : List D) (k : List D → Option Out), asmK acc l is k = (asmV l is).bind fun ds => k (acc ++ ds)
  | [], acc, is, k => by simp [asmK, asmV]
  | .d x chk :: l, acc, is, k => by
    cases x with
    | tmp t =>
      cases is with
      | nil => simp [asmK, asmV]
      | cons i is =>
        cases chk
        · simp only [asmK, asmV]
          rw [asm_app, asmK_eq l]
        · simp only [asmK, asmV, Option.bind_assoc]
          congr 1
          funext i
          rw [asm_app, asmK_eq l]
    | const v => simp only [asmK, asmV]; rw [asm_app, asmK_eq l]
    | func f => simp only [asmK, asmV]; rw [asm_app, asmK_eq l]
    | global g => simp [asmK, asmV]
  | .bor t r :: l, acc, is, k => by
    cases hb : Nat.beq t r
    · rcases is with _ | ⟨p, _ | ⟨i, is⟩⟩
      · simp [asmK, asmV, hb]
      · simp [asmK, asmV, hb]
      · simp only [asmK, asmV, hb, Option.bind_assoc]
        refine congrArg _ (funext fun i => ?_)
        rw [asm_app, asmK_eq l]
    · cases is with
      | nil => simp [asmK, asmV, hb]
      | cons i is => simp only [asmK, asmV, hb]; rw [asm_app, asmK_eq l]
  | .io t r :: l, acc, is, k => by
    cases hb : Nat.beq t r
    · rcases is with _ | ⟨p, _ | ⟨i, is⟩⟩
      · simp [asmK, asmV, hb]
      · simp [asmK, asmV, hb]
      · simp only [asmK, asmV, hb, Option.bind_assoc]
        refine congrArg _ (funext fun i => ?_)
        refine congrArg _ (funext fun i => ?_)
        rw [asm_app, asmK_eq l]
    · cases is with
      | nil => simp [asmK, asmV, hb]
      | cons i is =>
        simp only [asmK, asmV, hb, Option.bind_assoc]
        refine congrArg _ (funext fun i => ?_)
        rw [asm_app, asmK_eq l]

theorem ArgOk_dat {F' own : Nat → Prop} {lv l : Nat} {d : D} {y : Value} (hF : ∀ b, F b → F' b) (h : RepB w (FB F B lv) d y) (hl : lv ≤ l) (h1 : l ≠ 1) : ArgOk w F' own (.dat l) d y := by
  rcases h with h | h
  · exact .inl h
  · refine .inr (RepV_mono (fun b hb => ?_) (fun _ _ => rfl) h)
    match l, h1, hl with
    | 0, _, hl =>
      have : lv = 0 := by omega
      subst this
      exact hb
    | l + 2, _, _ => exact hF b (FB_sub b hb)

def ioAt : List Ag → Nat → Option Nat
  | [], _ => none
  | .io _ r :: _, 0 => some r
  | _ :: _, 0 => none
  | _ :: l, n + 1 => ioAt l n

theorem args_ok (hI : Inv c B X w0 F0 F O a w δ) {F' : Nat → Prop} {ow : Nat → Option Nat} (hF : ∀ b, F b → F' b) : ∀ (xs : List Operand) (pm : List Kd) (ags : List Ag) (i0 : Nat) (ds : List D), agsOf c.K xs pm = some ags → okPm pm = true →
    asmV ags (getAll δ (agRd ags)) = some ds → (∀ r ∈ agBor ags, ∀ b, O b = some (r, 0) → F' b) → (∀ j r, ioAt ags j = some r → ∀ b, O b = some (r, 0) → ow b = some (i0 + j)) → ArgsOk w F' ow i0 pm ds (xs.map a.eval)
  | [], [], ags, i0, ds, h, _, hd, _, _ => by
    simp only [agsOf, Option.some.injEq] at h
    subst h
    simp [asmV] at hd
    subst hd
    trivial
  | [], _ :: _, _, _, _, h, _, _, _, _ => by simp [agsOf] at h
  | _ :: _, [], _, _, _, h, _, _, _, _ => by simp [agsOf] at h
  | x :: xs, m :: pm, ags, i0, ds, h, hpm, hd, hbor, hio => by
    simp only [agsOf] at h
    split at h
    case h_2 => cases h
    rename_i g l hg hl
    cases h
    have hpm' : okPm pm = true ∧ (∀ lv, m = .dat lv → lv ≠ 1) ∧ (∀ z lv io, m = .own z lv io → io = true ∧ lv ≠ 1) ∧ (∀ z lv io, m = .box z lv io → io = true ∧ lv ≠ 1) := by
      cases m with
      | dat lv =>
        simp only [okPm] at hpm
        split at hpm
        case h_2 => cases hpm
        rename_i h1 h2
        exact ⟨hpm, fun l e => by cases e; intro e; subst e; simp at h1, fun _ _ _ e => (by cases e), fun _ _ _ e => (by cases e)⟩
      | own z lv io =>
        cases io
        · simp [okPm] at hpm
        simp only [okPm] at hpm
        split at hpm
        case h_2 => cases hpm
        rename_i h1 h2
        exact ⟨hpm, fun _ e => (by cases e), fun _ l _ e => by cases e; exact ⟨rfl, fun e => by subst e; simp at h1⟩, fun _ _ _ e => (by cases e)⟩
      | box z lv io =>
        cases io
        · simp [okPm] at hpm
        simp only [okPm] at hpm
        split at hpm
        case h_2 => cases hpm
        rename_i h1 h2
        exact ⟨hpm, fun _ e => (by cases e), fun _ _ _ e => (by cases e), fun _ l _ e => by cases e; exact ⟨rfl, fun e => by subst e; simp at h1⟩⟩
      | _ => simp [okPm] at hpm
    obtain ⟨hp1, hp2, hp3, hp4⟩ := hpm'
    have rest : ∀ d' ds', ds = d' :: ds' → asmV l (getAll δ (agRd l)) = some ds' → (∀ r ∈ agBor l, ∀ b, O b = some (r, 0) → F' b) → (∀ j r, ioAt l j = some r → ∀ b, O b = some (r, 0) → ow b = some (i0 + 1 + j)) →
        ArgOk w F' (fun g => ow g = some i0) m d' (a.eval x) → ArgsOk w F' ow i0 (m :: pm) ds ((x :: xs).map a.eval) := by
      intro d' ds' e h1 h2 h3 h4
      subst e
      exact ⟨h4, args_ok hI hF xs pm l (i0 + 1) ds' hl hp1 h1 h2 h3⟩
    have hio' : ∀ j r, ioAt l j = some r → ∀ b, O b = some (r, 0) → ow b = some (i0 + 1 + j) := fun j r hj b hb => by
      have := hio (j + 1) r (by cases g <;> exact hj) b hb
      rw [this]
      congr 1
      omega
    have hbor' : ∀ r ∈ agBor l, ∀ b, O b = some (r, 0) → F' b := fun r hr => hbor r (by cases g <;> simp [agBor, hr])
    -- the argument itself
    unfold agOf at hg
    split at hg
    · rename_i lm
      have hl1 := hp2 lm rfl
      split at hg
      · rename_i t
        split at hg
        · rename_i lv hk
          have hrep := hI.dat hk
          split at hg
          · rename_i hle
            cases hg
            simp only [app, getAll, asmV] at hd
            obtain ⟨ds', h1, rfl⟩ := Option.map_eq_some_iff.1 hd
            exact rest _ _ rfl h1 hbor' hio' (ArgOk_dat hF hrep (ble_iff.1 hle) hl1)
          · split at hg
            case h_2 => cases hg
            rename_i hle h0
            cases hg
            simp only [app, getAll, asmV] at hd
            obtain ⟨i, hc, hd⟩ := Option.bind_eq_some_iff.1 hd
            obtain ⟨ds', h1, rfl⟩ := Option.map_eq_some_iff.1 hd
            refine rest _ _ rfl h1 hbor' hio' ?_
            unfold chkV at hc
            split at hc
            case isFalse => cases hc
            rename_i hv
            cases hc
            refine .inr (RepV_isV hv (hrep.rep ?_))
            intro e
            rw [e] at hv
            simp [D.isV] at hv
        · rename_i z lv io hk
          split at hg
          case h_2 => cases hg
          rename_i hl2
          cases hg
          simp only [agRd, Nat.beq_refl, getAll, asmV] at hd
          obtain ⟨ds', h1, rfl⟩ := Option.map_eq_some_iff.1 hd
          refine rest _ _ rfl h1 hbor' hio' ?_
          by_cases hb : nth δ t = .bad
          · exact .inl hb
          · refine .inr (RepV_mono (fun b hb => ?_) (fun _ _ => rfl) (OwnV_rep (hI.own hk hb)))
            rw [beq_iff] at hl2
            subst hl2
            rcases hb with hb | hb
            · exact hF b (FB_sub b hb)
            · exact hbor t (by simp [agBor]) b hb.1
        · rename_i r hk
          split at hg
          case h_2 => cases hg
          rename_i hl2 hown
          cases hg
          rw [beq_iff] at hl2
          subst hl2
          have hviaD : ∀ (hbt : nth δ t ≠ .bad), ArgOk w F' (fun g => ow g = some i0) (.dat 2) (nth δ r) (a.eval (.tmp t)) := by
            intro hbt
            obtain ⟨g1, g2, g3, g4⟩ := hI.via hk hbt
            obtain ⟨z, lv, io, hkr⟩ : ∃ z lv io, nthK c.K r = .own z lv io := by
              unfold isOwn at hown
              split at hown
              · exact ⟨_, _, _, ‹_›⟩
              · cases hown
            rw [eval_tmp, g1]
            refine .inr (RepV_mono (fun b hb => ?_) (fun _ _ => rfl) (OwnV_rep (hI.own hkr g3)))
            rcases hb with hb | hb
            · exact hF b (FB_sub b hb)
            · exact hbor r (by simp [agBor]) b hb.1
          cases htr : Nat.beq t r
          · simp only [agRd, htr, getAll, asmV] at hd
            obtain ⟨i, hc, hd⟩ := Option.bind_eq_some_iff.1 hd
            obtain ⟨ds', h1, rfl⟩ := Option.map_eq_some_iff.1 hd
            obtain ⟨hbt, rfl⟩ := liveD_some hc
            exact rest _ _ rfl h1 hbor' hio' (hviaD hbt)
          · have := beq_iff.1 htr
            subst this
            simp only [agRd, htr, getAll, asmV] at hd
            obtain ⟨ds', h1, rfl⟩ := Option.map_eq_some_iff.1 hd
            refine rest _ _ rfl h1 hbor' hio' ?_
            by_cases hb : nth δ t = .bad
            · exact .inl hb
            · exact hviaD hb
        · cases hg
      · cases hg
      · rename_i f
        cases hg
        simp only [agRd, app, asmV] at hd
        obtain ⟨ds', h1, rfl⟩ := Option.map_eq_some_iff.1 hd
        refine rest _ _ rfl h1 hbor' hio' (ArgOk_dat hF (lv := 0) (hI.opd (x := .func f) (by simp [lvOf])) (Nat.zero_le _) hl1)
      · rename_i v
        split at hg
        case h_2 => cases hg
        rename_i hv
        cases hg
        simp only [agRd, app, asmV] at hd
        obtain ⟨ds', h1, rfl⟩ := Option.map_eq_some_iff.1 hd
        have := hI.opd (x := .const v) (by simp [lvOf, hv])
        simp only [lvOf, hv, opD] at this
        exact rest _ _ rfl h1 hbor' hio' (ArgOk_dat hF this (Nat.zero_le _) hl1)
    · rename_i z l'
      have hl1 := (hp3 z l' true rfl).2
      have hcv : ∀ (lv : Nat), l' = lv → ∀ b, FB F B lv b → FB F' 0 l' b := by
        intro lv e b hb
        subst e
        match l', hl1 with
        | 0, _ => exact hb.elim
        | n + 2, _ => exact hF b hb
      split at hg
      case h_2 => cases hg
      rename_i t
      split at hg
      · rename_i z' lv io hk
        split at hg
        case h_2 => cases hg
        rename_i h1 h2
        rw [beq_iff] at h1 h2
        subst h1
        cases hg
        simp only [agRd, Nat.beq_refl, getAll, asmV] at hd
        obtain ⟨i, hc, hd⟩ := Option.bind_eq_some_iff.1 hd
        obtain ⟨ds', h1', rfl⟩ := Option.map_eq_some_iff.1 hd
        obtain ⟨hb, rfl⟩ := liveD_some hc
        exact rest _ _ rfl h1' hbor' hio' (.inr (OwnV_mono' (hcv lv h2) (fun _ _ => rfl) (fun g _ ho => ⟨by simpa using hio 0 t rfl g ho.1, rfl⟩) (hI.own hk hb)))
      · rename_i r hk
        split at hg
        case h_2 => cases hg
        rename_i z' lv io hkr
        split at hg
        case h_2 => cases hg
        rename_i h1 h2
        rw [beq_iff] at h1 h2
        subst h1
        cases hg
        have hvia : nth δ t ≠ .bad → nth δ r ≠ .bad → ArgOk w F' (fun g => ow g = some i0) (.own z l' true) (nth δ r) (a.eval (.tmp t)) := by
          intro hbt hb
          rw [eval_tmp, (hI.via hk hbt).1]
          exact .inr (OwnV_mono' (hcv lv h2) (fun _ _ => rfl) (fun g _ ho => ⟨by simpa using hio 0 r rfl g ho.1, rfl⟩) (hI.own hkr hb))
        cases htr : Nat.beq t r
        · simp only [agRd, htr, getAll, asmV] at hd
          obtain ⟨i, hc, hd⟩ := Option.bind_eq_some_iff.1 hd
          obtain ⟨i', hc', hd⟩ := Option.bind_eq_some_iff.1 hd
          obtain ⟨ds', h1', rfl⟩ := Option.map_eq_some_iff.1 hd
          obtain ⟨hb, rfl⟩ := liveD_some hc'
          unfold ref0 at hc
          split at hc
          case h_2 => cases hc
          rename_i hr0
          cases hc
          exact rest _ _ rfl h1' hbor' hio' (hvia (by rw [hr0]; simp) hb)
        · have e := beq_iff.1 htr
          subst e
          rw [hk] at hkr
          cases hkr
      · cases hg
    · rename_i n l'
      have hl1 := (hp4 n l' true rfl).2
      have hcv : ∀ (lv : Nat), l' = lv → ∀ b, FB F B lv b → FB F' 0 l' b := by
        intro lv e b hb
        subst e
        match l', hl1 with
        | 0, _ => exact hb.elim
        | n + 2, _ => exact hF b hb
      split at hg
      case h_2 => cases hg
      rename_i t
      split at hg
      · rename_i z' lv io hk
        split at hg
        case h_2 => cases hg
        rename_i h1 h2
        rw [beq_iff] at h1 h2
        subst h1
        cases hg
        simp only [agRd, Nat.beq_refl, getAll, asmV] at hd
        obtain ⟨i, hc, hd⟩ := Option.bind_eq_some_iff.1 hd
        obtain ⟨ds', h1', rfl⟩ := Option.map_eq_some_iff.1 hd
        obtain ⟨hb, rfl⟩ := liveD_some hc
        exact rest _ _ rfl h1' hbor' hio' (.inr (BoxV_mono (hcv lv h2) (fun _ _ => rfl) (fun g ho => ⟨by simpa using hio 0 t rfl g ho.1, rfl⟩) (hI.box hk hb)))
      · rename_i r hk
        split at hg
        case h_2 => cases hg
        rename_i z' lv io hkr
        split at hg
        case h_2 => cases hg
        rename_i h1 h2
        rw [beq_iff] at h1 h2
        subst h1
        cases hg
        cases htr : Nat.beq t r
        · simp only [agRd, htr, getAll, asmV] at hd
          obtain ⟨i, hc, hd⟩ := Option.bind_eq_some_iff.1 hd
          obtain ⟨i', hc', hd⟩ := Option.bind_eq_some_iff.1 hd
          obtain ⟨ds', h1', rfl⟩ := Option.map_eq_some_iff.1 hd
          obtain ⟨hb, rfl⟩ := liveD_some hc'
          unfold ref0 at hc
          split at hc
          case h_2 => cases hc
          rename_i hr0
          cases hc
          obtain ⟨ii, ff, h5, _, h6⟩ := hI.ref hk (by rw [hr0]; simp)
          rw [hr0] at h5
          cases h5
          rw [hkr] at h6
          obtain ⟨g0, e1, e2⟩ := h6
          refine rest _ _ rfl h1' hbor' hio' (.inr ?_)
          rw [eval_tmp, e2, ← e1]
          exact BoxV_mono (hcv lv h2) (fun _ _ => rfl) (fun g ho => ⟨by simpa using hio 0 r rfl g ho.1, rfl⟩) (hI.box hkr hb)
        · have e := beq_iff.1 htr
          subst e
          rw [hk] at hkr
          cases hkr
      · cases hg
    · cases hg

end
end Go.V
/-
  A call keeps the invariant.
-/
namespace Go.V
open Go.RowKit

section
variable {P : Program} {c : Cx} {B : Nat} {X : Nat → Prop} {w0 : World} {F0 F : Nat → Prop} {O : Nat → Option (Nat × Nat)} {a : Act} {w : World} {δ : List D}

theorem BoxV_mono' {w w' : World} {F F' : Nat → Prop} {own own' : Nat → Prop} {n : Nat} {d : D} {y : Value} (hF : ∀ b, F b → F' b) (hw : ∀ b, F b → w'.heap[b]? = w.heap[b]?)
    (ho : ∀ g, V.blk y = some g → own g → own' g ∧ w'.heap[g]? = w.heap[g]?) (h : BoxV w F own n d y) : BoxV w' F' own' n d y := by
  obtain ⟨l, us, g, e, a1, rfl, a3, a4, a5, a6, a7⟩ := h
  exact ⟨l, us, g, e, a1, rfl, (ho g rfl a7).2.trans a3, RepL_mono hF hw _ _ a4, a5, a6, (ho g rfl a7).1⟩
theorem BoxV.blk {F : Nat → Prop} {own : Nat → Prop} {n : Nat} {d : D} {y : Value} (h : BoxV w F own n d y) : ∀ b, V.blk y = some b → own b ∧ b < w.heap.size := by
  intro b hb
  obtain ⟨l, us, g, e, a1, rfl, a3, a4, a5, a6, a7⟩ := h
  simp [V.blk] at hb
  subst hb
  exact ⟨a7, (Array.getElem?_eq_some_iff.1 a3).1⟩

def owIx : List Ag → Nat → Nat → Option Nat
  | [], _, _ => none
  | .io _ q :: l, r, i => if q = r then some i else owIx l r (i + 1)
  | .d _ _ :: l, r, i => owIx l r (i + 1)
  | .bor _ _ :: l, r, i => owIx l r (i + 1)
theorem owIx_mem : ∀ {l : List Ag} {r i j : Nat}, owIx l r i = some j → r ∈ agIo l
  | .io _ q :: l, r, i, j, h => by
    simp only [owIx] at h
    split at h
    · rename_i e; subst e; simp [agIo]
    · simp [agIo, owIx_mem h]
  | .d _ _ :: l, r, i, j, h => by simpa [agIo] using owIx_mem (l := l) h
  | .bor _ _ :: l, r, i, j, h => by simpa [agIo] using owIx_mem (l := l) h
theorem ioAt_mem : ∀ {l : List Ag} {r j : Nat}, ioAt l j = some r → r ∈ agIo l
  | .io _ q :: l, r, 0, h => by simp [ioAt] at h; simp [agIo, h]
  | .io _ q :: l, r, j + 1, h => by simp only [agIo, List.mem_cons]; exact .inr (ioAt_mem (l := l) h)
  | .d _ _ :: l, r, 0, h => by simp [ioAt] at h
  | .bor _ _ :: l, r, 0, h => by simp [ioAt] at h
  | .d _ _ :: l, r, j + 1, h => by simpa [agIo] using ioAt_mem (l := l) h
  | .bor _ _ :: l, r, j + 1, h => by simpa [agIo] using ioAt_mem (l := l) h
theorem nodupN_cons {a : Nat} {l : List Nat} (h : nodupN (a :: l) = true) : a ∉ l ∧ nodupN l = true := by
  simp only [nodupN, memN_eq] at h
  split at h
  · cases h
  · rename_i h1
    exact ⟨by simpa using h1, h⟩
theorem owIx_at : ∀ {l : List Ag} {r i j : Nat}, nodupN (agIo l) = true → ioAt l j = some r → owIx l r i = some (i + j)
  | .io _ q :: l, r, i, 0, _, h => by simp [ioAt] at h; simp [owIx, h]
  | .io _ q :: l, r, i, j + 1, hn, h => by
    obtain ⟨h1, h2⟩ := nodupN_cons hn
    have h3 := ioAt_mem (l := l) h
    have hne : ¬ q = r := fun e => h1 (by rw [e]; exact h3)
    simp only [owIx]
    rw [if_neg hne, owIx_at (l := l) h2 h]
    congr 1; omega
  | .d _ _ :: l, r, i, 0, _, h => by simp [ioAt] at h
  | .bor _ _ :: l, r, i, 0, _, h => by simp [ioAt] at h
  | .d _ _ :: l, r, i, j + 1, hn, h => by simp only [owIx]; rw [owIx_at (l := l) hn h]; congr 1; omega
  | .bor _ _ :: l, r, i, j + 1, hn, h => by simp only [owIx]; rw [owIx_at (l := l) hn h]; congr 1; omega

/-- What is known of the roots that a call writes. -/
def IoArg (c : Cx) (a : Act) (δ : List D) : List Ag → List Kd → List Operand → Prop
  | [], [], [] => True
  | .io _ r :: l, m :: pm, x :: xs => (nth δ r ≠ .bad ∧ a.eval x = av a r ∧ ((∃ z lv io, m = .own z lv true ∧ nthK c.K r = .own z lv io ∧ lv ≠ 1) ∨ ∃ n lv io, m = .box n lv true ∧ nthK c.K r = .box n lv io ∧ lv ≠ 1)) ∧ IoArg c a δ l pm xs
  | _ :: l, m :: pm, _ :: xs => isIo m = false ∧ IoArg c a δ l pm xs
  | _, _, _ => False

theorem okPm_tail {m : Kd} {pm : List Kd} (h : okPm (m :: pm) = true) : okPm pm = true ∧ (∀ z lv, m = .own z lv true → lv ≠ 1) ∧ ∀ n lv, m = .box n lv true → lv ≠ 1 := by
  cases m with
  | dat lv =>
    simp only [okPm] at h
    split at h
    case h_2 => cases h
    exact ⟨h, fun _ _ e => (by cases e), fun _ _ e => (by cases e)⟩
  | own z lv io =>
    cases io
    · simp [okPm] at h
    simp only [okPm] at h
    split at h
    case h_2 => cases h
    rename_i h1 h2
    exact ⟨h, fun _ l e => by cases e; intro e; subst e; simp at h1, fun _ _ e => (by cases e)⟩
  | box z lv io =>
    cases io
    · simp [okPm] at h
    simp only [okPm] at h
    split at h
    case h_2 => cases h
    rename_i h1 h2
    exact ⟨h, fun _ _ e => (by cases e), fun _ l e => by cases e; intro e; subst e; simp at h1⟩
  | _ => simp [okPm] at h

theorem agOf_bor {K : List Kd} {x : Operand} {m : Kd} {t r : Nat} (h : agOf K x m = some (.bor t r)) : ∃ lv, m = .dat lv := by
  cases m with
  | dat lv => exact ⟨lv, rfl⟩
  | own z lv io =>
    exfalso
    cases io
    · simp [agOf] at h
    · simp only [agOf] at h
      repeat (split at h <;> try cases h)
  | box z lv io =>
    exfalso
    cases io
    · simp [agOf] at h
    · simp only [agOf] at h
      repeat (split at h <;> try cases h)
  | _ => simp [agOf] at h

theorem agOf_io {K : List Kd} {x : Operand} {m : Kd} {t r : Nat} (h : agOf K x m = some (.io t r)) : x = .tmp t ∧ ((∃ z lv io, m = .own z lv true ∧ ((t = r ∧ nthK K t = .own z lv io) ∨ (nthK K t = .via r ∧ nthK K r = .own z lv io))) ∨
    ∃ n lv io, m = .box n lv true ∧ ((t = r ∧ nthK K t = .box n lv io) ∨ (nthK K t = .ref r ∧ nthK K r = .box n lv io))) := by
  cases m with
  | dat lv =>
    exfalso
    simp only [agOf] at h
    repeat (split at h <;> try cases h)
  | own z lv io =>
    cases io
    · simp [agOf] at h
    · simp only [agOf] at h
      split at h
      case h_2 => cases h
      split at h
      · rename_i hk
        split at h
        case h_2 => cases h
        rename_i h1 h2
        rw [beq_iff] at h1 h2
        cases h
        exact ⟨rfl, .inl ⟨_, _, _, rfl, .inl ⟨rfl, by rw [hk, h1, h2]⟩⟩⟩
      · rename_i hk
        split at h
        case h_2 => cases h
        rename_i hk2
        split at h
        case h_2 => cases h
        rename_i h1 h2
        rw [beq_iff] at h1 h2
        cases h
        exact ⟨rfl, .inl ⟨_, _, _, rfl, .inr ⟨hk, by rw [hk2, h1, h2]⟩⟩⟩
      · cases h
  | box z lv io =>
    cases io
    · simp [agOf] at h
    · simp only [agOf] at h
      split at h
      case h_2 => cases h
      split at h
      · rename_i hk
        split at h
        case h_2 => cases h
        rename_i h1 h2
        rw [beq_iff] at h1 h2
        cases h
        exact ⟨rfl, .inr ⟨_, _, _, rfl, .inl ⟨rfl, by rw [hk, h1, h2]⟩⟩⟩
      · rename_i hk
        split at h
        case h_2 => cases h
        rename_i hk2
        split at h
        case h_2 => cases h
        rename_i h1 h2
        rw [beq_iff] at h1 h2
        cases h
        exact ⟨rfl, .inr ⟨_, _, _, rfl, .inr ⟨hk, by rw [hk2, h1, h2]⟩⟩⟩
      · cases h
  | _ => simp [agOf] at h

theorem io_arg (hI : Inv c B X w0 F0 F O a w δ) : ∀ (xs : List Operand) (pm : List Kd) (ags : List Ag) (ds : List D), agsOf c.K xs pm = some ags → okPm pm = true → asmV ags (getAll δ (agRd ags)) = some ds → IoArg c a δ ags pm xs
  | [], [], ags, ds, h, _, _ => by
    simp only [agsOf, Option.some.injEq] at h
    subst h
    trivial
  | [], _ :: _, _, _, h, _, _ => by simp [agsOf] at h
  | _ :: _, [], _, _, h, _, _ => by simp [agsOf] at h
  | x :: xs, m :: pm, ags, ds, h, hpm, hd => by
    simp only [agsOf] at h
    split at h
    case h_2 => cases h
    rename_i g l hg hl
    cases h
    obtain ⟨hp1, hp2, hp3⟩ := okPm_tail hpm
    cases g with
    | d y chk =>
      have hnio : isIo m = false := by
        cases m with
        | own z lv io => cases io <;> first | rfl | (simp only [agOf] at hg; repeat (split at hg <;> try cases hg))
        | box z lv io => cases io <;> first | rfl | (simp only [agOf] at hg; repeat (split at hg <;> try cases hg))
        | _ => rfl
      have hd' : ∃ ds', asmV l (getAll δ (agRd l)) = some ds' := by
        cases y with
        | tmp t =>
          simp only [app, getAll, asmV] at hd
          split at hd
          · obtain ⟨ds', h1, _⟩ := Option.map_eq_some_iff.1 hd
            exact ⟨ds', h1⟩
          · obtain ⟨i, _, hd⟩ := Option.bind_eq_some_iff.1 hd
            obtain ⟨ds', h1, _⟩ := Option.map_eq_some_iff.1 hd
            exact ⟨ds', h1⟩
        | const v =>
          simp only [agRd, app, asmV] at hd
          obtain ⟨ds', h1, _⟩ := Option.map_eq_some_iff.1 hd
          exact ⟨ds', h1⟩
        | func v =>
          simp only [agRd, app, asmV] at hd
          obtain ⟨ds', h1, _⟩ := Option.map_eq_some_iff.1 hd
          exact ⟨ds', h1⟩
        | global v => simp [asmV] at hd
      obtain ⟨ds', hd'⟩ := hd'
      exact ⟨hnio, io_arg hI xs pm l ds' hl hp1 hd'⟩
    | bor t r =>
      have hnio : isIo m = false := by
        obtain ⟨lv, e⟩ := agOf_bor hg
        rw [e]; rfl
      have hd' : ∃ ds', asmV l (getAll δ (agRd l)) = some ds' := by
        cases htr : Nat.beq t r
        · simp only [agRd, htr, getAll, asmV] at hd
          obtain ⟨i, _, hd⟩ := Option.bind_eq_some_iff.1 hd
          obtain ⟨ds', h1, _⟩ := Option.map_eq_some_iff.1 hd
          exact ⟨ds', h1⟩
        · simp only [agRd, htr, getAll, asmV] at hd
          obtain ⟨ds', h1, _⟩ := Option.map_eq_some_iff.1 hd
          exact ⟨ds', h1⟩
      obtain ⟨ds', hd'⟩ := hd'
      exact ⟨hnio, io_arg hI xs pm l ds' hl hp1 hd'⟩
    | io t r =>
      obtain ⟨rfl, hk⟩ := agOf_io hg
      have main : (nth δ r ≠ .bad ∧ (t = r ∨ nth δ t = .ref 0 0)) ∧ ∃ ds', asmV l (getAll δ (agRd l)) = some ds' := by
        cases htr : Nat.beq t r
        · simp only [agRd, htr, getAll, asmV] at hd
          obtain ⟨i, hc, hd⟩ := Option.bind_eq_some_iff.1 hd
          obtain ⟨i', hc', hd⟩ := Option.bind_eq_some_iff.1 hd
          obtain ⟨ds', h1, _⟩ := Option.map_eq_some_iff.1 hd
          obtain ⟨hb, rfl⟩ := liveD_some hc'
          unfold ref0 at hc
          split at hc
          case h_2 => cases hc
          rename_i hr0
          cases hc
          exact ⟨⟨hb, .inr hr0⟩, ds', h1⟩
        · have e := beq_iff.1 htr
          subst e
          simp only [agRd, htr, getAll, asmV] at hd
          obtain ⟨i', hc', hd⟩ := Option.bind_eq_some_iff.1 hd
          obtain ⟨ds', h1, _⟩ := Option.map_eq_some_iff.1 hd
          exact ⟨⟨(liveD_some hc').1, .inl rfl⟩, ds', h1⟩
      obtain ⟨⟨hb, hre⟩, ds', hd'⟩ := main
      refine ⟨⟨hb, ?_, ?_⟩, io_arg hI xs pm l ds' hl hp1 hd'⟩
      · rcases hre with e | hr0
        · rw [e]; rfl
        · rcases hk with ⟨z, lv, io, _, h2⟩ | ⟨n, lv, io, _, h2⟩
          · rcases h2 with ⟨e, _⟩ | ⟨h3, h4⟩
            · rw [e]; rfl
            · exact (hI.via h3 (by rw [hr0]; simp)).1
          · rcases h2 with ⟨e, _⟩ | ⟨h3, h4⟩
            · rw [e]; rfl
            · obtain ⟨ii, ff, h5, _, h6⟩ := hI.ref h3 (by rw [hr0]; simp)
              rw [hr0] at h5
              cases h5
              rw [h4] at h6
              obtain ⟨g0, e1, e2⟩ := h6
              rw [eval_tmp, e1, e2]
      · rcases hk with ⟨z, lv, io, h1, h2⟩ | ⟨n, lv, io, h1, h2⟩
        · refine .inl ⟨z, lv, io, h1, ?_, hp2 z lv h1⟩
          rcases h2 with ⟨e, h2⟩ | ⟨_, h2⟩
          · rw [← e]; exact h2
          · exact h2
        · refine .inr ⟨n, lv, io, h1, ?_, hp3 n lv h1⟩
          rcases h2 with ⟨e, h2⟩ | ⟨_, h2⟩
          · rw [← e]; exact h2
          · exact h2

/-- What the roots hold after the call. -/
def IoNew (w' : World) (F' : Nat → Prop) (k : Kd) (u : D) (y : Value) : Prop :=
  u ≠ .bad ∧ match k with
    | .own z lv _ => lv ≠ 1 ∧ OwnV w' (FB F' 0 lv) (fun _ => True) z u y
    | .box n lv _ => lv ≠ 1 ∧ BoxV w' (FB F' 0 lv) (fun _ => True) n u y
    | _ => False

theorem io_new {w' : World} {F' : Nat → Prop} : ∀ (ags : List Ag) (pm : List Kd) (xs : List Operand) (us : List D), IoArg c a δ ags pm xs → UsOk w' F' pm us (xs.map a.eval) →
    us.length = (agIo ags).length ∧ ∀ (m r : Nat), (agIo ags)[m]? = some r → nth δ r ≠ .bad ∧ ∃ u : D, us[m]? = some u ∧ IoNew w' F' (nthK c.K r) u (av a r)
  | [], [], [], us, _, hu => by
    cases us with
    | nil => simp [agIo]
    | cons u us => simp [UsOk] at hu
  | .io t r :: l, m :: pm, x :: xs, us, h, hu => by
    obtain ⟨⟨h1, h2, h3⟩, h4⟩ := h
    simp only [List.map_cons, UsOk] at hu
    have hio : isIo m = true := by rcases h3 with ⟨z, lv, io, rfl, _⟩ | ⟨n, lv, io, rfl, _⟩ <;> rfl
    rw [if_pos hio] at hu
    cases us with
    | nil => exact hu.elim
    | cons u us =>
      obtain ⟨u1, u2, u3⟩ := hu
      obtain ⟨g1, g2⟩ := io_new l pm xs us h4 u3
      refine ⟨by simp [agIo, g1], fun j q hj => ?_⟩
      cases j with
      | zero =>
        simp only [agIo, List.getElem?_cons_zero, Option.some.injEq] at hj
        subst hj
        refine ⟨h1, u, rfl, u1, ?_⟩
        rw [h2] at u2
        have u2 := u2.resolve_left u1
        rcases h3 with ⟨z, lv, io, rfl, hk, hlv⟩ | ⟨n, lv, io, rfl, hk, hlv⟩
        · rw [hk]; exact ⟨hlv, u2⟩
        · rw [hk]; exact ⟨hlv, u2⟩
      | succ j =>
        simp only [agIo, List.getElem?_cons_succ] at hj
        exact g2 j q hj
  | .d y chk :: l, m :: pm, x :: xs, us, h, hu => by
    obtain ⟨h1, h2⟩ := h
    simp only [List.map_cons, UsOk, h1] at hu
    exact io_new l pm xs us h2 hu
  | .bor y chk :: l, m :: pm, x :: xs, us, h, hu => by
    obtain ⟨h1, h2⟩ := h
    simp only [List.map_cons, UsOk, h1] at hu
    exact io_new l pm xs us h2 hu
  | [], [], _ :: _, _, h, _ => h.elim
  | [], _ :: _, _, _, h, _ => h.elim
  | .io _ _ :: _, [], _, _, h, _ => h.elim
  | .io _ _ :: _, _ :: _, [], _, h, _ => h.elim
  | .d _ _ :: _, [], _, _, h, _ => h.elim
  | .d _ _ :: _, _ :: _, [], _, h, _ => h.elim
  | .bor _ _ :: _, [], _, _, h, _ => h.elim
  | .bor _ _ :: _, _ :: _, [], _, h, _ => h.elim

theorem outs_eq (us : List D) : ∀ (ios : List Nat) (j : Nat), j + ios.length ≤ us.length → clOf.go us j ios = (us.drop j).take ios.length
  | [], j, _ => by simp [clOf.go]
  | _ :: l, j, h => by
    simp only [List.length_cons] at h
    simp only [clOf.go]
    rw [outs_eq us l (j + 1) (by omega)]
    have hj : j < us.length := by omega
    rw [List.drop_eq_getElem_cons hj, List.length_cons, List.take_succ_cons, nth_eq, List.getD_eq_getElem?_getD, List.getElem?_eq_getElem hj]
    rfl

theorem setMany_at : ∀ (ss : List Nat) (ds δ : List D) (m s : Nat), nodupN ss = true → ss[m]? = some s → s < δ.length → nth (setMany δ ss ds) s = nth ds m
  | t :: ss, [], δ, m, s, hn, hm, hl => by
    rw [nth_kill _ _ _ (List.mem_of_getElem? hm)]
  | t :: ss, d :: ds, δ, 0, s, hn, hm, hl => by
    obtain ⟨h1, h2⟩ := nodupN_cons hn
    simp at hm
    subst hm
    simp only [setMany]
    rw [nth_setMany_notin _ _ _ _ h1, nth_setAt_eq, if_pos hl]
  | t :: ss, d :: ds, δ, m + 1, s, hn, hm, hl => by
    obtain ⟨h1, h2⟩ := nodupN_cons hn
    simp only [setMany]
    rw [setMany_at ss ds _ m s h2 (by simpa using hm) (by rw [len_setAt]; exact hl)]

theorem nodup_app {d : Nat} {l : List Nat} (h1 : memN d l = false) (h2 : nodupN l = true) : nodupN ([d] ++ l) = true := by
  simp only [List.cons_append, List.nil_append, nodupN, h1]
  exact h2

theorem apartN_eq : ∀ {l m : List Nat}, apartN l m = true → ∀ x ∈ l, x ∉ m
  | a :: l, m, h, x, hx => by
    simp only [apartN, memN_eq] at h
    split at h
    · cases h
    · rename_i h1
      rcases List.mem_cons.1 hx with rfl | hx
      · simpa using h1
      · exact apartN_eq h x hx

theorem root_lt {K : List Kd} {r : Nat} (h : isRoot K r) : r < K.length := by
  by_cases hd : r < K.length
  · exact hd
  · exfalso
    have : ∀ (K : List Kd) (r : Nat), ¬ r < K.length → nthK K r = .no := by
      intro K
      induction K with
      | nil => intro r _; rfl
      | cons k K ih =>
        intro r hr
        cases r with
        | zero => simp at hr
        | succ r => exact ih r (by simpa using hr)
    rw [isRoot, this K r hd] at h
    exact h

theorem io0_tail {m : Kd} {pm : List Kd} (h : io0 (m :: pm) = true) : io0 pm = true ∧ (∀ z lv io, m = .own z lv io → lv = 0) ∧ ∀ n lv io, m = .box n lv io → lv = 0 := by
  cases m with
  | own z lv io =>
    simp only [io0] at h
    split at h
    case h_2 => cases h
    rename_i h0
    exact ⟨h, fun _ _ _ e => by cases e; exact beq_iff.1 h0, fun _ _ _ e => (by cases e)⟩
  | box z lv io =>
    simp only [io0] at h
    split at h
    case h_2 => cases h
    rename_i h0
    exact ⟨h, fun _ _ _ e => (by cases e), fun _ _ _ e => by cases e; exact beq_iff.1 h0⟩
  | _ => exact ⟨by simpa only [io0] using h, fun _ _ _ e => (by cases e), fun _ _ _ e => (by cases e)⟩

theorem io0_at : ∀ (ags : List Ag) (pm : List Kd) (xs : List Operand), IoArg c a δ ags pm xs → io0 pm = true → ∀ (m r : Nat), (agIo ags)[m]? = some r → ∀ lv, ((∃ z io, nthK c.K r = .own z lv io) ∨ ∃ n io, nthK c.K r = .box n lv io) → lv = 0
  | [], _, _, _, _, m, r, hm, _, _ => by simp [agIo] at hm
  | .io t q :: l, m :: pm, x :: xs, h, h0, j, r, hj, lv, hk => by
    obtain ⟨⟨_, _, h3⟩, h4⟩ := h
    obtain ⟨g1, g2, g3⟩ := io0_tail h0
    cases j with
    | zero =>
      simp only [agIo, List.getElem?_cons_zero, Option.some.injEq] at hj
      subst hj
      rcases h3 with ⟨z, lv', io, rfl, hk', _⟩ | ⟨n, lv', io, rfl, hk', _⟩
      · have := g2 z lv' true rfl
        subst this
        rw [hk'] at hk
        rcases hk with ⟨_, _, e⟩ | ⟨_, _, e⟩ <;> cases e
        rfl
      · have := g3 n lv' true rfl
        subst this
        rw [hk'] at hk
        rcases hk with ⟨_, _, e⟩ | ⟨_, _, e⟩ <;> cases e
        rfl
    | succ j => exact io0_at l pm xs h4 g1 j r (by simpa [agIo] using hj) lv hk
  | .d _ _ :: l, m :: pm, x :: xs, h, h0, j, r, hj, lv, hk => io0_at l pm xs h.2 (io0_tail h0).1 j r (by simpa [agIo] using hj) lv hk
  | .bor _ _ :: l, m :: pm, x :: xs, h, h0, j, r, hj, lv, hk => io0_at l pm xs h.2 (io0_tail h0).1 j r (by simpa [agIo] using hj) lv hk
  | .io _ _ :: _, [], _, h, _, _, _, _, _, _ => h.elim
  | .io _ _ :: _, _ :: _, [], h, _, _, _, _, _, _ => h.elim
  | .d _ _ :: _, [], _, h, _, _, _, _, _, _ => h.elim
  | .d _ _ :: _, _ :: _, [], h, _, _, _, _, _, _ => h.elim
  | .bor _ _ :: _, [], _, h, _, _, _, _, _, _ => h.elim
  | .bor _ _ :: _, _ :: _, [], h, _, _, _, _, _, _ => h.elim

/-- What the caller knows after the call: the general step. 'g': who gets a result's new block ('none': it is data from now on). -/
theorem call_step (hI : Inv c B X w0 F0 F O a w δ) {S : FS} {ags : List Ag} {xs : List Operand} {ds rs us : List D} {F' : Nat → Prop} {R : Nat → Option Nat} {vs : List Value} {w' : World} {v : Value} {dst : Option Nat} {x : List D}
    (hags : agsOf c.K xs S.pm = some ags) (hpm : okPm S.pm = true) (hds : asmV ags (getAll δ (agRd ags)) = some ds) (hnd : nodupN (agIo ags) = true)
    (hbor : agBor ags = [] ∨ (noAny S.rm = true ∧ io0 S.pm = true))
    (hpost : CallPost S (xs.map a.eval).toArray rs us w (fun b => F b ∨ ∃ r ∈ agBor ags, O b = some (r, 0)) (fun b => match O b with
      | some (r, 0) => owIx ags r 0
      | _ => none) F' R vs w')
    (hdx : (dst = none ∧ x = []) ∨ ∃ d y, dst = some d ∧ x = [y] ∧ memN d (agIo ags) = false) (g : Nat → Option (Nat × Nat)) (hg : ∀ j p, g j = some p → ∀ d, dst = some d → p.1 = d) (hgn : dst = none → ∀ j, g j = none)
    (hU : ∀ (F2 : Nat → Prop) (O2 : Nat → Option (Nat × Nat)), (∀ lv b, (agBor ags = [] ∨ lv ≤ 1) → FB F' w.heap.size lv b → FB F2 B lv b) → (∀ b j, R b = some j → O2 b = g j ∧ B ≤ b ∧ (g j = none → F2 b)) → ∀ d y, dst = some d → x = [y] → d < δ.length → SlotU c.K B F2 O2 (a.put dst v) w' d y) :
    ∃ F2 O2, Inv c B X w0 F0 F2 O2 (a.put dst v) w' (setMany δ (dst.toList ++ (agIo ags ++ depsAll c.K dst.toList)) (x ++ us)) := by
  have hB := hI.bb
  have hioA := io_arg hI xs S.pm ags ds hags hpm hds
  obtain ⟨hul, hun⟩ := io_new (c := c) (a := a) (δ := δ) ags S.pm xs us hioA (by simpa using hpost.us)
  -- what the call may have written
  have hkeep : ∀ b, b < w.heap.size → (∀ p, O b = some p → p.1 ∉ agIo ags) → w'.heap[b]? = w.heap[b]? := by
    intro b hb hp
    refine hpost.keep b hb ?_
    split
    · rename_i r he
      cases h : owIx ags r 0 with
      | none => rfl
      | some j => exact absurd (owIx_mem h) (hp _ he)
    · rfl
  have hRn : ∀ b, b < w.heap.size → R b = none := fun b hb => by
    cases h : R b with
    | none => rfl
    | some j => have := (hpost.rn b j h).1; omega
  let F2 : Nat → Prop := fun b => F b ∨ (F' b ∧ w.heap.size ≤ b) ∨ ∃ j, R b = some j ∧ g j = none
  let O2 : Nat → Option (Nat × Nat) := fun b => match R b with
    | some j => g j
    | none => O b
  have hO2n : ∀ b, R b = none → O2 b = O b := fun b h => by simp only [O2, h]
  have hO2s : ∀ b j, R b = some j → O2 b = g j := fun b j h => by simp only [O2, h]
  have hOlt : ∀ b, w.heap.size ≤ b → O b = none := fun b hb => by
    cases h : O b with
    | none => rfl
    | some p => have := (hI.ol b p h).1; omega
  have hlv : ∀ lv b, (agBor ags = [] ∨ lv ≤ 1) → FB F' w.heap.size lv b → FB F2 B lv b := by
    intro lv b hbl hb
    match lv, hbl, hb with
    | 0, _, hb => exact hb.elim
    | 1, _, hb => exact ⟨.inr (.inl hb), Nat.le_trans hB hb.2⟩
    | n + 2, hbl, hb =>
      have he : agBor ags = [] := hbl.resolve_right (by omega)
      rcases (hpost.fn b hb).1 with h1 | h1
      · rcases h1 with h1 | ⟨r, hr, _⟩
        · exact .inl h1
        · rw [he] at hr; cases hr
      · exact .inr (.inl ⟨hb, h1⟩)
  have hnd2 : nodupN (dst.toList ++ agIo ags) = true := by
    rcases hdx with ⟨rfl, _⟩ | ⟨d, y, rfl, _, hm⟩
    · exact hnd
    · exact nodup_app hm hnd
  have hlen : (x ++ us).length = (dst.toList ++ agIo ags).length := by
    rcases hdx with ⟨rfl, rfl⟩ | ⟨d, y, rfl, rfl, _⟩ <;> simp [hul]
  have hlt : ∀ r, isRoot c.K r → r < δ.length := fun r hr => by
    rw [hI.ld]
    exact root_lt hr
  have hgetio : ∀ (m r : Nat), (agIo ags)[m]? = some r → isRoot c.K r → nth (setMany δ (dst.toList ++ agIo ags) (x ++ us)) r = nth us m := by
    intro m r hm hr
    rcases hdx with ⟨rfl, rfl⟩ | ⟨d, y, rfl, rfl, _⟩
    · exact setMany_at _ _ _ m r hnd (by simpa using hm) (hlt r hr)
    · have := setMany_at (δ := δ) ([d] ++ agIo ags) ([y] ++ us) (m := m + 1) (s := r) hnd2 (by simpa using hm) (hlt r hr)
      simpa [nth] using this
  have hrootIo : ∀ (m r : Nat), (agIo ags)[m]? = some r → isRoot c.K r := by
    intro m r hm
    obtain ⟨_, u, _, hn⟩ := hun m r hm
    obtain ⟨_, hn⟩ := hn
    unfold isRoot
    generalize nthK c.K r = kk at hn
    cases kk <;> first | exact hn.elim | trivial
  refine ⟨F2, O2, hI.many hlen (by cases dst <;> simp [Act.put]) (by cases dst <;> rfl) (fun s hs => ?_) (fun r hr _ hb => ?_) (fun s hs => ?_) (fun _ hb => .inl hb) (fun b hb => ?_) (fun b p hp hm => ?_) (fun b hb => ?_) (fun b p hp => ?_) (fun b hb => ?_) hpost.size hpost.os hpost.tape hpost.output (fun b hb hx => ?_)⟩
  · cases dst with
    | none => rfl
    | some d => exact av_put_ne fun e => hs (by simp [e])
  · obtain ⟨m, hm⟩ := List.getElem?_of_mem hr
    obtain ⟨_, u, hu, hn⟩ := hun m r hm
    rw [hgetio m r hm (hrootIo m r hm), nth_eq, List.getD_eq_getElem?_getD, hu]
    exact hn.1
  · rcases List.mem_append.1 hs with hs | hs
    · rcases hdx with ⟨rfl, _⟩ | ⟨d, y, rfl, rfl, _⟩
      · cases hs
      · have : s = d := by simpa using hs
        subst this
        by_cases hsl : s < δ.length
        · have e := setMany_at (δ := δ) ([s] ++ agIo ags) ([y] ++ us) (m := 0) (s := s) hnd2 rfl hsl
          simp only [Option.toList_some] at e ⊢
          rw [e]
          exact hU F2 O2 hlv (fun b j hj => ⟨hO2s b j hj, Nat.le_trans hB (hpost.rn b j hj).1, fun hn => .inr (.inr ⟨j, hj, hn⟩)⟩) s y rfl rfl hsl
        · refine .inl ?_
          have : ∀ (l : List D) (n : Nat), ¬ n < l.length → nth l n = .bad := fun l n h => by
            rw [nth_eq, List.getD_eq_getElem?_getD, List.getElem?_eq_none (by omega)]; rfl
          exact this _ _ (by rw [len_setMany]; exact hsl)
    · have hs' := hs
      obtain ⟨m, hm⟩ := List.getElem?_of_mem hs
      have hr := hrootIo m s hm
      obtain ⟨hb, u, hu, hn⟩ := hun m s hm
      rw [hgetio m s hm hr, nth_eq, List.getD_eq_getElem?_getD, hu]
      have hav : av (a.put dst v) s = av a s := by
        cases dst with
        | none => rfl
        | some d =>
          refine av_put_ne ?_
          rcases hdx with ⟨h, _⟩ | ⟨d', y, h, _, hm'⟩
          · cases h
          · cases h
            rintro rfl
            rw [memN_eq] at hm'
            exact (of_decide_eq_false hm') hs'
      refine .inr ?_
      obtain ⟨hn1, hn2⟩ := hn
      have hbl : ∀ lv, lv ≠ 1 → (agBor ags = [] ∨ lv ≤ 1) → ∀ b, FB F' 0 lv b → FB F2 B lv b := by
        intro lv h1 h2 b hb
        refine hlv lv b h2 ?_
        match lv, h1 with
        | 0, _ => exact hb
        | n + 2, _ => exact hb
      have hlv1 : ∀ lv, (∃ z io, nthK c.K s = .own z lv io) ∨ (∃ n io, nthK c.K s = .box n lv io) → agBor ags = [] ∨ lv ≤ 1 := by
        intro lv hk
        rcases hbor with h | ⟨_, h0⟩
        · exact .inl h
        · right
          have := io0_at ags S.pm xs hioA h0 m s hm lv hk
          omega
      generalize hks : nthK c.K s = kk at hn2
      cases kk with
      | own z lv io =>
        refine .inr ?_
        obtain ⟨h1, h2⟩ := hn2
        rw [hav]
        have hown := (hI.own hks hb).blk
        exact OwnV_mono' (hbl lv h1 (hlv1 lv (.inl ⟨z, io, hks⟩))) (fun _ _ => rfl) (fun b hbk _ => ⟨⟨(hO2n b (hRn b (hown b hbk).2)).trans (hown b hbk).1.1, (hown b hbk).1.2⟩, rfl⟩) h2
      | box n lv io =>
        refine .inr ?_
        obtain ⟨h1, h2⟩ := hn2
        rw [hav]
        have hown := (hI.box hks hb).blk
        exact BoxV_mono' (hbl lv h1 (hlv1 lv (.inr ⟨n, io, hks⟩))) (fun _ _ => rfl) (fun b hbk _ => ⟨⟨(hO2n b (hRn b (hown b hbk).2)).trans (hown b hbk).1.1, (hown b hbk).1.2⟩, rfl⟩) h2
      | _ => exact hn2.elim
  · exact hkeep b (hI.fl b hb).1 fun p hp => by rw [(hI.fl b hb).2] at hp; cases hp
  · have hb := (hI.ol b p hp).1
    exact ⟨(hO2n b (hRn b hb)).trans hp, hkeep b hb fun q hq => by rw [hp] at hq; cases hq; exact fun hm' => hm (List.mem_append_right _ hm')⟩
  · rcases hb with hb | hb | ⟨j, hj, hn⟩
    · obtain ⟨h1, h2⟩ := hI.fl b hb
      exact ⟨Nat.lt_of_lt_of_le h1 hpost.size, (hO2n b (hRn b h1)).trans h2⟩
    · obtain ⟨_, h1, h2⟩ := hpost.fn b hb.1
      exact ⟨h1, (hO2n b h2).trans (hOlt b hb.2)⟩
    · exact ⟨(hpost.rn b j hj).2, (hO2s b j hj).trans hn⟩
  · cases h : R b with
    | none =>
      rw [hO2n b h] at hp
      exact ⟨Nat.lt_of_lt_of_le (hI.ol b p hp).1 hpost.size, (hI.ol b p hp).2⟩
    | some j => exact ⟨(hpost.rn b j h).2, .inl (Nat.le_trans hB (hpost.rn b j h).1)⟩
  · rcases hb with hb | hb | ⟨j, hj, _⟩
    · exact .inl hb
    · exact .inr (Nat.le_trans hB hb.2)
    · exact .inr (Nat.le_trans hB (hpost.rn b j hj).1)
  · refine hkeep b (Nat.lt_of_lt_of_le hb hB) fun p hp => ?_
    rcases (hI.ol b p hp).2 with h1 | h1
    · omega
    · exact absurd h1 hx

theorem noAny_at : ∀ {ms : List Kd}, noAny ms = true → ∀ i lv, (nthK ms i = .dat lv ∨ ∃ z io, nthK ms i = .own z lv io) → lv ≤ 1
  | [], _, i, lv, hk => by simp [nthK] at hk
  | m :: ms, h, i, lv, hk => by
    have : (∀ l, m = .dat l → l ≤ 1) ∧ (∀ z l io, m = .own z l io → l ≤ 1) ∧ noAny ms = true := by
      cases m with
      | dat a =>
        simp only [noAny] at h
        split at h
        case h_2 => cases h
        rename_i e
        exact ⟨fun l e' => by cases e'; exact ble_iff.1 e, fun _ _ _ e => (by cases e), h⟩
      | own z a io =>
        simp only [noAny] at h
        split at h
        case h_2 => cases h
        rename_i e
        exact ⟨fun _ e => (by cases e), fun _ l _ e' => by cases e'; exact ble_iff.1 e, h⟩
      | _ => simp [noAny] at h
    obtain ⟨h1, h2, h3⟩ := this
    cases i with
    | zero =>
      simp only [nthK] at hk
      rcases hk with hk | ⟨z, io, hk⟩
      · exact h1 lv hk
      · exact h2 z lv io hk
    | succ i => exact noAny_at h3 i lv hk

theorem callee_run {o : Oper} {q : Call} {f : Nat} (ho : o.op = .call q) (hf : q.callee = .value (.func f)) : (execOp a.eval o).run P w = (callFunc f (q.args.map a.eval)).run P w := by
  simp [execOp, ho, resolve, hf, Deferred.ofValue, Act.eval, invoke]

theorem sound_call (hS : ∀ f S, look c.S f = some S → Meets c.G P f S) {o : Oper} {q : Call} {f : Nat} {S : FS} (ho : o.op = .call q) (hf : q.callee = .value (.func f)) (hlk : look c.S f = some S) {A : Ac} (hA : clOf c o.dst S q.args.toList = some A) (hI : Inv c B X w0 F0 F O a w δ)
    {k : List D → Option Out} {r : Out} (hg : goAc c A δ k = some r) (Q : Exit → Act → World → Prop) : o.wp P a w (Next c B X w0 F0 k r) Q := by
  have hM := hS f S hlk
  unfold clOf at hA
  split at hA
  · cases hA
  rename_i ags hags
  simp only at hA
  split at hA
  case h_2 => cases hA
  rename_i hokB hnd hpm
  have hbor : agBor ags = [] ∨ (noAny S.rm = true ∧ io0 S.pm = true ∧ apartN (agBor ags) (agIo ags) = true) := by
    split at hokB
    · rename_i e; exact .inl e
    · split at hokB
      · rename_i h1 h2; exact .inr ⟨h1, h2, hokB⟩
      · cases hokB
  have hbor' : agBor ags = [] ∨ (noAny S.rm = true ∧ io0 S.pm = true) := hbor.imp id fun h => ⟨h.1, h.2.1⟩
  -- the call itself
  have call : ∀ (ds rs us : List D), asmV ags (getAll δ (agRd ags)) = some ds → S.f ds = some (.ret rs us) → (∀ v w' F' R vs, v = resV vs → CallPost S (q.args.toList.map a.eval).toArray rs us w (fun b => F b ∨ ∃ r ∈ agBor ags, O b = some (r, 0)) (fun b => match O b with
      | some (r, 0) => owIx ags r 0
      | _ => none) F' R vs w' → Next c B X w0 F0 k r (a.put o.dst v) w') → o.wp P a w (Next c B X w0 F0 k r) Q := by
    intro ds rs us h1 h2 h3
    have hargs := args_ok (F' := fun b => F b ∨ ∃ r ∈ agBor ags, O b = some (r, 0)) (ow := fun b => match O b with
      | some (r, 0) => owIx ags r 0
      | _ => none) hI (fun _ h => .inl h) q.args.toList S.pm ags 0 ds hags hpm h1 (fun r hr b hb => .inr ⟨r, hr, hb⟩) (fun j r hj b hb => by simp only [hb]; rw [owIx_at hnd hj])
    have he := hM ds rs us h2 (q.args.toList.map a.eval).toArray w _ _ (gOk_mono (fun _ h => Or.inl h) (fun _ _ => rfl) hI.gl) (by simpa using hargs) (fun b hb => ?_) (fun b i hb => ?_) o a (Next c B X w0 F0 k r) Q (fun v w' hp => ?_)
    · unfold Oper.wp
      rw [callee_run ho hf]
      have : q.args.map a.eval = (q.args.toList.map a.eval).toArray := by rw [← List.map_toArray, Array.toArray_toList]
      rw [this]
      exact he
    · rcases hb with hb | ⟨r', hr, hb⟩
      · obtain ⟨g1, g2⟩ := hI.fl b hb
        exact ⟨g1, by simp only [g2]⟩
      · refine ⟨(hI.ol b _ hb).1, ?_⟩
        simp only [hb]
        cases h : owIx ags r' 0 with
        | none => rfl
        | some j =>
          rcases hbor with h0 | ⟨_, _, h0⟩
          · rw [h0] at hr; cases hr
          · exact absurd (owIx_mem h) (apartN_eq h0 r' hr)
    · split at hb
      · rename_i r' hr; exact (hI.ol b _ hr).1
      · cases hb
    · obtain ⟨F', R, vs, h4, h5⟩ := hp
      exact h3 v w' F' R vs h4 h5
  have asm : ∀ (K : List D → List D → Option Out), asmK [] ags (getAll δ (agRd ags)) (fun ds => callK (S.f ds) K) = some r → ∃ ds rs us, asmV ags (getAll δ (agRd ags)) = some ds ∧ S.f ds = some (.ret rs us) ∧ K rs us = some r := by
    intro K h
    rw [asmK_eq] at h
    obtain ⟨ds, h1, h2⟩ := Option.bind_eq_some_iff.1 h
    simp only [List.nil_append] at h2
    unfold callK at h2
    split at h2
    · rename_i rs us h3
      exact ⟨ds, rs, us, h1, h3, h2⟩
    · cases h2
  have uslen : ∀ {ds rs us : List D} {F' : Nat → Prop} {R : Nat → Option Nat} {vs : List Value} {w' : World} {F1 : Nat → Prop} {ow : Nat → Option Nat}, asmV ags (getAll δ (agRd ags)) = some ds → CallPost S (q.args.toList.map a.eval).toArray rs us w F1 ow F' R vs w' → clOf.outs us (agIo ags) = us := by
    intro ds rs us F' R vs w' F1 ow h1 h2
    have h3 := (io_new (c := c) (a := a) (δ := δ) ags S.pm q.args.toList us (io_arg hI _ _ _ _ hags hpm h1) (by simpa using h2.us)).1
    unfold clOf.outs
    rw [outs_eq us _ 0 (by omega), List.drop_zero, ← h3, List.take_length]
  have hlv0 : ∀ i lv, (nthK S.rm i = .dat lv ∨ ∃ z io, nthK S.rm i = .own z lv io) → agBor ags = [] ∨ lv ≤ 1 := fun i lv hk => hbor'.imp id fun h => noAny_at h.1 i lv hk
  split at hA
  · rename_i hd
    split at hA
    case h_2 => cases hA
    rename_i hrm
    cases hA
    obtain ⟨ds, rs, us, h1, h2, h3⟩ := asm _ hg
    refine call ds rs us h1 h2 (fun v w' F' R vs hv hp => ?_)
    obtain ⟨F2, O2, hI'⟩ := call_step (v := v) (dst := none) (x := []) hI hags hpm h1 hnd hbor' hp (.inl ⟨rfl, rfl⟩) (fun _ => none) (fun _ _ h => by cases h) (fun _ _ => rfl) (fun _ _ _ _ _ _ h => by cases h)
    rw [uslen h1 hp] at h3
    exact ⟨F2, O2, _, by rw [hd]; exact hI', h3⟩
  · rename_i d hd
    split at hA
    · rename_i h1' h2' hrm
      cases hA
      obtain ⟨ds, rs, us, h1, h2, h3⟩ := asm _ hg
      refine call ds rs us h1 h2 (fun v w' F' R vs hv hp => ?_)
      obtain ⟨F2, O2, hI'⟩ := call_step (v := v) (dst := some d) (x := [.bad]) hI hags hpm h1 hnd hbor' hp (.inr ⟨d, .bad, rfl, rfl, h2'⟩) (fun _ => none) (fun _ _ h => by cases h) (fun _ _ => rfl) (fun _ _ _ _ d y _ h _ => by
        simp only [List.cons.injEq, and_true] at h
        exact .inl h.symm)
      rw [uslen h1 hp] at h3
      exact ⟨F2, O2, _, by rw [hd]; exact hI', h3⟩
    · rename_i kd h1' h2' hrm
      cases hA
      obtain ⟨ds, rs, us, h1, h2, h3⟩ := asm _ hg
      refine call ds rs us h1 h2 (fun v w' F' R vs hv hp => ?_)
      have hvl := hp.len
      rw [hrm] at hvl
      obtain ⟨y, rfl⟩ := List.length_eq_one_iff.1 hvl
      simp only [resV] at hv
      subst hv
      have hres := hp.res 0
      rw [hrm] at hres
      simp only [nthK, List.getD_cons_zero] at hres
      rw [hrm] at h1'
      have hlv := hlv0 0
      rw [hrm] at hlv
      simp only [nthK] at hlv
      have fin : ∀ (g : Nat → Option (Nat × Nat)), (∀ j p, g j = some p → p.1 = d) → (∀ (F2 : Nat → Prop) (O2 : Nat → Option (Nat × Nat)), (∀ lv b, (agBor ags = [] ∨ lv ≤ 1) → FB F' w.heap.size lv b → FB F2 B lv b) → (∀ b j, R b = some j → O2 b = g j ∧ B ≤ b ∧ (g j = none → F2 b)) → d < δ.length → SlotU c.K B F2 O2 (a.put (some d) v) w' d (nth rs 0)) →
          Next c B X w0 F0 k r (a.put o.dst v) w' := by
        intro g hg' hU
        obtain ⟨F2, O2, hI'⟩ := call_step (v := v) (dst := some d) (x := [nth rs 0]) hI hags hpm h1 hnd hbor' hp (.inr ⟨d, nth rs 0, rfl, rfl, h2'⟩) g (fun j p h d' e => by cases e; exact hg' j p h) (fun h => by cases h) (fun F2 O2 h4 h5 d' y' e1 e2 h6 => by
          cases e1
          simp only [List.cons.injEq, and_true] at e2
          subst e2
          exact hU F2 O2 h4 h5 h6)
        rw [uslen h1 hp] at h3
        exact ⟨F2, O2, _, by rw [hd]; exact hI', h3⟩
      have hsz : d < δ.length → av (a.put (some d) v) d = v := fun h => av_put_eq (by rw [hI.la, ← hI.ld]; exact h)
      by_cases hb : nth rs 0 = .bad
      · exact fin (fun _ => none) (fun _ _ h => by cases h) (fun _ _ _ _ _ => .inl hb)
      have hres := hres.resolve_left hb
      cases kd with
      | dat lv =>
        simp only [rmFit] at h1'
        split at h1'
        case h_2 => cases h1'
        rename_i l hkd
        rw [ble_iff] at h1'
        refine fin (fun _ => none) (fun _ _ h => by cases h) (fun F2 O2 h4 h5 h6 => .inr ?_)
        rw [hkd, hsz h6]
        exact .inr (RepV_mono (fun b hb => FB_le h1' _ (h4 lv b (hlv lv (.inl rfl)) hb)) (fun _ _ => rfl) hres)
      | own z lv io =>
        cases io
        case true =>
          simp only [rmFit] at h1'
          split at h1'
          · simp [sameKs] at h1'
          · cases h1'
        simp only [rmFit] at h1'
        have hlv' := hlv lv (.inr ⟨z, false, rfl⟩)
        rcases newIn_some h1' with ⟨l, hkd, hle⟩ | ⟨l, hkd, h1l, hle⟩
        · refine fin (fun _ => some (d, 0)) (fun _ _ h => by cases h; rfl) (fun F2 O2 h4 h5 h6 => .inr ?_)
          rw [hkd, hsz h6]
          exact .inr (OwnV_mono' (fun b hb => FB_le hle _ (h4 lv b hlv' hb)) (fun _ _ => rfl) (fun b _ hb => ⟨⟨(h5 b 0 hb.1).1, fun _ => (h5 b 0 hb.1).2.1⟩, rfl⟩) hres)
        · refine fin (fun _ => none) (fun _ _ h => by cases h) (fun F2 O2 h4 h5 h6 => .inr ?_)
          rw [hkd, hsz h6]
          refine .inr (RepV_mono (fun b hb => ?_) (fun _ _ => rfl) (OwnV_rep hres))
          rcases hb with hb | ⟨hb1, hb2⟩
          · exact FB_le hle _ (h4 lv b hlv' hb)
          · obtain ⟨_, g2, g3⟩ := h5 b 0 hb1
            match l, h1l with
            | 1, _ => exact ⟨g3 rfl, g2⟩
            | _ + 2, _ => exact g3 rfl
      | _ => exact hres.elim
    · rename_i h1' h2' hn0 hn1
      cases hA
      obtain ⟨ds, rs, us, h1, h2, h3⟩ := asm _ hg
      refine call ds rs us h1 h2 (fun v w' F' R vs hv hp => ?_)
      have hvl := hp.len
      have hfit : ∃ ns, nthK c.K d = .tup ns ∧ sameKs S.rm ns = true := by
        unfold rmFit at h1'
        split at h1'
        · rename_i e; exact absurd e (hn1 _)
        · rename_i e; exact absurd e (hn1 _)
        · rename_i e; exact absurd e hn0
        · split at h1'
          · exact ⟨_, ‹_›, h1'⟩
          · cases h1'
      obtain ⟨ns, hkd, hsame⟩ := hfit
      have hv2 : v = .tuple vs.toArray := by
        rw [hv]
        unfold resV
        split
        · rename_i y
          exfalso
          have : S.rm.length = 1 := by rw [← hvl]; rfl
          obtain ⟨kk, e⟩ := List.length_eq_one_iff.1 this
          exact hn1 _ e
        · rfl
      obtain ⟨F2, O2, hI'⟩ := call_step (v := v) (dst := some d) (x := [.tup rs]) hI hags hpm h1 hnd hbor' hp (.inr ⟨d, .tup rs, rfl, rfl, h2'⟩) (fun j => some (d, j + 1)) (fun j p h d' e => by cases e; cases h; rfl) (fun h => by cases h) (fun F2 O2 h4 h5 d' y' e1 e2 h6 => by
        cases e1
        simp only [List.cons.injEq, and_true] at e2
        subst e2
        refine .inr ?_
        rw [hkd, av_put_eq (by rw [hI.la, ← hI.ld]; exact h6), hv2]
        refine ⟨rs, vs.toArray, rfl, rfl, fun i => ?_⟩
        obtain ⟨e1, e2⟩ := sameKs_at hsame i
        rw [e1]
        have hgd : vs.toArray.getD i undef = vs.getD i undef := by simp
        rw [hgd]
        rcases hp.res i with hb | hres
        · exact .inl hb
        rcases e2 with e2 | ⟨lv, e2⟩ | ⟨z, lv, e2⟩
        · rw [e2] at hres; exact hres.elim
        · rw [e2] at hres ⊢
          exact .inr (RepV_mono (fun b hb => h4 lv b (hlv0 i lv (.inl e2)) hb) (fun _ _ => rfl) hres)
        · rw [e2] at hres ⊢
          exact .inr (OwnV_mono' (fun b hb => h4 lv b (hlv0 i lv (.inr ⟨z, false, e2⟩)) hb) (fun _ _ => rfl) (fun b _ hb => ⟨⟨(h5 b i hb.1).1, fun _ => (h5 b i hb.1).2.1⟩, rfl⟩) hres))
      rw [uslen h1 hp] at h3
      exact ⟨F2, O2, _, by rw [hd]; exact hI', h3⟩
    · cases hA

end
end Go.V
/-
  Every operation keeps the invariant; each is a function of what it reads.
-/
namespace Go.V
open Go.RowKit

section
variable {P : Program} {c : Cx}

theorem sound_minmax {o : Oper} {q : Call} (ho : o.op = .call q) {bi : Builtin} (hq : q.callee = .builtin bi) (f : D → D → Option D) (g : Value → Value → Sem Value) (hbi : (bi = .min ∧ f = minD ∧ g = Builtin.min2) ∨ (bi = .max ∧ f = maxD ∧ g = Builtin.max2))
    {A : Ac} (hA : dataOp c o.dst q.args.toList 0 (fold1 f) = some A) {B : Nat} {X : Nat → Prop} {w0 : World} {F0 F : Nat → Prop} {O : Nat → Option (Nat × Nat)} {a : Act} {w : World} {δ : List D} (hI : Inv c B X w0 F0 F O a w δ) {k : List D → Option Out} {r : Out} (hg : goAc c A δ k = some r) (Q : Exit → Act → World → Prop) : o.wp P a w (Next c B X w0 F0 k r) Q := by
  rcases hbi with ⟨rfl, rfl, rfl⟩ | ⟨rfl, rfl, rfl⟩
  · refine foldM_sound ho hq rfl (f := minD) (g := Builtin.min2) (fun w G a b z x y ha hb h => min_run ha hb h) (fun x rest v he hr => ?_) hA hI hg Q
    simp [builtin, Builtin.min_, he, hr]
  · refine foldM_sound ho hq rfl (f := maxD) (g := Builtin.max2) (fun w G a b z x y ha hb h => max_run ha hb h) (fun x rest v he hr => ?_) hA hI hg Q
    simp [builtin, Builtin.max_, he, hr]

theorem sound_all (hT : okT P c.T = true) (hS : ∀ f S, look c.S f = some S → Meets c.G P f S) (o : Oper) : Sound P c o := by
  intro A hA B X w0 F0 F O a w δ hI k r hg Q
  have hA0 := hA
  unfold actOf at hA
  split at hA
  case h_1 x ho => exact sound_mv (.inl ho) hA hI hg Q
  case h_2 x ho => exact sound_mv (.inr ho) hA hI hg Q
  case h_3 q x y ho => exact sound_pick ho A hA0 B X w0 F0 F O a w δ hI k r hg Q
  case h_4 t ho => exact sound_alloc hT ho A hA0 B X w0 F0 F O a w δ hI k r hg Q
  case h_5 t x ho => exact sound_box ho A hA0 B X w0 F0 F O a w δ hI k r hg Q
  case h_6 t ps ho => exact sound_build hT ho A hA0 B X w0 F0 F O a w δ hI k r hg Q
  case h_7 t n ps ho => exact sound_buildSlice hT ho A hA0 B X w0 F0 F O a w δ hI k r hg Q
  case h_8 t p ho => exact sound_load hT ho A hA0 B X w0 F0 F O a w δ hI k r hg Q
  case h_9 t p x ho => exact sound_store hT ho A hA0 B X w0 F0 F O a w δ hI k r hg Q
  case h_10 x ho => exact sound_nilCheck ho A hA0 B X w0 F0 F O a w δ hI k r hg Q
  case h_11 op t x y _ ho => exact sound_binOp hT ho A hA0 B X w0 F0 F O a w δ hI k r hg Q
  case h_12 op t x ho => exact sound_unOp ho A hA0 B X w0 F0 F O a w δ hI k r hg Q
  case h_13 s t x ho => exact sound_convert hT ho A hA0 B X w0 F0 F O a w δ hI k r hg Q
  case h_14 f u v ho => exact sound_makeFunc ho A hA0 B X w0 F0 F O a w δ hI k r hg Q
  case h_15 t n m ho => exact sound_makeSlice hT ho A hA0 B X w0 F0 F O a w δ hI k r hg Q
  case h_16 t x lo hi ho =>
    have hA1 := withT_some hA
    clear hA
    obtain ⟨i, hi', hA⟩ := hA1
    have main : ∀ (hsl : i.str = false → isSl i = true), slOf c o.dst i x lo hi = some A → o.wp P a w (Next c B X w0 F0 k r) Q := by
      intro hsl hA
      have hA2 := hA
      unfold slOf at hA2
      split at hA2
      case h_2 => cases hA2
      rename_i q
      split at hA2
      · rename_i lv hk; exact sound_slice_dat hT ho hi' hsl hk hA hI hg Q
      · exact sound_slice_own hT ho hi' hsl hA2 hI hg Q
      · exact sound_slice_own hT ho hi' hsl hA2 hI hg Q
      · cases hA2
    split at hA
    · rename_i h1 h2; exact main (fun _ => h1) hA
    · rename_i h1 h2; exact main (fun h => by rw [h] at h2; cases h2) hA
    · cases hA
  case h_17 t x f ho => exact sound_fieldAddr hT ho A hA0 B X w0 F0 F O a w δ hI k r hg Q
  case h_18 t x f ho => exact sound_field hT ho A hA0 B X w0 F0 F O a w δ hI k r hg Q
  case h_19 t x i ho => exact sound_indexAddr hT ho A hA0 B X w0 F0 F O a w δ hI k r hg Q
  case h_20 t x i ho => exact sound_index hT ho A hA0 B X w0 F0 F O a w δ hI k r hg Q
  case h_21 x i ho => exact sound_extract ho A hA0 B X w0 F0 F O a w δ hI k r hg Q
  case h_22 q ho =>
    unfold caOf at hA
    split at hA
    · rename_i x t hq h1 h2
      have hA1 := withT_some hA
      clear hA
      obtain ⟨i, hi, hA⟩ := hA1
      have eq : q = { callee := .builtin .len, args := #[x], argTypes := #[t] } := by
        obtain ⟨cl, ar, ty⟩ := q
        simp only at hq h1 h2
        subst hq
        congr
        · rw [← Array.toArray_toList (xs := ar), h1]
        · rw [← Array.toArray_toList (xs := ty), h2]
      rw [eq] at ho
      split at hA
      · rename_i g1 g2
        exact lnOf_sound hT ho hi (fun _ => g1) (fun h => by cases h) hA hI hg Q
      · rename_i g1 g2
        exact lnOf_sound hT ho hi (fun h => by cases h) (fun _ => g2) hA hI hg Q
      · cases hA
    · rename_i s x t u hq h1 h2
      split at hA
      case h_2 => cases hA
      rename_i htu
      rw [beq_iff] at htu
      subst htu
      have hA1 := withT_some hA
      clear hA
      obtain ⟨i, hi, hA⟩ := hA1
      have hA1 := withT_some hA
      clear hA
      obtain ⟨e, he, hA⟩ := hA1
      split at hA
      case h_2 => cases hA
      rename_i hsl
      exact sound_append hT ho hq h1 h2 hi he hsl hA hI hg Q
    · rename_i hq; exact sound_minmax ho hq minD Builtin.min2 (.inl ⟨rfl, rfl, rfl⟩) hA hI hg Q
    · rename_i hq; exact sound_minmax ho hq maxD Builtin.max2 (.inr ⟨rfl, rfl, rfl⟩) hA hI hg Q
    · rename_i f hq
      split at hA
      case h_2 => cases hA
      rename_i S hlk
      exact sound_call hS ho hq hlk hA hI hg Q
    · cases hA
  case h_23 => cases hA

/-! ### each act is a function of what it reads -/
def Nt (n : Nat) (f : (List D → Option Out) → Option Out) : Prop := ∃ o : Option (List D), (∀ k, f k = o.bind k) ∧ ∀ l, o = some l → l.length = n
def NatA : Ac → Prop
  | .one _ _ _ => True
  | .many _ hw cw fn => ∀ is, Nt (hw ++ cw).length (fn is)

theorem Nt_ret {n : Nat} {l : List D} (h : l.length = n) : Nt n (fun k => k l) := ⟨some l, fun _ => rfl, fun l' e => by cases e; exact h⟩
theorem Nt_none {n : Nat} : Nt n (fun _ => none) := ⟨none, fun _ => rfl, fun _ e => by cases e⟩
theorem Nt_bind {n : Nat} {X : Option D} {f : D → (List D → Option Out) → Option Out} (h : ∀ y, Nt n (f y)) : Nt n (fun k => X.bind fun y => f y k) := by
  cases X with
  | none => exact Nt_none
  | some y => exact h y
theorem Nt_nth {n : Nat} {is : List D} {i : Nat} {f : D → (List D → Option Out) → Option Out} (h : ∀ y, Nt n (f y)) : Nt n (fun k => nthC is i fun y => f y k) := by
  simp only [nthC_eq]
  exact h _
theorem Nt_goP {n q r : Nat} {is : List D} {f : D → D → List D → (List D → Option Out) → Option Out} (h : ∀ b p is, Nt n (f b p is)) : Nt n (fun k => goP q r is fun b p is => f b p is k) := by
  unfold goP
  cases Nat.beq q r
  · rcases is with _ | ⟨p, _ | ⟨b, is⟩⟩
    · exact Nt_none
    · exact Nt_none
    · exact h _ _ _
  · cases is with
    | nil => exact Nt_none
    | cons b is => exact h _ _ _
theorem Nt_stK {n m : Nat} {chk : Bool} {b p y : D} {f : D → (List D → Option Out) → Option Out} (h : ∀ y, Nt n (f y)) : Nt n (fun k => stK chk m b p y fun b => f b k) := by
  unfold stK
  cases chk
  · exact Nt_bind h
  · exact Nt_bind fun _ => Nt_bind h
theorem Nt_src {n : Nat} {rd : List Nat} {is : List D} {f : D → (List D → Option Out) → Option Out} (h : ∀ y, Nt n (f y)) : Nt n (fun k => srcVal rd is fun y => f y k) := by
  unfold srcVal
  rcases rd with _ | ⟨a, _ | ⟨b, rd⟩⟩
  · exact h _
  · exact Nt_nth h
  · exact Nt_nth fun p => Nt_nth fun x => Nt_bind h
theorem Nt_asm {n : Nat} {ags : List Ag} {is : List D} {f : List D → (List D → Option Out) → Option Out} (h : ∀ y, Nt n (f y)) : Nt n (fun k => asmK [] ags is fun y => f y k) := by
  simp only [asmK_eq, List.nil_append]
  cases asmV ags is with
  | none => exact Nt_none
  | some y => exact h y
theorem Nt_call {n : Nat} {r : Option Out} {f : List D → List D → (List D → Option Out) → Option Out} (h : ∀ y z, Nt n (f y z)) : Nt n (fun k => callK r fun y z => f y z k) := by
  unfold callK
  split
  · exact h _ _
  · exact Nt_none

theorem dataOp_nat {dst : Option Nat} {xs : List Operand} {lv : Nat} {h : List D → Option D} {A : Ac} (hA : dataOp c dst xs lv h = some A) : NatA A := by
  unfold dataOp at hA
  repeat' (split at hA)
  all_goals first | (cases hA; done) | (cases hA; trivial)
theorem lvFit_nat {rd : List Nat} {d lv l : Nat} {h : List D → Option D} {A : Ac} (hA : mapO (fun h => Ac.one rd d h) (lvFit lv l h) = some A) : NatA A := by
  unfold lvFit at hA
  repeat' (split at hA)
  all_goals first | (cases hA; done) | (cases hA; trivial)

theorem mvOf_nat {dst : Option Nat} {x : Operand} {t : Nat} {A : Ac} (hA : mvOf c dst x t = some A) : NatA A := by
  unfold mvOf at hA
  repeat' (split at hA)
  all_goals first
    | (cases hA; done)
    | exact dataOp_nat hA
    | (cases hA; trivial)
    | (cases hA; exact fun is => Nt_nth fun x => Nt_ret rfl)
    | (cases hA; exact fun is => Nt_nth fun p => Nt_nth fun x => Nt_bind fun y => Nt_ret rfl)
    | (cases hA; exact fun is => Nt_ret rfl)
    | (obtain ⟨i, _, hA⟩ := withT_some hA; exact dataOp_nat hA)
theorem ldOf_nat {dst : Option Nat} {i : TI} {p : Operand} {A : Ac} (hA : ldOf c dst i p = some A) : NatA A := by
  unfold ldOf at hA
  repeat' (split at hA)
  all_goals first | (cases hA; done) | exact dataOp_nat hA | exact lvFit_nat hA
theorem stOf_nat {i : TI} {p x : Operand} {A : Ac} (hA : stOf c i p x = some A) : NatA A := by
  have main : ∀ q r lv, stTo c i q r lv x = some A → NatA A := by
    intro q r lv hA
    unfold stTo at hA
    repeat' (split at hA)
    all_goals first
      | (cases hA; done)
      | (cases hA; exact fun is => Nt_goP fun b p is => Nt_nth fun y => Nt_stK fun b => Nt_ret rfl)
      | (cases hA; exact fun is => Nt_goP fun b p is => Nt_stK fun b => Nt_ret rfl)
  unfold stOf at hA
  repeat' (split at hA)
  all_goals first | (cases hA; done) | exact main _ _ _ hA
theorem faOf_nat {dst : Option Nat} {i : TI} {f : Nat} {p : Operand} {A : Ac} (hA : faOf c dst i f p = some A) : NatA A := by
  unfold faOf at hA
  repeat' (split at hA)
  all_goals first | (cases hA; done) | exact dataOp_nat hA | (cases hA; trivial)
theorem iaOf_nat {dst : Option Nat} {i : TI} {x y : Operand} {A : Ac} (hA : iaOf c dst i x y = some A) : NatA A := by
  unfold iaOf at hA
  repeat' (split at hA)
  all_goals first | (cases hA; done) | exact dataOp_nat hA | (cases hA; trivial)
theorem bsOf_nat {dst : Option Nat} {i : TI} {n : Nat} {ps : List (Nat × Operand)} {A : Ac} (hA : bsOf c dst i n ps = some A) : NatA A := by
  unfold bsOf at hA
  simp only at hA
  repeat' (split at hA)
  all_goals first | (cases hA; done) | (cases hA; exact fun is => Nt_bind fun y => Nt_ret rfl)
theorem Nt_chk {n : Nat} {chk : Bool} {b : D} {f : D → (List D → Option Out) → Option Out} (h : ∀ y, Nt n (f y)) : Nt n (fun k => chkK chk b fun b => f b k) := by
  cases chk
  · exact h b
  · exact Nt_bind h
theorem apOf_nat {dst : Option Nat} {i : TI} {x y : Operand} {A : Ac} (hA : apOf c dst i x y = some A) : NatA A := by
  have main : ∀ d chk rs rx os, apTo c d i chk rs rx os = some A → NatA A := by
    intro d chk rs rx os hA
    unfold apTo at hA
    repeat' (split at hA)
    all_goals first
      | (cases hA; done)
      | (cases hA; exact fun is => Nt_src fun a => Nt_src fun b => Nt_chk fun b => Nt_bind fun y => Nt_ret rfl)
      | (cases hA; exact fun is => Nt_src fun b => Nt_chk fun b => Nt_bind fun y => Nt_ret rfl)
  unfold apOf at hA
  repeat' (split at hA)
  all_goals first
    | (cases hA; done)
    | exact main _ _ _ _ _ hA
theorem lnOf_nat {dst : Option Nat} {str : Bool} {x : Operand} {A : Ac} (hA : lnOf c dst str x = some A) : NatA A := by
  unfold lnOf at hA
  repeat' (split at hA)
  all_goals first | (cases hA; done) | exact dataOp_nat hA | (cases hA; trivial)
theorem slOf_nat {dst : Option Nat} {i : TI} {x : Operand} {lo hi : Option Operand} {A : Ac} (hA : slOf c dst i x lo hi = some A) : NatA A := by
  have own : slOwn c dst i x lo hi = some A → NatA A := by
    intro hA
    unfold slOwn at hA
    repeat' (split at hA)
    all_goals first | (cases hA; done) | (cases hA; exact fun is => Nt_src fun a => Nt_bind fun y => Nt_ret rfl)
  unfold slOf at hA
  repeat' (split at hA)
  all_goals first | (cases hA; done) | exact dataOp_nat hA | exact own hA
theorem mkOf_nat {dst : Option Nat} {i e : TI} {x y : Operand} {A : Ac} (hA : mkOf c dst i e x y = some A) : NatA A := by
  unfold mkOf at hA
  repeat' (split at hA)
  all_goals first | (cases hA; done) | (cases hA; exact fun is => Nt_bind fun y => Nt_ret rfl)
theorem bxOf_nat {dst : Option Nat} {i : TI} {x : Operand} {A : Ac} (hA : bxOf c dst i x = some A) : NatA A := by
  unfold bxOf at hA
  repeat' (split at hA)
  all_goals first | (cases hA; done) | (cases hA; exact fun is => Nt_bind fun y => Nt_ret rfl)
theorem alOf_nat {dst : Option Nat} {i : TI} {A : Ac} (hA : alOf c dst i = some A) : NatA A := by
  unfold alOf at hA
  repeat' (split at hA)
  all_goals first | (cases hA; done) | (cases hA; exact fun is => Nt_ret rfl)
theorem exOf_nat {dst : Option Nat} {x : Operand} {i : Nat} {A : Ac} (hA : exOf c dst x i = some A) : NatA A := by
  unfold exOf at hA
  repeat' (split at hA)
  all_goals first | (cases hA; done) | (cases hA; trivial) | (cases hA; exact fun is => Nt_nth fun t => Nt_bind fun y => Nt_ret rfl)
theorem outs_len (us : List D) : ∀ (ios : List Nat) (j : Nat), (clOf.go us j ios).length = ios.length
  | [], _ => rfl
  | _ :: l, j => by simp [clOf.go, outs_len us l]
theorem clOf_nat {dst : Option Nat} {S : FS} {xs : List Operand} {A : Ac} (hA : clOf c dst S xs = some A) : NatA A := by
  unfold clOf at hA
  split at hA
  · cases hA
  simp only at hA
  split at hA
  case h_2 => cases hA
  repeat' (split at hA)
  all_goals first
    | (cases hA; done)
    | (cases hA; exact fun is => Nt_asm fun ds => Nt_call fun rs us => Nt_ret (by simp [clOf.outs, outs_len]))
theorem cvOf_nat {dst : Option Nat} {i j : TI} {x : Operand} {A : Ac} (hA : cvOf c dst i j x = some A) : NatA A := by
  unfold cvOf at hA
  repeat' (split at hA)
  all_goals first | (cases hA; done) | exact dataOp_nat hA | (cases hA; trivial)
theorem ixOf_nat {dst : Option Nat} {i : TI} {x y : Operand} {A : Ac} (hA : ixOf c dst i x y = some A) : NatA A := by
  unfold ixOf at hA
  repeat' (split at hA)
  all_goals first | (cases hA; done) | exact dataOp_nat hA | (obtain ⟨i, _, hA⟩ := withT_some hA; exact dataOp_nat hA)
theorem buOf_nat {dst : Option Nat} {i : TI} {ps : List (Nat × Operand)} {A : Ac} (hA : buOf c dst i ps = some A) : NatA A := by
  unfold buOf at hA
  simp only at hA
  repeat' (split at hA)
  all_goals first | (cases hA; done) | exact dataOp_nat hA
theorem ncOf_nat {dst : Option Nat} {x : Operand} {A : Ac} (hA : ncOf c dst x = some A) : NatA A := by
  unfold ncOf at hA
  repeat' (split at hA)
  all_goals first | (cases hA; done) | exact dataOp_nat hA | (cases hA; trivial)
theorem caOf_nat {dst : Option Nat} {q : Call} {A : Ac} (hA : caOf c dst q = some A) : NatA A := by
  unfold caOf at hA
  split at hA
  · obtain ⟨i, _, hA⟩ := withT_some hA
    split at hA <;> first | exact lnOf_nat hA | cases hA
  · split at hA
    · obtain ⟨i, _, hA⟩ := withT_some hA
      obtain ⟨e, _, hA⟩ := withT_some hA
      split at hA <;> first | exact apOf_nat hA | cases hA
    · cases hA
  · exact dataOp_nat hA
  · exact dataOp_nat hA
  · split at hA <;> first | exact clOf_nat hA | cases hA
  · cases hA

theorem actOf_nat {o : Oper} {A : Ac} (hA : actOf c o = some A) : NatA A := by
  unfold actOf at hA
  split at hA
  case h_1 => exact mvOf_nat hA
  case h_2 => exact mvOf_nat hA
  case h_3 => exact dataOp_nat hA
  case h_4 => obtain ⟨i, _, hA⟩ := withT_some hA; exact alOf_nat hA
  case h_5 => obtain ⟨i, _, hA⟩ := withT_some hA; exact bxOf_nat hA
  case h_6 => obtain ⟨i, _, hA⟩ := withT_some hA; exact buOf_nat hA
  case h_7 =>
    obtain ⟨i, _, hA⟩ := withT_some hA
    obtain ⟨e, _, hA⟩ := withT_some hA
    split at hA <;> first | exact bsOf_nat hA | cases hA
  case h_8 => obtain ⟨i, _, hA⟩ := withT_some hA; exact ldOf_nat hA
  case h_9 =>
    split at hA
    · obtain ⟨i, _, hA⟩ := withT_some hA; exact stOf_nat hA
    · cases hA
  case h_10 => exact ncOf_nat hA
  case h_11 =>
    obtain ⟨i, _, hA⟩ := withT_some hA
    split at hA
    · exact dataOp_nat hA
    · split at hA <;> exact dataOp_nat hA
  case h_12 => exact dataOp_nat hA
  case h_13 =>
    obtain ⟨i, _, hA⟩ := withT_some hA
    obtain ⟨e, _, hA⟩ := withT_some hA
    exact cvOf_nat hA
  case h_14 => split at hA <;> first | exact dataOp_nat hA | cases hA
  case h_15 =>
    obtain ⟨i, _, hA⟩ := withT_some hA
    obtain ⟨e, _, hA⟩ := withT_some hA
    split at hA <;> first | exact mkOf_nat hA | cases hA
  case h_16 =>
    obtain ⟨i, _, hA⟩ := withT_some hA
    split at hA <;> first | exact slOf_nat hA | cases hA
  case h_17 => obtain ⟨i, _, hA⟩ := withT_some hA; exact faOf_nat hA
  case h_18 =>
    obtain ⟨i, _, hA⟩ := withT_some hA
    split at hA <;> first | exact dataOp_nat hA | cases hA
  case h_19 => obtain ⟨i, _, hA⟩ := withT_some hA; exact iaOf_nat hA
  case h_20 => obtain ⟨i, _, hA⟩ := withT_some hA; exact ixOf_nat hA
  case h_21 => exact exOf_nat hA
  case h_22 => exact caOf_nat hA
  case h_23 => cases hA

end
end Go.V
/-
  One step of a region, with its guard; regions in the order of the text.
-/
namespace Go.V
open Go.RowKit

def noRefK : Kd → Bool
  | .via _ => false
  | .ref _ => false
  | _ => true
/-- What is checked of an operation. -/
def okOp (c : Cx) (ops : List Oper) (o : Oper) : Bool :=
  (match o.dst with
    | some d => !isIo (nthK c.K d)
    | none => true) &&
  (match o.guard with
    | none => true
    | some (j, _) => (match gslot ops j with
        | some g => (match nthK c.K g with
          | .dat _ => true
          | _ => false)
        | none => false) &&
      (match actOf c o with
        | some (.one _ d _) => (match o.dst with
          | some d' => Nat.beq d' d
          | none => false)
        | some (.many _ hw cw _) => (hw ++ cw).all (fun s => noRefK (nthK c.K s)) && (match o.dst with
          | some d => memN d hw
          | none => true)
        | none => true))

/-- The roots that belong to the caller keep their values. -/
def IoV (c : Cx) (V : Nat → Value) (a : Act) : Prop := ∀ s, isIo (nthK c.K s) = true → av a s = V s

theorem upon_dst {P : Program} {o : Oper} {a : Act} {next : Act → World → Prop} {Q : Exit → Act → World → Prop} : ∀ {res : Result Go.Next}, o.upon P a next Q res → o.upon P a (fun a' w' => next a' w' ∧ ∀ s, o.dst ≠ some s → av a' s = av a s) Q res := by
  have key : ∀ (df : List Deferred) (v : Value) (s : Nat), o.dst ≠ some s → av (({ a with defers := df } : Act).put o.dst v) s = av a s := by
    intro df v s hs
    cases hd : o.dst with
    | none => rfl
    | some d =>
      have : s ≠ d := fun e => hs (by rw [hd, e])
      exact (av_put_ne this).trans rfl
  have key0 : ∀ (v : Value) (s : Nat), o.dst ≠ some s → av (a.put o.dst v) s = av a s := fun v s hs => key a.defers v s hs
  intro res h
  cases res with
  | ok n w' =>
    cases n <;> simp only [Oper.upon] at h ⊢ <;>
      first
        | exact ⟨h, key0 _⟩
        | exact ⟨h, key _ _⟩
        | exact Calls.mono h (fun e w'' he => by cases e <;> first | exact ⟨he, key0 _⟩ | exact he)
        | exact Rows.mono h (fun _ _ he => ⟨he, key0 _⟩)
  | halt x w' => cases x <;> simp only [Oper.upon] at h ⊢ <;> exact h

section
variable {P : Program} {c : Cx} {B : Nat} {X : Nat → Prop} {w0 : World} {F0 F : Nat → Prop} {O : Nat → Option (Nat × Nat)} {a : Act} {w : World} {δ : List D}

theorem fit_eq : ∀ (ss : List Nat) (l : List D) (j : Nat), j + ss.length = l.length → fit l j ss = l.drop j
  | [], l, j, h => by simp [fit, List.drop_eq_nil_of_le (show l.length ≤ j by simp at h; omega)]
  | s :: ss, l, j, h => by
    simp only [List.length_cons] at h
    have hj : j < l.length := by omega
    simp only [fit]
    rw [fit_eq ss l (j + 1) (by omega), List.drop_eq_getElem_cons hj, nth_eq, List.getD_eq_getElem?_getD, List.getElem?_eq_getElem hj]
    rfl

/-- What an operation that is passed over leaves in the slots that it would have written. -/
def altV (K : List Kd) (dst : Option Nat) (δ : List D) (s : Nat) : D :=
  match dst with
  | some d => if memN s (d :: deps d K 0) then skipD (nthK K s) else nth δ s
  | none => nth δ s
theorem altC_eq (K : List Kd) (dst : Option Nat) (δ : List D) : ∀ (ss : List Nat) (k : List D → Option Out), altC K δ dst ss k = k (ss.map (altV K dst δ))
  | [], k => by simp [altC]
  | s :: ss, k => by
    cases dst with
    | none => simp only [altC, altV, nthC_eq, List.map_cons]; exact altC_eq K none δ ss _
    | some d =>
      simp only [altC, List.map_cons]
      cases h : memN s (d :: deps d K 0)
      · simp only [nthC_eq]
        rw [altC_eq K (some d) δ ss]
        simp only [altV, h, Bool.false_eq_true, if_false]
      · simp only
        rw [altC_eq K (some d) δ ss]
        simp only [altV, h, if_true]

theorem setMany_map (f : Nat → D) : ∀ (ss : List Nat) (δ : List D) (s : Nat), nth (setMany δ ss (ss.map f)) s = if s ∈ ss then (if s < δ.length then f s else .bad) else nth δ s
  | [], δ, s => by simp [setMany]
  | t :: ss, δ, s => by
    simp only [List.map_cons, setMany]
    rw [setMany_map f ss (setAt δ t (f t)) s, len_setAt]
    by_cases hs : s ∈ ss
    · simp [hs]
    · by_cases ht : s = t
      · subst ht
        simp only [hs, if_false, List.mem_cons, true_or, if_true]
        exact nth_setAt_eq _ _ _
      · simp only [hs, if_false, List.mem_cons, ht, or_self]
        exact nth_setAt_ne _ _ _ _ ht

theorem nth_lt {δ : List D} {s : Nat} (h : nth δ s ≠ .bad) : s < δ.length := by
  by_cases hl : s < δ.length
  · exact hl
  · exfalso
    rw [nth_eq, List.getD_eq_getElem?_getD, List.getElem?_eq_none (by omega)] at h
    exact h rfl

/-- What a slot holds behind an operation that is passed over. -/
theorem skip_ok {s : Nat} (hs : s < a.tmps.size) : SlotU c.K B F O (a.put (some s) undef) w s (skipD (nthK c.K s)) := by
  have hav : av (a.put (some s) undef) s = undef := by
    simp [av, Act.put, hs]
  unfold skipD
  split
  · rename_i lv hk
    refine .inr ?_
    simp only [hk]
    refine .inr ?_
    rw [hav]
    exact ⟨rfl, rfl⟩
  · exact .inl rfl

/-- An operation is passed over. -/
theorem Inv.pass_over (h : Inv c B X w0 F0 F O a w δ) {dst : Option Nat} {hw cw : List Nat} (hk : ∀ s ∈ hw ++ cw, noRefK (nthK c.K s) = true) (hd : ∀ d, dst = some d → d ∈ hw) :
    Inv c B X w0 F0 F O (a.put dst undef) w (setMany δ (hw ++ (cw ++ depsAll c.K hw)) ((hw ++ cw).map (altV c.K dst δ))) := by
  have hav : ∀ s, dst ≠ some s → av (a.put dst undef) s = av a s := by
    intro s hs
    cases dst with
    | none => rfl
    | some d => exact av_put_ne fun e => hs (by rw [e])
  have hnd : ∀ s, noRefK (nthK c.K s) = true → ∀ d, s ∉ deps d c.K 0 := fun s hs d hm => by
    rcases deps_kind hm with e | e <;> rw [e] at hs <;> cases hs
  refine h.many (by simp) (by cases dst <;> simp [Act.put]) (by cases dst <;> rfl) (fun s hs => hav s fun e => hs (hd s e)) (fun r hr hn hb => ?_) (fun s hs => ?_) (fun _ hb => hb) (fun _ _ => rfl) (fun _ _ hp _ => ⟨hp, rfl⟩) h.fl h.ol (fun _ hb => .inl hb) (Nat.le_refl _) rfl rfl rfl (fun _ _ _ => rfl)
  · rw [setMany_map, if_pos (List.mem_append_right _ hr), if_pos (nth_lt hb)]
    unfold altV
    split
    · rename_i d
      rw [if_neg]
      · exact hb
      · rw [memN_eq]
        simp only [decide_eq_true_eq, List.mem_cons, not_or]
        exact ⟨fun e => hn (e ▸ hd d rfl), hnd r (hk r (List.mem_append_right _ hr)) d⟩
    · exact hb
  · rw [setMany_map, if_pos hs]
    split
    case isFalse => exact .inl rfl
    rename_i hsl
    have keep : dst ≠ some s → SlotU c.K B F O (a.put dst undef) w s (nth δ s) := by
      intro hne
      rcases h.slot s with hb | hb
      · exact .inl hb
      · refine .inr ?_
        have hks := hk s hs
        rw [hav s hne]
        generalize nthK c.K s = kk at hks hb
        cases kk <;> first | exact hb | cases hks
    unfold altV
    split
    · rename_i d
      split
      · rename_i hm
        rw [memN_eq] at hm
        simp only [decide_eq_true_eq, List.mem_cons] at hm
        rcases hm with rfl | hm
        · exact skip_ok (by rw [h.la, ← h.ld]; exact hsl)
        · rcases deps_kind hm with e | e <;> (rw [e]; exact .inl rfl)
      · rename_i hm
        rw [memN_eq] at hm
        simp only [decide_eq_true_eq, List.mem_cons, not_or] at hm
        exact keep fun e => hm.1 (by cases e; rfl)
    · exact keep (by simp)

/-- What an operation reads; what it writes. -/
def rdS (c : Cx) (ops : List Oper) (o : Oper) : List Nat :=
  match actOf c o with
  | none => []
  | some A => match o.guard with
    | none => rdAc A
    | some (j, _) => match gslot ops j with
      | none => []
      | some g => match A with
        | .one rd _ _ => g :: rd
        | .many rd hw cw _ => g :: (rd ++ (hw ++ cw))
def wrS (c : Cx) (o : Oper) : List Nat :=
  match actOf c o with
  | none => []
  | some (.one _ d _) => d :: deps d c.K 0
  | some (.many _ hw cw _) => hw ++ (cw ++ depsAll c.K hw)

theorem getAll_congr {δ δ' : List D} : ∀ {ss : List Nat}, (∀ s ∈ ss, nth δ s = nth δ' s) → getAll δ ss = getAll δ' ss
  | [], _ => rfl
  | s :: ss, h => by
    simp only [getAll]
    rw [h s (by simp), getAll_congr fun t ht => h t (by simp [ht])]

theorem getAll_at {δ δ' : List D} : ∀ {ss : List Nat}, getAll δ ss = getAll δ' ss → ∀ s ∈ ss, nth δ s = nth δ' s
  | t :: ss, h, s, hs => by
    simp only [getAll, List.cons.injEq] at h
    rcases List.mem_cons.1 hs with rfl | hs
    · exact h.1
    · exact getAll_at h.2 s hs

/-- A step: what it writes is a function of what it reads. -/
theorem step_form (c : Cx) (ops : List Oper) (o : Oper) : ∃ φ : List D → Option (List D), (∀ δ k, stepK c ops o δ k = (φ δ).bind fun l => k (setMany δ (wrS c o) l)) ∧ ∀ δ δ', getAll δ (rdS c ops o) = getAll δ' (rdS c ops o) → φ δ = φ δ' := by
  unfold stepK rdS wrS
  cases hA : actOf c o with
  | none => exact ⟨fun _ => none, fun _ _ => rfl, fun _ _ _ => rfl⟩
  | some A =>
    have hn := actOf_nat hA
    cases hgd : o.guard with
    | none =>
      cases A with
      | one rd d h =>
        refine ⟨fun δ => (h (getAll δ rd)).map fun z => [z], fun δ k => ?_, fun δ δ' e => by simp only [rdAc] at e; simp only [e]⟩
        simp only [getC_eq]
        cases h (getAll δ rd) with
        | none => rfl
        | some z => exact setManyC_eq _ _ _ _
      | many rd hw cw fn =>
        refine ⟨fun δ => Classical.choose (hn (getAll δ rd)), fun δ k => ?_, fun δ δ' e => by simp only [rdAc] at e; simp only [e]⟩
        simp only [getC_eq, setManyC_eq, app_eq]
        exact (Classical.choose_spec (hn (getAll δ rd))).1 _
    | some jp =>
      obtain ⟨j, pol⟩ := jp
      simp only
      cases hg : gslot ops j with
      | none => exact ⟨fun _ => none, fun _ _ => rfl, fun _ _ _ => rfl⟩
      | some g =>
        cases A with
        | one rd d h =>
          refine ⟨fun δ => (gate (skipD (nthK c.K d)) (nth δ g) pol (h (getAll δ rd))).map fun z => [z], fun δ k => ?_, fun δ δ' e => by simp only [getAll, List.cons.injEq] at e; simp only [e.1, e.2]⟩
          simp only [getC_eq, nthC_eq]
          cases gate (skipD (nthK c.K d)) (nth δ g) pol (h (getAll δ rd)) with
          | none => rfl
          | some z => exact setManyC_eq _ _ _ _
        | many rd hw cw fn =>
          refine ⟨fun δ => match nth δ g with
            | .v (.bool b) => if b = pol then Classical.choose (hn (getAll δ rd)) else some ((hw ++ cw).map (altV c.K o.dst δ))
            | .tup _ => some ((hw ++ cw).map (altV c.K o.dst δ))
            | _ => none, fun δ k => ?_, fun δ δ' e => ?_⟩
          · simp only [getC_eq, setManyC_eq, nthC_eq, app_eq, altC_eq]
            unfold gateC
            split
            · rename_i b hb
              rw [hb]
              simp only
              split
              · obtain ⟨h1, h2⟩ := Classical.choose_spec (hn (getAll δ rd))
                rw [h1]
                cases hc : Classical.choose (hn (getAll δ rd)) with
                | none => rfl
                | some l =>
                  have hl := h2 l hc
                  simp only [Option.bind_some]
                  rw [fit_eq _ l 0 (by omega), List.drop_zero, fit_eq _ l 0 (by omega), List.drop_zero]
              · simp only [Option.bind_some]
                rw [fit_eq _ _ 0 (by simp), List.drop_zero]
            · rename_i l hb
              rw [hb]
              simp only [Option.bind_some]
              rw [fit_eq _ _ 0 (by simp), List.drop_zero]
            · rename_i hb hb'
              split
              · rename_i b hb2; exact absurd hb2 (hb b)
              · rename_i l hb2; exact absurd hb2 (hb' l)
              · rfl
          · simp only [getAll, List.cons.injEq, getAll_append] at e
            have e2 := List.append_inj e.2 (by rw [getAll_len, getAll_len])
            have e3 : ∀ s ∈ hw ++ cw, nth δ s = nth δ' s := getAll_at (by rw [getAll_append, getAll_append]; exact e2.2)
            have e4 : (hw ++ cw).map (altV c.K o.dst δ) = (hw ++ cw).map (altV c.K o.dst δ') := by
              refine List.map_congr_left fun s hs => ?_
              unfold altV
              rw [e3 s hs]
            simp only [e.1, e2.1, e4]

/-- A step of a region. -/
def NextV (c : Cx) (B : Nat) (X : Nat → Prop) (w0 : World) (F0 : Nat → Prop) (V : Nat → Value) (k : List D → Option Out) (r : Out) (a : Act) (w : World) : Prop :=
  Next c B X w0 F0 k r a w ∧ IoV c V a

theorem step_sound (hT : okT P c.T = true) (hS : ∀ f S, look c.S f = some S → Meets c.G P f S) {ops : Array Oper} {o : Oper} (hok : okOp c ops.toList o = true) {V : Nat → Value} (hI : Inv c B X w0 F0 F O a w δ) (hV : IoV c V a) {k : List D → Option Out} {r : Out}
    (hg : stepK c ops.toList o δ k = some r) (Q : Exit → Act → World → Prop) :
    if Region.wanted o (yielded ops a.tmps) then o.wp P a w (NextV c B X w0 F0 V k r) Q else NextV c B X w0 F0 V k r (a.put o.dst undef) w := by
  unfold okOp at hok
  simp only [Bool.and_eq_true] at hok
  obtain ⟨hdst, hgd⟩ := hok
  have hio : ∀ s, isIo (nthK c.K s) = true → o.dst ≠ some s := fun s hs e => by
    rw [e] at hdst
    simp only at hdst
    rw [hs] at hdst
    cases hdst
  have lift : ∀ (A : Ac), actOf c o = some A → goAc c A δ k = some r → o.wp P a w (NextV c B X w0 F0 V k r) Q := by
    intro A hA hgo
    have h := sound_all hT hS o A hA B X w0 F0 F O a w δ hI k r hgo Q
    unfold Oper.wp at h ⊢
    refine Oper.wp_mono (P := P) (o := o) (a := a) (w := w) (K := fun a' w' => Next c B X w0 F0 k r a' w' ∧ ∀ s, o.dst ≠ some s → av a' s = av a s) (fun a' w' hn => ⟨hn.1, fun s hs => (hn.2 s (hio s hs)).trans (hV s hs)⟩) ?_
    exact upon_dst h
  have skipV : IoV c V (a.put o.dst undef) := by
    intro s hs
    cases hd : o.dst with
    | none => exact hV s hs
    | some d => exact (av_put_ne (fun e => hio s hs (by rw [hd, e]))).trans (hV s hs)
  unfold stepK at hg
  cases hA : actOf c o with
  | none => rw [hA] at hg; cases hg
  | some A =>
    rw [hA] at hg
    simp only at hg
    cases hgu : o.guard with
    | none =>
      rw [hgu] at hg
      rw [if_pos (by simp [Region.wanted, hgu])]
      refine lift A hA ?_
      cases A with
      | one rd d h =>
        simp only [getC_eq] at hg
        obtain ⟨z, h1, h2⟩ := Option.bind_eq_some_iff.1 hg
        rw [setManyC_eq] at h2
        simp only [goAc, h1, Option.bind_some]
        exact h2
      | many rd hw cw fn =>
        simp only [getC_eq, setManyC_eq, app_eq] at hg
        exact hg
    | some jp =>
      obtain ⟨j, pol⟩ := jp
      rw [hgu] at hg
      rw [hgu, hA] at hgd
      simp only [Bool.and_eq_true] at hgd
      simp only at hg
      cases hgs : gslot ops.toList j with
      | none => rw [hgs] at hg; cases hg
      | some g =>
        rw [hgs] at hg hgd
        simp only at hgd
        obtain ⟨hkd, hck⟩ := hgd
        have hyield : ∀ b, nth δ g = .v (.bool b) → yielded ops a.tmps j = some b := by
          intro b hb
          obtain ⟨lv, hk⟩ : ∃ lv, nthK c.K g = .dat lv := by
            split at hkd
            · exact ⟨_, ‹_›⟩
            · cases hkd
          have hr := hI.dat hk
          rw [hb] at hr
          obtain ⟨hv, _⟩ := RepB_v hr
          have hlt : g < a.tmps.size := by
            rw [hI.la, ← hI.ld]
            exact nth_lt (by rw [hb]; simp)
          have hg1 : a.tmps[g]? = some (.bool b) := by
            rw [av, Array.getD_eq_getD_getElem?, Array.getElem?_eq_getElem hlt] at hv
            rw [Array.getElem?_eq_getElem hlt]
            simpa using hv
          unfold gslot at hgs
          rw [nthO_eq, Array.getElem?_toList] at hgs
          unfold yielded
          cases ho : ops[j]? with
          | none => rw [ho] at hgs; cases hgs
          | some oj =>
            rw [ho] at hgs
            simp only at hgs
            simp [hgs, hg1]
        have hyT : ∀ l, nth δ g = .tup l → yielded ops a.tmps j = none := by
          intro l hb
          obtain ⟨lv, hk⟩ : ∃ lv, nthK c.K g = .dat lv := by
            split at hkd
            · exact ⟨_, ‹_›⟩
            · cases hkd
          have hr := hI.dat hk
          rw [hb] at hr
          have hv : av a g = .tuple #[] := (hr.rep (by simp)).2
          unfold yielded
          rw [gslot, nthO_eq, Array.getElem?_toList] at hgs
          cases ho : ops[j]? with
          | none => simp
          | some oj =>
            rw [ho] at hgs
            simp only at hgs
            simp only [Option.bind_some, hgs]
            cases hx : a.tmps[g]? with
            | none => rfl
            | some x =>
              have : x = .tuple #[] := by
                rw [← hv, av, Array.getD_eq_getD_getElem?, hx]
                rfl
              subst this
              rfl
        cases A with
        | one rd d h =>
          simp only [nthC_eq, getC_eq] at hg
          obtain ⟨z, h1, h2⟩ := Option.bind_eq_some_iff.1 hg
          rw [setManyC_eq] at h2
          unfold gate at h1
          have skip : z = skipD (nthK c.K d) → NextV c B X w0 F0 V k r (a.put o.dst undef) w := by
            rintro rfl
            refine ⟨⟨F, O, _, ?_, h2⟩, skipV⟩
            simp only at hck
            split at hck
            · rename_i d' hd'
              rw [beq_iff] at hck
              subst hck
              rw [hd']
              refine hI.put ?_
              unfold skipD PutOk
              split
              · rename_i hkk
                refine .inr ?_
                rw [hkk]
                exact ⟨rfl, rfl⟩
              · exact .inl rfl
            · cases hck
          split at h1
          case h_3 => cases h1
          case h_2 =>
            rename_i l hb
            have hy := hyT l hb
            rw [if_neg (by simp [Region.wanted, hgu, hy])]
            exact skip (by cases h1; rfl)
          rename_i b hb
          have hy := hyield b hb
          split at h1
          · rename_i hbp
            rw [if_pos (by simp [Region.wanted, hgu, hy, hbp])]
            exact lift _ hA (by simp only [goAc, h1, Option.bind_some]; exact h2)
          · rename_i hbp
            rw [if_neg (by simp [Region.wanted, hgu, hy, hbp])]
            exact skip (by cases h1; rfl)
        | many rd hw cw fn =>
          simp only [nthC_eq, getC_eq, altC_eq, app_eq, setManyC_eq] at hg
          unfold gateC at hg
          have skip : k (setMany δ (hw ++ (cw ++ depsAll c.K hw)) (fit ((hw ++ cw).map (altV c.K o.dst δ)) 0 (hw ++ cw))) = some r → NextV c B X w0 F0 V k r (a.put o.dst undef) w := by
            intro hg
            rw [fit_eq _ _ 0 (by simp), List.drop_zero] at hg
            simp only [Bool.and_eq_true, List.all_eq_true] at hck
            refine ⟨⟨F, O, _, hI.pass_over hck.1 (fun d hd => ?_), hg⟩, skipV⟩
            have h3 := hck.2
            rw [hd] at h3
            simp only [memN_eq, decide_eq_true_eq] at h3
            exact h3
          split at hg
          case h_3 => cases hg
          case h_2 =>
            rename_i l hb
            have hy := hyT l hb
            rw [if_neg (by simp [Region.wanted, hgu, hy])]
            exact skip hg
          rename_i b hb
          have hy := hyield b hb
          obtain ⟨φ, hφ, hlen⟩ := actOf_nat hA (getAll δ rd)
          split at hg
          · rename_i hbp
            rw [if_pos (by simp [Region.wanted, hgu, hy, hbp])]
            refine lift _ hA ?_
            simp only [goAc]
            rw [hφ] at hg ⊢
            cases hp : φ with
            | none => rw [hp] at hg; cases hg
            | some l =>
              rw [hp] at hg
              have hl := hlen l hp
              simp only [Option.bind_some] at hg ⊢
              rw [fit_eq _ l 0 (by omega), List.drop_zero, fit_eq _ l 0 (by omega), List.drop_zero] at hg
              exact hg
          · rename_i hbp
            rw [if_neg (by simp [Region.wanted, hgu, hy, hbp])]
            exact skip hg

/-- A region in the order of its text. -/
theorem list_sound (hT : okT P c.T = true) (hS : ∀ f S, look c.S f = some S → Meets c.G P f S) {ops : Array Oper} {V : Nat → Value} {Q : Exit → Act → World → Prop} {k : List D → Option Out} {r : Out} (hQ : ∀ a w, NextV c B X w0 F0 V k r a w → Q .normal a w) :
    ∀ (l : List Oper), (∀ o ∈ l, okOp c ops.toList o = true) → ∀ (F : Nat → Prop) (O : Nat → Option (Nat × Nat)) (a : Act) (w : World) (δ : List D), Inv c B X w0 F0 F O a w δ → IoV c V a → runOps c ops.toList l δ k = some r → wpList P ops Q l a w
  | [], _, F, O, a, w, δ, hI, hV, hg => hQ a w ⟨⟨F, O, δ, hI, hg⟩, hV⟩
  | o :: l, hok, F, O, a, w, δ, hI, hV, hg => by
    simp only [runOps] at hg
    have h := step_sound hT hS (hok o (by simp)) hI hV hg Q
    have ih : ∀ a w, NextV c B X w0 F0 V (fun δ' => runOps c ops.toList l δ' k) r a w → wpList P ops Q l a w := by
      rintro a w ⟨⟨F', O', δ', hI', hk'⟩, hV'⟩
      exact list_sound hT hS hQ l (fun o' ho' => hok o' (by simp [ho'])) F' O' a w δ' hI' hV' hk'
    unfold wpList
    split
    · rename_i hw
      rw [if_pos hw] at h
      exact .inl (Oper.wp_mono ih h)
    · rename_i hw
      rw [if_neg hw] at h
      exact ih _ _ h

end
end Go.V
/-
  Code keeps the invariant.
-/
namespace Go.V
open Go.RowKit

def apartL (x y : List Nat) : Bool := x.all fun s => !memN s y
/-- Two operations that may change places. -/
def indep0 (c : Cx) (ops : List Oper) (x y : Oper) : Bool := apartL (rdS c ops x) (wrS c y) && apartL (wrS c x) (rdS c ops y) && apartL (wrS c x) (wrS c y)
/-- A copy of an owner beside a store into what is owned. -/
def lvPair (c : Cx) (x y : Oper) : Bool :=
  match x.guard, y.guard, x.op, x.dst, y.op, y.dst with
  | none, none, .move (.tmp t), some d, .store _ (.tmp q) (.tmp s), none =>
    (match nthK c.K t, nthK c.K d, nthK c.K q, nthK c.K s with
      | .own _ _ _, .via r, .ref r', .dat _ => Nat.beq r t && Nat.beq r' t && !Nat.beq q t && apartL (d :: deps d c.K 0) [q, t, s]
      | _, _, _, _ => false)
  | _, _, _, _, _, _ => false
/-- A call that writes what a box holds, and behind it (in the text) a copy of the box's pointer. -/
def mvCall (c : Cx) (x y : Oper) : Bool :=
  match x.guard, y.guard, x.op, y.op, y.dst with
  | none, none, .call q, .move (.tmp t), some d =>
    (match nthK c.K t, nthK c.K d, q.callee with
      | .box _ _ _, .ref r', .value (.func f) => (match look c.S f with
        | some S => (match agsOf c.K q.args.toList S.pm with
          | some ags => Nat.beq r' t && memN t (agIo ags)
          | none => false)
        | none => false)
      | _, _, _ => false)
  | _, _, _, _, _ => false
def mvPair (c : Cx) (ops : List Oper) (x y : Oper) : Bool := mvCall c x y && apartL (rdS c ops x) (wrS c y) && apartL (wrS c x) (wrS c y)
def indep (c : Cx) (ops : List Oper) (x y : Oper) : Bool := indep0 c ops x y || lvPair c x y || lvPair c y x || mvPair c ops x y
/-- Is operation j behind o by a chain of edges? -/
def bef (ops : List Oper) (j : Nat) : Nat → Oper → Bool
  | 0, _ => false
  | n + 1, o => o.after.toList.any fun e => Region.binds .any e && (Nat.beq e.on j || match nthO ops e.on with
    | some q => bef ops j n q
    | none => false)
/-- May the operations of a region be taken in any order that their edges allow? -/
def okAny (c : Cx) (ops : List Oper) : Bool :=
  ops.zipIdx.all fun p => (p.1.after.toList.all fun e => !Region.binds .any e || decide (e.on < p.2)) && (ops.take p.2).zipIdx.all fun q => indep c ops q.1 p.1 || bef ops q.2 3 p.1

/-- Slots that are kept round a loop: a copy or a place only with its owner. -/
def okLive (K : List Kd) (hl : List Nat) : Bool :=
  hl.all fun s => match nthK K s with
    | .via r => memN r hl
    | .ref r => memN r hl
    | _ => true

def okCode (c : Cx) : Nat → Code → Bool
  | _, .skip => true
  | _, .region _ ops d => ops.toList.all (okOp c ops.toList) && (!d || okAny c ops.toList)
  | b, .seq x y => okCode c b x && okCode c b y
  | b, .cond x t e => Nat.ble (lvOf c.K x) 2 && okCode c b t && okCode c b e
  | _, .block id x => okCode c id x
  | b, .loop x => okCode c b x && (match look c.H b with
    | some (hl, xl) => okLive c.K hl && okLive c.K xl
    | none => false)
  | _, .exit _ => true
  | _, .ret => true
  | _, _ => false

section
variable {P : Program} {c : Cx} {B : Nat} {X : Nat → Prop} {w0 : World} {F0 F : Nat → Prop} {O : Nat → Option (Nat × Nat)} {a : Act} {w : World} {δ : List D}

/-- What is known where a piece of code ends. -/
def retK (c : Cx) (δ : List D) (k : Out → Option Out) : Option Out := resC c δ c.res fun rs => getC δ c.ios fun us => usK us (k (.ret rs us))
def Post (c : Cx) (B : Nat) (X : Nat → Prop) (w0 : World) (F0 : Nat → Prop) (V : Nat → Value) (k : Out → Option Out) (r : Out) : Exit → Act → World → Prop
  | .normal, a, w => NextV c B X w0 F0 V (fun δ => k (.nrm δ)) r a w
  | .exit id, a, w => NextV c B X w0 F0 V (fun δ => k (.ext id δ)) r a w
  | .ret, a, w => NextV c B X w0 F0 V (fun δ => retK c δ k) r a w
  | _, _, _ => False

theorem apartL_ok {x y : List Nat} (h : apartL x y = true) : ∀ s ∈ x, s ∉ y := by
  intro s hs
  unfold apartL at h
  rw [List.all_eq_true] at h
  simpa [memN_eq] using h s hs

theorem nth_ext {δ δ' : List D} (h : δ.length = δ'.length) (hn : ∀ s, nth δ s = nth δ' s) : δ = δ' := by
  refine List.ext_getElem h fun i h1 h2 => ?_
  have := hn i
  rw [nth_eq, nth_eq, List.getD_eq_getElem?_getD, List.getD_eq_getElem?_getD, List.getElem?_eq_getElem h1, List.getElem?_eq_getElem h2] at this
  exact this

theorem setMany_same : ∀ (ss : List Nat) (l δ δ' : List D), δ.length = δ'.length → ∀ s ∈ ss, nth (setMany δ ss l) s = nth (setMany δ' ss l) s
  | t :: ss, l, δ, δ', hl, s, hs => by
    cases l with
    | nil => rw [nth_kill _ _ _ hs, nth_kill _ _ _ hs]
    | cons d l =>
      simp only [setMany]
      by_cases hm : s ∈ ss
      · exact setMany_same ss l _ _ (by rw [len_setAt, len_setAt, hl]) s hm
      · have : s = t := by simpa [hm] using hs
        subst this
        rw [nth_setMany_notin _ _ _ _ hm, nth_setMany_notin _ _ _ _ hm, nth_setAt_eq, nth_setAt_eq, hl]

theorem setMany_swap {A C : List Nat} {l m δ : List D} (h : ∀ s ∈ A, s ∉ C) : setMany (setMany δ A l) C m = setMany (setMany δ C m) A l := by
  refine nth_ext (by simp only [len_setMany]) fun s => ?_
  by_cases hA : s ∈ A
  · rw [nth_setMany_notin _ _ _ _ (h s hA)]
    exact setMany_same A l _ _ (by rw [len_setMany]) s hA
  · by_cases hC : s ∈ C
    · rw [nth_setMany_notin A _ _ _ hA]
      exact (setMany_same C m _ _ (by rw [len_setMany]) s hC)
    · rw [nth_setMany_notin _ _ _ _ hC, nth_setMany_notin _ _ _ _ hA, nth_setMany_notin _ _ _ _ hA, nth_setMany_notin _ _ _ _ hC]

theorem stD_live {n : Nat} {o p x z : D} (h : stD n o p x = some z) : o ≠ .bad ∧ z ≠ .bad := by
  unfold stD at h
  split at h
  · split at h
    · split at h
      · cases h; exact ⟨by simp, by simp⟩
      · cases h
    · cases h
  · split at h
    · cases h; exact ⟨by simp, by simp⟩
    · cases h
  · cases h
theorem stK_live (chk : Bool) (n : Nat) (b p y : D) : ∃ E : Option D, (∀ k : D → Option Out, stK chk n b p y k = E.bind k) ∧ ∀ z, E = some z → b ≠ .bad ∧ z ≠ .bad := by
  cases chk
  · exact ⟨stD n b p y, fun _ => rfl, fun z hz => stD_live hz⟩
  · refine ⟨(chkV y).bind fun y => stD n b p y, fun k => by simp only [stK, Option.bind_assoc], fun z hz => ?_⟩
    obtain ⟨y', _, h⟩ := Option.bind_eq_some_iff.1 hz
    exact stD_live h
theorem lv_swap {ops : List Oper} {x y : Oper} (h : lvPair c x y = true) (δ : List D) (k : List D → Option Out) : stepK c ops x δ (fun δ => stepK c ops y δ k) = stepK c ops y δ (fun δ => stepK c ops x δ k) := by
  unfold lvPair at h
  split at h
  case h_2 => cases h
  rename_i t d ty q s hxg hyg hxo hxd hyo hyd
  split at h
  case h_2 => cases h
  rename_i z lv io r0 r lv' hkt hkd hkq hks
  simp only [Bool.and_eq_true, Bool.not_eq_true'] at h
  obtain ⟨⟨⟨h1, h2⟩, h3⟩, h4⟩ := h
  have e1 := beq_iff.1 h1
  have e2 := beq_iff.1 h2
  subst e1
  subst e2
  have hx : ∀ (δ : List D) (k : List D → Option Out), stepK c ops x δ k = (liveD (nth δ r) (.ref 0 0)).bind fun z => k (setMany δ (d :: deps d c.K 0) [z]) := by
    intro δ k
    have hA : actOf c x = some (.one [r] d fun is => (arg1 fun x => liveD x (.ref 0 0)) is) := by
      simp only [actOf, hxo, hxd, mvOf, hkt, hkd, Nat.beq_refl]
    simp only [stepK, hA, hxg]
    rw [getC_eq]
    show (liveD (nth δ r) (.ref 0 0)).bind (fun z => setManyC δ (d :: deps d c.K 0) [z] k) = _
    exact congrArg _ (funext fun z => setManyC_eq _ _ _ _)
  have hy : ∃ E : D → D → D → Option D, (∀ (δ : List D) (k : List D → Option Out), stepK c ops y δ k = (E (nth δ r) (nth δ q) (nth δ s)).bind fun b => k (setMany δ [r] [b])) ∧ ∀ a b e z, E a b e = some z → a ≠ .bad ∧ z ≠ .bad := by
    cases hT : look c.T ty with
    | none =>
      refine ⟨fun _ _ _ => none, fun δ k => ?_, fun _ _ _ _ h => by cases h⟩
      have hA : actOf c y = none := by simp only [actOf, hyo, hyd, withT, hT]
      simp only [stepK, hA]
      rfl
    | some i =>
      have act : ∀ chk : Bool, actOf c y = some (.many [q, r, s] [] [r] fun is k => goP q r is fun b p is => nthC is 0 fun y => stK chk i.n b p y fun b => k [b]) →
          ∃ E : D → D → D → Option D, (∀ (δ : List D) (k : List D → Option Out), stepK c ops y δ k = (E (nth δ r) (nth δ q) (nth δ s)).bind fun b => k (setMany δ [r] [b])) ∧ ∀ a b e z, E a b e = some z → a ≠ .bad ∧ z ≠ .bad := by
        intro chk hA
        refine ⟨fun a b e => Classical.choose (stK_live chk i.n a b e), fun δ k => ?_, fun a b e z h => (Classical.choose_spec (stK_live chk i.n a b e)).2 z h⟩
        simp only [stepK, hA, hyg]
        rw [getC_eq]
        simp only [goP, h3, getAll]
        show stK chk i.n (nth δ r) (nth δ q) (nth δ s) (fun b => setManyC δ [r] [b] k) = _
        rw [(Classical.choose_spec (stK_live chk i.n (nth δ r) (nth δ q) (nth δ s))).1]
        exact congrArg _ (funext fun b => setManyC_eq _ _ _ _)
      have hst : actOf c y = stTo c i q r (rootLv c.K r) (.tmp s) := by
        simp only [actOf, hyo, hyd, withT, hT, stOf, hkq]
      unfold stTo at hst
      simp only [hks] at hst
      split at hst
      · exact act false (by rw [hst]; simp only [rdP, h3])
      · exact act true (by rw [hst]; simp only [rdP, h3])
      · refine ⟨fun _ _ _ => none, fun δ k => ?_, fun _ _ _ _ h => by cases h⟩
        simp only [stepK, hst]
        rfl
  obtain ⟨E, hE, hEl⟩ := hy
  have ap := fun s hs => apartL_ok h4 s hs
  have hnq : ∀ m : List D, ∀ v ∈ [q, r, s], nth (setMany δ (d :: deps d c.K 0) m) v = nth δ v := fun m v hv => nth_setMany_notin _ _ _ _ fun hm => ap v hm hv
  simp only [hx, hE, hnq _ q (by simp), hnq _ r (by simp), hnq _ s (by simp)]
  cases hb : E (nth δ r) (nth δ q) (nth δ s) with
  | none => cases liveD (nth δ r) (.ref 0 0) <;> rfl
  | some b =>
    obtain ⟨g1, g2⟩ := hEl _ _ _ _ hb
    have hlive : ∀ a : D, a ≠ .bad → liveD a (.ref 0 0) = some (.ref 0 0) := fun a ha => by cases a <;> first | exact absurd rfl ha | rfl
    have hr : nth (setMany δ [r] [b]) r = b := by
      simp only [setMany]
      rw [nth_setAt_eq, if_pos]
      by_cases hl : r < δ.length
      · exact hl
      · exfalso
        rw [nth_eq, List.getD_eq_getElem?_getD, List.getElem?_eq_none (by omega)] at g1
        exact g1 rfl
    simp only [hlive _ g1, hr, hlive _ g2, Option.bind_some]
    rw [setMany_swap (A := d :: deps d c.K 0) (C := [r])]
    intro v hv hv'
    exact ap v hv (by simp at hv'; simp [hv'])

theorem step_swap0 {ops : List Oper} {x y : Oper} (h : indep0 c ops x y = true) (δ : List D) (k : List D → Option Out) : stepK c ops x δ (fun δ => stepK c ops y δ k) = stepK c ops y δ (fun δ => stepK c ops x δ k) := by
  unfold indep0 at h
  simp only [Bool.and_eq_true] at h
  obtain ⟨⟨h1, h2⟩, h3⟩ := h
  obtain ⟨φ, hφ, hφr⟩ := step_form c ops x
  obtain ⟨ψ, hψ, hψr⟩ := step_form c ops y
  have e1 : ∀ l, ψ (setMany δ (wrS c x) l) = ψ δ := fun l => hψr _ _ (getAll_congr fun s hs => nth_setMany_notin _ _ _ _ fun hm => apartL_ok h2 s hm hs)
  have e2 : ∀ l, φ (setMany δ (wrS c y) l) = φ δ := fun l => hφr _ _ (getAll_congr fun s hs => nth_setMany_notin _ _ _ _ (apartL_ok h1 s hs))
  simp only [hφ, hψ, e1, e2]
  cases φ δ with
  | none => cases ψ δ <;> rfl
  | some l =>
    cases ψ δ with
    | none => rfl
    | some m =>
      simp only [Option.bind_some]
      rw [setMany_swap (apartL_ok h3)]

theorem asmV_live {δ : List D} : ∀ (ags : List Ag) (ds : List D), asmV ags (getAll δ (agRd ags)) = some ds → ∀ t ∈ agIo ags, nth δ t ≠ .bad
  | [], _, _, t, ht => by simp [agIo] at ht
  | .d x chk :: l, ds, h, t, ht => by
    have ih := asmV_live (δ := δ) l
    simp only [agIo] at ht
    cases x with
    | tmp u =>
      simp only [getAll] at h
      cases chk
      · simp only [asmV] at h
        obtain ⟨z, hz, _⟩ := Option.map_eq_some_iff.1 h
        exact ih z hz t ht
      · simp only [asmV] at h
        obtain ⟨i, _, h⟩ := Option.bind_eq_some_iff.1 h
        obtain ⟨z, hz, _⟩ := Option.map_eq_some_iff.1 h
        exact ih z hz t ht
    | const v =>
      simp only [asmV] at h
      obtain ⟨z, hz, _⟩ := Option.map_eq_some_iff.1 h
      exact ih z hz t ht
    | func f =>
      simp only [asmV] at h
      obtain ⟨z, hz, _⟩ := Option.map_eq_some_iff.1 h
      exact ih z hz t ht
    | global g => simp [asmV] at h
  | .bor u r :: l, ds, h, t, ht => by
    have ih := asmV_live (δ := δ) l
    simp only [agIo] at ht
    cases hb : Nat.beq u r
    · simp only [agRd, hb, getAll, asmV] at h
      obtain ⟨i, _, h⟩ := Option.bind_eq_some_iff.1 h
      obtain ⟨z, hz, _⟩ := Option.map_eq_some_iff.1 h
      exact ih z hz t ht
    · simp only [agRd, hb, getAll, asmV] at h
      obtain ⟨z, hz, _⟩ := Option.map_eq_some_iff.1 h
      exact ih z hz t ht
  | .io u r :: l, ds, h, t, ht => by
    have ih := asmV_live (δ := δ) l
    simp only [agIo, List.mem_cons] at ht
    have lv : ∀ x y z : D, liveD x y = some z → x ≠ .bad := fun x y z hz e => by subst e; cases hz
    cases hb : Nat.beq u r
    · simp only [agRd, hb, getAll, asmV] at h
      obtain ⟨i, hi, h⟩ := Option.bind_eq_some_iff.1 h
      obtain ⟨i', hi', h⟩ := Option.bind_eq_some_iff.1 h
      obtain ⟨z, hz, _⟩ := Option.map_eq_some_iff.1 h
      have e : i = nth δ r := by
        unfold ref0 at hi
        split at hi
        · exact (Option.some.inj hi).symm
        · cases hi
      rcases ht with rfl | ht
      · rw [← e]; exact lv _ _ _ hi'
      · exact ih z hz t ht
    · simp only [agRd, hb, getAll, asmV] at h
      obtain ⟨i', hi', h⟩ := Option.bind_eq_some_iff.1 h
      obtain ⟨z, hz, _⟩ := Option.map_eq_some_iff.1 h
      have e := beq_iff.1 hb
      rcases ht with rfl | ht
      · rw [← e]; exact lv _ _ _ hi'
      · exact ih z hz t ht

theorem mv_swap {ops : List Oper} {x y : Oper} (h : mvPair c ops x y = true) (δ : List D) (k : List D → Option Out) (r : Out) (hs : stepK c ops x δ (fun δ => stepK c ops y δ k) = some r) : stepK c ops y δ (fun δ => stepK c ops x δ k) = some r := by
  unfold mvPair at h
  simp only [Bool.and_eq_true] at h
  obtain ⟨⟨h1, h2⟩, h3⟩ := h
  unfold mvCall at h1
  split at h1
  case h_2 => cases h1
  rename_i q t d hxg hyg hxo hyo hyd
  split at h1
  case h_2 => cases h1
  rename_i n lv io r' f hkt hkd hqc
  split at h1
  case h_2 => cases h1
  rename_i S hS
  split at h1
  case h_2 => cases h1
  rename_i ags hags
  simp only [Bool.and_eq_true] at h1
  obtain ⟨h4, h5⟩ := h1
  have e4 := beq_iff.1 h4
  subst e4
  have hyA : actOf c y = some (.one [r'] d fun is => (arg1 fun x => liveD x (.ref 0 0)) is) := by
    simp only [actOf, hyo, hyd, mvOf, hkt, hkd, Nat.beq_refl]
  have hw : wrS c y = d :: deps d c.K 0 := by
    unfold wrS
    rw [hyA]
  have hy : ∀ (δ : List D) (k : List D → Option Out), stepK c ops y δ k = (liveD (nth δ r') (.ref 0 0)).bind fun z => k (setMany δ (d :: deps d c.K 0) [z]) := by
    intro δ k
    simp only [stepK, hyA, hyg]
    rw [getC_eq]
    show (liveD (nth δ r') (.ref 0 0)).bind (fun z => setManyC δ (d :: deps d c.K 0) [z] k) = _
    exact congrArg _ (funext fun z => setManyC_eq _ _ _ _)
  have live : ∀ (δ : List D) (K : List D → Option Out) (r : Out), stepK c ops x δ K = some r → nth δ r' ≠ .bad := by
    intro δ K r hr
    have hm : r' ∈ agIo ags := by simpa [memN_eq] using h5
    have fin : ∀ K' : List D → Option Out, asmK [] ags (getAll δ (agRd ags)) K' = some r → nth δ r' ≠ .bad := by
      intro K' h
      rw [asmK_eq] at h
      obtain ⟨ds, hds, _⟩ := Option.bind_eq_some_iff.1 h
      exact asmV_live ags ds hds r' hm
    have hA : actOf c x = caOf c x.dst q := by simp only [actOf, hxo]
    have hcl : ∀ A, actOf c x = some A → clOf c x.dst S q.args.toList = some A := by
      intro A h
      rw [hA] at h
      unfold caOf at h
      rw [hqc] at h
      simp only [hS] at h
      exact h
    cases hAc : actOf c x with
    | none => simp only [stepK, hAc] at hr; cases hr
    | some A =>
      have hA2 := hcl A hAc
      unfold clOf at hA2
      simp only [hags] at hA2
      simp only [stepK, hAc, hxg] at hr
      repeat' split at hA2
      all_goals first
        | (cases hA2; done)
        | (cases hA2; simp only [getC_eq] at hr; exact fin _ hr)
        | skip
  have l1 := live δ _ r hs
  obtain ⟨φ, hφ, hφr⟩ := step_form c ops x
  rw [hw] at h2 h3
  have e2 : ∀ l, φ (setMany δ (d :: deps d c.K 0) l) = φ δ := fun l => hφr _ _ (getAll_congr fun s hs => nth_setMany_notin _ _ _ _ (apartL_ok h2 s hs))
  have hlive : ∀ a : D, a ≠ .bad → liveD a (.ref 0 0) = some (.ref 0 0) := fun a ha => by cases a <;> first | exact absurd rfl ha | rfl
  simp only [hφ, hy, e2] at hs ⊢
  rw [hlive _ l1]
  cases hp : φ δ with
  | none => rw [hp] at hs; cases hs
  | some l =>
    rw [hp] at hs
    simp only [Option.bind_some] at hs ⊢
    obtain ⟨z, hz, hk⟩ := Option.bind_eq_some_iff.1 hs
    have ez : z = .ref 0 0 := by
      unfold liveD at hz
      split at hz
      · cases hz
      · exact (Option.some.inj hz).symm
    subst ez
    rw [setMany_swap (apartL_ok h3)] at hk
    exact hk

theorem step_swap {ops : List Oper} {x y : Oper} (h : indep c ops x y = true) (δ : List D) (k : List D → Option Out) (r : Out) (hs : stepK c ops x δ (fun δ => stepK c ops y δ k) = some r) : stepK c ops y δ (fun δ => stepK c ops x δ k) = some r := by
  unfold indep at h
  simp only [Bool.or_eq_true] at h
  rcases h with ((h | h) | h) | h
  · exact (step_swap0 h δ k).symm.trans hs
  · exact (lv_swap h δ k).symm.trans hs
  · exact (lv_swap h δ k).trans hs
  · exact mv_swap h δ k r hs

/-- A step whose further text answers more. -/
theorem step_more {ops : List Oper} {o : Oper} {k k' : List D → Option Out} {δ : List D} {r : Out} (hk : ∀ δ, k δ = some r → k' δ = some r) (h : stepK c ops o δ k = some r) : stepK c ops o δ k' = some r := by
  obtain ⟨φ, hφ, _⟩ := step_form c ops o
  rw [hφ] at h ⊢
  obtain ⟨l, hl, h⟩ := Option.bind_eq_some_iff.1 h
  rw [hl]
  exact hk _ h

theorem runOps_front {ops : List Oper} {o : Oper} {k : List D → Option Out} {r : Out} : ∀ (pre post : List Oper) (δ : List D), (∀ q ∈ pre, indep c ops q o = true) → runOps c ops (pre ++ o :: post) δ k = some r → stepK c ops o δ (fun δ => runOps c ops (pre ++ post) δ k) = some r
  | [], post, δ, _, h => h
  | q :: pre, post, δ, h, hr => by
    simp only [List.cons_append, runOps] at hr ⊢
    exact step_swap (h q (by simp)) δ _ r (step_more (fun δ' h' => runOps_front pre post δ' (fun q' hq' => h q' (by simp [hq'])) h') hr)

/-- The operations that are not yet listed, in the order of the text. -/
def left (ops : List Oper) (listed : Array Bool) : List Oper := (ops.zipIdx.filter fun p => !listed.getD p.2 true).map (·.1)

theorem Inv.drawn (h : Inv c B X w0 F0 F O a w δ) (n : Nat) : Inv c B X w0 F0 F O a { w with drawn := n } δ :=
  h.step (w' := { w with drawn := n }) (fun _ => False) rfl rfl rfl (fun _ _ => ⟨rfl, .inl rfl⟩) (fun _ hb => hb) (fun _ _ => rfl) (fun _ _ hp _ => ⟨hp, rfl⟩) (fun _ _ _ hv hb => ⟨rfl, (h.root hv hb).2⟩) (fun _ hf => hf.elim) h.fl h.ol (fun _ hb => .inl hb) (Nat.le_refl _) rfl rfl rfl (fun _ _ _ => rfl)

theorem split_at {l : List Oper} {i : Nat} {o : Oper} (h : l[i]? = some o) : l.zipIdx = (l.take i).zipIdx ++ (o, i) :: (l.drop (i + 1)).zipIdx (i + 1) := by
  have hi : i < l.length := (List.getElem?_eq_some_iff.1 h).1
  have e : l = l.take i ++ (o :: l.drop (i + 1)) := by
    have h1 : l[i] = o := (List.getElem?_eq_some_iff.1 h).2
    conv => lhs; rw [← List.take_append_drop i l, List.drop_eq_getElem_cons hi, h1]
  conv => lhs; rw [e]
  rw [List.zipIdx_append, List.zipIdx_cons]
  have : (l.take i).length = i := by rw [List.length_take]; omega
  simp [this]

theorem left_split {l : List Oper} {listed : Array Bool} {i : Nat} {o : Oper} (h : l[i]? = some o) (hn : listed.getD i true = false) (hsz : i < listed.size) :
    left l listed = (((l.take i).zipIdx.filter fun p => !listed.getD p.2 true).map (·.1)) ++ o :: ((((l.drop (i + 1)).zipIdx (i + 1)).filter fun p => !listed.getD p.2 true).map (·.1)) ∧
    left l (listed.setIfInBounds i true) = (((l.take i).zipIdx.filter fun p => !listed.getD p.2 true).map (·.1)) ++ ((((l.drop (i + 1)).zipIdx (i + 1)).filter fun p => !listed.getD p.2 true).map (·.1)) := by
  have hne : ∀ j, j ≠ i → (listed.setIfInBounds i true).getD j true = listed.getD j true := fun j hj => by
    simp only [Array.getD_eq_getD_getElem?, Array.getElem?_setIfInBounds, Ne.symm hj, if_false]
  have hi : (listed.setIfInBounds i true).getD i true = true := by
    simp [Array.getD_eq_getD_getElem?, hsz]
  unfold left
  rw [split_at h]
  simp only [List.filter_append, List.map_append, List.filter_cons, hn, hi, Bool.not_false, Bool.not_true, if_true, Bool.false_eq_true, if_false, List.map_cons]
  refine ⟨trivial, ?_⟩
  congr 2
  · refine List.filter_congr fun p hp => ?_
    have := List.snd_lt_of_mem_zipIdx hp
    rw [List.length_take] at this
    rw [hne p.2 (by omega)]
  · refine List.filter_congr fun p hp => ?_
    have := List.le_snd_of_mem_zipIdx hp
    rw [hne p.2 (by omega)]

/-- What is listed is listed with all that comes before it. -/
def Cl (ops : Array Oper) (listed : Array Bool) : Prop := ∀ (m : Nat) (q : Oper), ops[m]? = some q → listed.getD m false = true → ∀ e ∈ q.after, Region.binds .any e = true → listed.getD e.on false = true
theorem bef_listed {ops : Array Oper} {listed : Array Bool} (hc : Cl ops listed) {j : Nat} : ∀ (n : Nat) (o : Oper), (∀ e ∈ o.after, Region.binds .any e = true → listed.getD e.on false = true) → bef ops.toList j n o = true → listed.getD j false = true
  | 0, _, _, h => by simp [bef] at h
  | n + 1, o, ho, h => by
    simp only [bef, List.any_eq_true, Bool.and_eq_true, Bool.or_eq_true] at h
    obtain ⟨e, he, hb, h⟩ := h
    have hl := ho e (by simpa using he) hb
    rcases h with h | h
    · rw [← beq_iff.1 h]
      exact hl
    · split at h
      · rename_i q hq
        rw [nthO_eq, Array.getElem?_toList] at hq
        exact bef_listed hc n q (hc e.on q hq hl) h
      · cases h
theorem listed_set {listed : Array Bool} {i x : Nat} (h : listed.getD x false = true) : (listed.setIfInBounds i true).getD x false = true := by
  rw [Array.getD_eq_getD_getElem?] at h ⊢
  rw [Array.getElem?_setIfInBounds]
  split
  · split <;> rename_i h1 h2
    · rfl
    · subst h1
      rw [Array.getElem?_eq_none (by omega)] at h
      cases h
  · exact h
theorem Cl_set {ops : Array Oper} {listed : Array Bool} (hc : Cl ops listed) {i : Nat} {o : Oper} (ho : ops[i]? = some o) (hed : ∀ e ∈ o.after, Region.binds .any e = true → listed.getD e.on false = true) : Cl ops (listed.setIfInBounds i true) := by
  intro m q hq hm e he hb
  by_cases hmi : m = i
  · subst hmi
    rw [ho] at hq
    cases hq
    exact listed_set (hed e he hb)
  · refine listed_set (hc m q hq ?_ e he hb)
    rw [Array.getD_eq_getD_getElem?, Array.getElem?_setIfInBounds, if_neg (fun e => hmi e.symm)] at hm
    rw [Array.getD_eq_getD_getElem?]
    exact hm
theorem any_sound (hT : okT P c.T = true) (hS : ∀ f S, look c.S f = some S → Meets c.G P f S) {ops : Array Oper} (hany : okAny c ops.toList = true) (hm : P.follows .mixedOrders = true) {V : Nat → Value} {Q : Exit → Act → World → Prop} {k : List D → Option Out} {r : Out} (hQ : ∀ a w, NextV c B X w0 F0 V k r a w → Q .normal a w)
    (hok : ∀ o ∈ ops.toList, okOp c ops.toList o = true) (hI : Inv c B X w0 F0 F O a w δ) (hV : IoV c V a) (hg : runOps c ops.toList ops.toList δ k = some r) (id : Nat) : (Code.region id ops true).wp P Q a w := by
  refine wp_region_any hm ?_
  have hedge : ∀ (i : Nat) (o : Oper), ops[i]? = some o → (∀ e ∈ o.after, Region.binds .any e = true → e.on < i) ∧ ∀ (j : Nat) (q : Oper), j < i → ops[j]? = some q → bef ops.toList j 3 o = true ∨ indep c ops.toList q o = true := by
    intro i o ho
    have h0 := hany
    unfold okAny at h0
    rw [List.all_eq_true] at h0
    have hl : ops.toList[i]? = some o := by simpa using ho
    have h1 := h0 (o, i) (by rw [split_at hl]; simp)
    simp only [Bool.and_eq_true, Bool.or_eq_true, Bool.not_eq_true', decide_eq_true_eq, List.all_eq_true] at h1
    refine ⟨fun e he hb => (h1.1 e (by simpa using he)).resolve_left (by rw [hb]; simp), fun j q hj hq => ?_⟩
    have hq' : (ops.toList.take i)[j]? = some q := by
      rw [List.getElem?_take_of_lt hj]; simpa using hq
    exact (h1.2 (q, j) (by rw [split_at hq']; simp)).symm
  have main : ∀ (fuel : Nat) (listed : Array Bool) (F : Nat → Prop) (O : Nat → Option (Nat × Nat)) (a : Act) (w : World) (δ : List D), listed.size = ops.size → Cl ops listed → (left ops.toList listed).length ≤ fuel → Inv c B X w0 F0 F O a w δ → IoV c V a →
      runOps c ops.toList (left ops.toList listed) δ k = some r → wpAny P .any ops Q fuel listed a w := by
    intro fuel
    have ready_mem : ∀ (listed : Array Bool) (i : Nat), i ∈ Region.ready .any ops listed → ∃ o, ops[i]? = some o ∧ listed.getD i true = false ∧ ∀ e ∈ o.after, Region.binds .any e = true → listed.getD e.on false = true := by
      intro listed i hi
      unfold Region.ready at hi
      rw [List.mem_filter] at hi
      obtain ⟨hr, hi⟩ := hi
      simp only [Bool.and_eq_true, Bool.not_eq_true'] at hi
      cases ho : ops[i]? with
      | none => rw [ho] at hi; simp at hi
      | some o =>
        rw [ho] at hi
        simp only [Option.map_some, Option.getD_some, Array.all_eq_true_iff_forall_mem, Bool.or_eq_true, Bool.not_eq_true'] at hi
        exact ⟨o, rfl, hi.1, fun e he hb => (hi.2 e he).resolve_left (by rw [hb]; simp)⟩
    have empty : ∀ (listed : Array Bool), listed.size = ops.size → Region.ready .any ops listed = [] → left ops.toList listed = [] := by
      intro listed hsz hr
      have all : ∀ i, i < ops.size → listed.getD i true = true := by
        intro i
        induction i using Nat.strongRecOn with
        | _ i ih =>
          intro hi
          cases hl : listed.getD i true with
          | true => rfl
          | false =>
            exfalso
            have ho : ops[i]? = some ops[i] := Array.getElem?_eq_getElem hi
            have hmem : i ∈ Region.ready .any ops listed := by
              unfold Region.ready
              rw [List.mem_filter]
              refine ⟨List.mem_range.2 hi, ?_⟩
              rw [hl, ho]
              simp only [Bool.not_false, Bool.true_and, Option.map_some, Option.getD_some, Array.all_eq_true_iff_forall_mem, Bool.or_eq_true]
              intro e he
              cases hb : Region.binds .any e
              · exact .inl rfl
              right
              have h1 := (hedge i _ ho).1 e he hb
              have h2 := ih e.on h1 (by omega)
              have h3 : e.on < listed.size := by omega
              rw [Array.getD_eq_getD_getElem?, Array.getElem?_eq_getElem h3] at h2 ⊢
              exact h2
            rw [hr] at hmem
            cases hmem
      unfold left
      rw [List.map_eq_nil_iff, List.filter_eq_nil_iff]
      rintro ⟨o, i⟩ hp
      have hi := List.snd_lt_of_mem_zipIdx hp
      simp only [Bool.not_eq_true', Bool.not_eq_false]
      exact all i (by simpa using hi)
    induction fuel with
    | zero =>
      intro listed F O a w δ hsz hcl hl hI hV hg
      have h0 : left ops.toList listed = [] := List.eq_nil_of_length_eq_zero (by omega)
      rw [h0] at hg
      refine ⟨?_, hQ a w ⟨⟨F, O, δ, hI, hg⟩, hV⟩⟩
      cases hr : Region.ready .any ops listed with
      | nil => rfl
      | cons i rest =>
        exfalso
        obtain ⟨o, ho, hn, _⟩ := ready_mem listed i (by rw [hr]; simp)
        have hi : i < ops.size := (Array.getElem?_eq_some_iff.1 ho).1
        have := (left_split (l := ops.toList) (by simpa using ho) hn (by omega)).1
        rw [h0] at this
        simp at this
    | succ fuel ihf =>
      intro listed F O a w δ hsz hcl hl hI hV hg
      refine ⟨fun hr => ?_, fun i hi => ?_⟩
      · rw [empty listed hsz hr] at hg
        exact hQ a w ⟨⟨F, O, δ, hI, hg⟩, hV⟩
      · obtain ⟨o, ho, hn, hed⟩ := ready_mem listed i hi
        have hilt : i < ops.size := (Array.getElem?_eq_some_iff.1 ho).1
        obtain ⟨e1, e2⟩ := left_split (l := ops.toList) (by simpa using ho) hn (by omega)
        rw [e1] at hg hl
        have hfront : ∀ q ∈ (((ops.toList.take i).zipIdx.filter fun p => !listed.getD p.2 true).map (·.1)), indep c ops.toList q o = true := by
          intro q hq
          · simp only [List.mem_map, List.mem_filter] at hq
            obtain ⟨⟨q', j⟩, ⟨hm1, hm2⟩, rfl⟩ := hq
            have hj := List.snd_lt_of_mem_zipIdx hm1
            rw [List.length_take] at hj
            have hget : ops[j]? = some q' := by
              have := List.mem_zipIdx_iff_getElem?.1 hm1
              simp only at this
              rw [List.getElem?_take_of_lt (by omega)] at this
              simpa using this
            rcases (hedge i o ho).2 j q' (by omega) hget with hbf | h
            · exfalso
              have h3 := bef_listed hcl 3 o hed hbf
              simp only [Bool.not_eq_true'] at hm2
              have hjlt : j < listed.size := by omega
              rw [Array.getD_eq_getD_getElem?, Array.getElem?_eq_getElem hjlt] at h3 hm2
              simp only [Option.getD_some] at h3 hm2
              rw [h3] at hm2
              cases hm2
            · exact h
        · replace hg := runOps_front _ _ _ hfront hg
          rw [← e2] at hg
          have h := step_sound hT hS (ops := ops) (hok o (by simpa using Array.mem_of_getElem? ho)) hI hV hg Q
          have ih : ∀ a w, NextV c B X w0 F0 V (fun δ' => runOps c ops.toList (left ops.toList (listed.setIfInBounds i true)) δ' k) r a w → wpAny P .any ops Q fuel (listed.setIfInBounds i true) a w := by
            rintro a w ⟨⟨F', O', δ', hI', hk'⟩, hV'⟩
            exact ihf _ F' O' a w δ' (by simpa using hsz) (Cl_set hcl ho hed) (by rw [e2]; simp only [List.length_append, List.length_cons] at hl ⊢; omega) hI' hV' hk'
          unfold wpOp
          rw [ho]
          simp only
          split
          · rename_i hw
            rw [if_pos hw] at h
            exact .inl (Oper.wp_mono ih h)
          · rename_i hw
            rw [if_neg hw] at h
            exact ih _ _ h
  have hleft : left ops.toList (Array.replicate ops.size false) = ops.toList := by
    unfold left
    rw [List.filter_eq_self.2]
    · simp
    · rintro ⟨o, i⟩ hp
      have hi := List.snd_lt_of_mem_zipIdx hp
      have hi' : i < ops.size := by simpa using hi
      simp [Array.getD_eq_getD_getElem?, hi']
  refine main ops.size _ F O a _ δ (by simp) (fun m q _ hm => ?_) ?_ (hI.drawn _) hV ?_
  · rw [Array.getD_eq_getD_getElem?, Array.getElem?_replicate] at hm
    split at hm <;> cases hm
  · rw [hleft]; simp
  · rw [hleft]; exact hg

theorem resC_nat : ∀ (l : List ResultVar) (δ : List D) (k : List D → Option Out), resC c δ l k = (resC c δ l fun rs => some (.nrm rs)).bind fun o => match o with
    | .nrm rs => k rs
    | _ => none
  | [], δ, k => rfl
  | .tmp t :: l, δ, k => by
    simp only [resC, nthC_eq]
    rw [resC_nat l δ fun rs => k (nth δ t :: rs), resC_nat l δ fun rs => some (.nrm (nth δ t :: rs))]
    cases h : resC c δ l fun rs => some (.nrm rs) with
    | none => rfl
    | some o => cases o <;> rfl
  | .cell s t :: l, δ, k => by
    simp only [resC]
    split
    · rename_i i _
      simp only [nthC_eq]
      cases fldD i.agg i.n 0 (nth δ s) with
      | none => rfl
      | some y =>
        simp only [Option.bind_some]
        rw [resC_nat l δ fun rs => k (y :: rs), resC_nat l δ fun rs => some (.nrm (y :: rs))]
        cases h : resC c δ l fun rs => some (.nrm rs) with
        | none => rfl
        | some o => cases o <;> rfl
    · rfl

theorem usK_some : ∀ {us : List D} {o : Option Out} {r : Out}, usK us o = some r ↔ (∀ u ∈ us, u ≠ .bad) ∧ o = some r
  | [], o, r => by simp [usK]
  | u :: us, o, r => by
    simp only [usK, Option.bind_eq_some_iff, List.mem_cons, forall_eq_or_imp]
    constructor
    · rintro ⟨y, h1, h2⟩
      obtain ⟨h3, h4⟩ := usK_some.1 h2
      exact ⟨⟨(liveD_some h1).1, h3⟩, h4⟩
    · rintro ⟨⟨h1, h2⟩, h3⟩
      refine ⟨u, ?_, usK_some.2 ⟨h2, h3⟩⟩
      cases u <;> first | rfl | exact absurd rfl h1

theorem retK_is {δ : List D} {k : Out → Option Out} {r : Out} (h : retK c δ k = some r) : ∃ rs, resC c δ c.res (fun rs => some (.nrm rs)) = some (.nrm rs) ∧ (∀ u ∈ getAll δ c.ios, u ≠ .bad) ∧ k (.ret rs (getAll δ c.ios)) = some r := by
  unfold retK at h
  simp only [getC_eq] at h
  rw [resC_nat] at h
  cases hh : resC c δ c.res fun rs => some (.nrm rs) with
  | none => rw [hh] at h; cases h
  | some o =>
    rw [hh] at h
    cases o with
    | nrm rs =>
      simp only [Option.bind_some] at h
      obtain ⟨h1, h2⟩ := usK_some.1 h
      exact ⟨rs, rfl, h1, h2⟩
    | ext i δ => cases h
    | ret x y => cases h

theorem retK_of {δ : List D} {k : Out → Option Out} {r : Out} {rs : List D} (h1 : resC c δ c.res (fun rs => some (.nrm rs)) = some (.nrm rs)) (h2 : ∀ u ∈ getAll δ c.ios, u ≠ .bad) (hk : k (.ret rs (getAll δ c.ios)) = some r) : retK c δ k = some r := by
  unfold retK
  simp only [getC_eq]
  rw [resC_nat, h1]
  simp only [Option.bind_some]
  exact usK_some.2 ⟨h2, hk⟩

/-- What a list of slots carries over. -/
def carry (n : Nat) (hl : List Nat) (δ : List D) : List D := setMany (voidL n) hl (getAll δ hl)
theorem voidL_eq : ∀ n, voidL n = List.replicate n .bad
  | 0 => rfl
  | n + 1 => by simp [voidL, voidL_eq n, List.replicate_succ]
theorem nth_void (n s : Nat) : nth (voidL n) s = .bad := by
  rw [nth_eq, voidL_eq, List.getD_eq_getElem?_getD, List.getElem?_replicate]
  split <;> rfl
theorem expandC_eq (n : Nat) (hl : List Nat) (δ : List D) (k : List D → Option Out) : expandC n hl (getAll δ hl) k = k (carry n hl δ) := by
  unfold expandC carry
  rw [setManyC_eq, fit_eq _ _ 0 (by rw [getAll_len]; omega), List.drop_zero]
theorem getAll_map (δ : List D) : ∀ (l : List Nat), getAll δ l = l.map (nth δ)
  | [] => rfl
  | _ :: l => by simp [getAll, getAll_map δ l]
theorem carry_nth {hl : List Nat} {δ : List D} (s : Nat) : nth (carry δ.length hl δ) s = if s ∈ hl then nth δ s else .bad := by
  unfold carry
  rw [getAll_map, setMany_map]
  have hlen : (voidL δ.length).length = δ.length := by rw [voidL_eq]; simp
  rw [hlen, nth_void]
  split
  · split
    · rfl
    · rename_i h
      by_cases hb : nth δ s = .bad
      · exact hb.symm
      · exact absurd (nth_lt hb) h
  · rfl
theorem Inv.carry (h : Inv c B X w0 F0 F O a w δ) {hl : List Nat} (hk : okLive c.K hl = true) : Inv c B X w0 F0 F O a w (carry (lenN c.K) hl δ) := by
  have e : lenN c.K = δ.length := by rw [lenN_eq, h.ld]
  rw [e]
  refine h.forget ?_ (fun s => ?_) (fun s r hv hb => ?_)
  · unfold V.carry; rw [len_setMany, voidL_eq]; simp
  · rw [carry_nth]
    split
    · exact .inl rfl
    · exact .inr rfl
  · rw [carry_nth] at hb
    split at hb
    case isFalse => exact absurd rfl hb
    rename_i hs
    unfold okLive at hk
    rw [List.all_eq_true] at hk
    have hks := hk s hs
    have hr : r ∈ hl := by
      rcases hv with e | e <;> rw [e] at hks <;> simpa [memN_eq] using hks
    rw [carry_nth, if_pos hr]
    exact (h.root hv hb).2

theorem NextV_mono {V : Nat → Value} {k k' : List D → Option Out} {r r' : Out} (h : NextV c B X w0 F0 V k r a w) (hk : ∀ δ F O, Inv c B X w0 F0 F O a w δ → k δ = some r → k' δ = some r') : NextV c B X w0 F0 V k' r' a w := by
  obtain ⟨⟨F, O, δ, h1, h2⟩, h3⟩ := h
  exact ⟨⟨F, O, δ, h1, hk δ F O h1 h2⟩, h3⟩

theorem loop_rounds {V : Nat → Value} {b : Code} {bid : Nat} {hl xl : List Nat} (h1 : okLive c.K hl = true) (h2 : okLive c.K xl = true)
    (ih : ∀ (F : Nat → Prop) (O : Nat → Option (Nat × Nat)) (a : Act) (w : World) (δ : List D), Inv c B X w0 F0 F O a w δ → IoV c V a → ∀ (k : Out → Option Out) (r : Out), den c bid b δ k = some r → ∀ Q, (∀ e a w, Post c B X w0 F0 V k r e a w → Q e a w) → b.wp P Q a w)
    {k : Out → Option Out} {r : Out} {Q : Exit → Act → World → Prop} (hQ : ∀ e a w, Post c B X w0 F0 V k r e a w → Q e a w) {o : Out}
    (ho : outK o (fun i s => expandC (lenN c.K) xl s fun δ => k (.ext i δ)) (fun x y => k (.ret x y)) = some r) : ∀ (n : Nat) (F : Nat → Prop) (O : Nat → Option (Nat × Nat)) (a : Act) (w : World) (δ : List D), Inv c B X w0 F0 F O a w δ → IoV c V a →
    iter (fun s => expandC (lenN c.K) hl s fun δ => den c bid b δ (shrinkK hl xl)) n (getAll δ hl) = some o → Code.rounds P b Q n a w
  | 0, _, _, _, _, _, _, _, h => by cases h
  | n + 1, F, O, a, w, δ, hI, hV, h => by
    simp only [iter, expandC_eq] at h
    rw [rounds_succ]
    have hI' := hI.carry h1
    cases hb : den c bid b (carry (lenN c.K) hl δ) (shrinkK hl xl) with
    | none => rw [hb] at h; cases h
    | some ob =>
      rw [hb] at h
      refine ih F O a w _ hI' hV _ ob hb _ (fun e a' w' hp => ?_)
      cases ob with
      | nrm s' =>
        simp only at h
        cases e with
        | normal =>
          obtain ⟨⟨F', O', δ', g1, g2⟩, g3⟩ := hp
          simp only [shrinkK, getC_eq, Option.some.injEq, Out.nrm.injEq] at g2
          rw [← g2] at h
          exact loop_rounds h1 h2 ih hQ ho n F' O' a' w' δ' g1 g3 h
        | exit i =>
          obtain ⟨⟨F', O', δ', g1, g2⟩, g3⟩ := hp
          simp [shrinkK, getC_eq] at g2
        | ret =>
          obtain ⟨⟨F', O', δ', g1, g2⟩, g3⟩ := hp
          obtain ⟨rs, _, _, g4⟩ := retK_is g2
          simp [shrinkK] at g4
        | _ => exact hp.elim
      | ext i l =>
        simp only [Option.some.injEq] at h
        subst h
        cases e with
        | normal =>
          obtain ⟨⟨F', O', δ', g1, g2⟩, g3⟩ := hp
          simp [shrinkK, getC_eq] at g2
        | exit j =>
          obtain ⟨⟨F', O', δ', g1, g2⟩, g3⟩ := hp
          simp only [shrinkK, getC_eq, Option.some.injEq, Out.ext.injEq] at g2
          obtain ⟨rfl, rfl⟩ := g2
          simp only [outK, expandC_eq] at ho
          exact hQ (.exit j) _ _ ⟨⟨F', O', _, g1.carry h2, ho⟩, g3⟩
        | ret =>
          obtain ⟨⟨F', O', δ', g1, g2⟩, g3⟩ := hp
          obtain ⟨rs, _, _, g4⟩ := retK_is g2
          simp [shrinkK] at g4
        | _ => exact hp.elim
      | ret x y =>
        simp only [Option.some.injEq] at h
        subst h
        cases e with
        | normal =>
          obtain ⟨⟨F', O', δ', g1, g2⟩, g3⟩ := hp
          simp [shrinkK, getC_eq] at g2
        | exit j =>
          obtain ⟨⟨F', O', δ', g1, g2⟩, g3⟩ := hp
          simp [shrinkK, getC_eq] at g2
        | ret =>
          obtain ⟨⟨F', O', δ', g1, g2⟩, g3⟩ := hp
          obtain ⟨rs, g5, g6, g4⟩ := retK_is g2
          simp only [shrinkK, Option.some.injEq, Out.ret.injEq] at g4
          obtain ⟨rfl, rfl⟩ := g4
          exact hQ .ret _ _ ⟨⟨F', O', δ', g1, retK_of g5 g6 ho⟩, g3⟩
        | _ => exact hp.elim

theorem den_sound (hT : okT P c.T = true) (hS : ∀ f S, look c.S f = some S → Meets c.G P f S) (hm : P.follows .mixedOrders = true) {V : Nat → Value} : ∀ (b : Code) (bid : Nat), okCode c bid b = true → ∀ (F : Nat → Prop) (O : Nat → Option (Nat × Nat)) (a : Act) (w : World) (δ : List D),
    Inv c B X w0 F0 F O a w δ → IoV c V a → ∀ (k : Out → Option Out) (r : Out), den c bid b δ k = some r → ∀ Q, (∀ e a w, Post c B X w0 F0 V k r e a w → Q e a w) → b.wp P Q a w
  | .skip, bid, _, F, O, a, w, δ, hI, hV, k, r, hg, Q, hQ => wp_skip (hQ _ _ _ ⟨⟨F, O, δ, hI, hg⟩, hV⟩)
  | .region id ops d, bid, hok, F, O, a, w, δ, hI, hV, k, r, hg, Q, hQ => by
    simp only [okCode, Bool.and_eq_true, List.all_eq_true] at hok
    have hq : ∀ a w, NextV c B X w0 F0 V (fun δ => k (.nrm δ)) r a w → Q .normal a w := fun a w h => hQ _ _ _ h
    cases d
    · exact wp_region_list (list_sound hT hS hq ops.toList hok.1 F O a w δ hI hV hg)
    · exact any_sound hT hS (by simpa using hok.2) hm hq hok.1 hI hV hg id
  | .seq x y, bid, hok, F, O, a, w, δ, hI, hV, k, r, hg, Q, hQ => by
    simp only [okCode, Bool.and_eq_true] at hok
    refine wp_seq (den_sound hT hS hm x bid hok.1 F O a w δ hI hV _ r hg _ (fun e a' w' hp => ?_))
    cases e with
    | normal =>
      obtain ⟨⟨F', O', δ', hI', hk'⟩, hV'⟩ := hp
      exact den_sound hT hS hm y bid hok.2 F' O' a' w' δ' hI' hV' k r hk' Q hQ
    | exit id => exact hQ _ _ _ hp
    | ret => exact hQ _ _ _ hp
    | _ => exact hp.elim
  | .cond x t e, bid, hok, F, O, a, w, δ, hI, hV, k, r, hg, Q, hQ => by
    simp only [okCode, Bool.and_eq_true] at hok
    obtain ⟨⟨hlv, hok1⟩, hok2⟩ := hok
    have hop := hI.opd (ble_iff.1 hlv)
    have key : ifD (opD δ x) (den c bid t δ k) (den c bid e δ k) = some r := by
      simp only [den] at hg
      cases x with
      | tmp s => simpa only [opC, nthC_eq, opD] using hg
      | const v => simpa only [opC, opD] using hg
      | func f => simpa only [opC, opD] using hg
      | global g => simp [opC] at hg
    unfold ifD at key
    split at key
    · rename_i hd
      rw [hd] at hop
      exact wp_cond_true (RepB_v hop).1 (den_sound hT hS hm t bid hok1 F O a w δ hI hV k r key Q hQ)
    · rename_i hd
      rw [hd] at hop
      exact wp_cond_false (RepB_v hop).1 (den_sound hT hS hm e bid hok2 F O a w δ hI hV k r key Q hQ)
    · cases key
  | .block id b, bid, hok, F, O, a, w, δ, hI, hV, k, r, hg, Q, hQ => by
    simp only [okCode] at hok
    refine wp_block (den_sound hT hS hm b id hok F O a w δ hI hV _ r hg _ (fun e a' w' hp => ?_))
    cases e with
    | normal => exact hQ .normal _ _ hp
    | exit i =>
      simp only [Exit.inBlock]
      have hp' : NextV c B X w0 F0 V (fun δ => blkK id (.ext i δ) k) r a' w' := hp
      split
      · rename_i hi
        refine hQ .normal _ _ (NextV_mono hp' fun δ F O _ h => ?_)
        simp only [blkK] at h
        rw [beq_iff.2 (by simpa using hi)] at h
        exact h
      · rename_i hi
        refine hQ (.exit i) _ _ (NextV_mono hp' fun δ F O _ h => ?_)
        simp only [blkK] at h
        cases hb : Nat.beq i id
        · rw [hb] at h; exact h
        · exact absurd (by simpa using beq_iff.1 hb) hi
    | ret => exact hQ .ret _ _ hp
    | _ => exact hp.elim
  | .loop b, bid, hok, F, O, a, w, δ, hI, hV, k, r, hg, Q, hQ => by
    simp only [okCode, Bool.and_eq_true] at hok
    obtain ⟨hok1, hok2⟩ := hok
    simp only [den] at hg
    cases hH : look c.H bid with
    | none => rw [hH] at hg; cases hg
    | some hx =>
      obtain ⟨hl, xl⟩ := hx
      rw [hH] at hg hok2
      simp only [Bool.and_eq_true] at hok2
      simp only [getC_eq] at hg
      obtain ⟨o', h1, h2⟩ := Option.bind_eq_some_iff.1 hg
      unfold loopC at h1
      split at h1
      case isFalse => cases h1
      rename_i hex
      refine wp_loop_rounds (Classical.choose hex) ?_
      refine loop_rounds (hl := hl) (xl := xl) hok2.1 hok2.2 (fun F O a w δ hI hV k r hg Q hQ => den_sound hT hS hm b bid hok1 F O a w δ hI hV k r hg Q hQ) hQ h2 _ F O a w δ hI hV h1
  | .exit id, bid, _, F, O, a, w, δ, hI, hV, k, r, hg, Q, hQ => wp_exit (hQ _ _ _ ⟨⟨F, O, δ, hI, hg⟩, hV⟩)
  | .ret, bid, _, F, O, a, w, δ, hI, hV, k, r, hg, Q, hQ => wp_ret (hQ _ _ _ ⟨⟨F, O, δ, hI, hg⟩, hV⟩)
  | .label _, _, hok, _, _, _, _, _, _, _, _, _, _, _, _ => by simp [okCode] at hok
  | .goto _, _, hok, _, _, _, _, _, _, _, _, _, _, _, _ => by simp [okCode] at hok
  | .scope _, _, hok, _, _, _, _, _, _, _, _, _, _, _, _ => by simp [okCode] at hok

end
end Go.V
