/-
  Loads, addresses, parts, copies of data: they keep the invariant.
-/
import Derived.Test.YtfjkapnonljdeaaDoorVh
namespace Go.V
open Go.RowKit

section
variable {P : Program} {c : Cx} {B : Nat} {X : Nat → Prop} {w0 : World} {F0 F : Nat → Prop} {O : Nat → Option (Nat × Nat)} {a : Act} {w : World} {δ : List D}

theorem cells_at {cs : Array Value} {e : Nat} {g o : Nat} {us : List Value} (hg : w.heap[g]? = some (.cells cs e (0, 0))) (h : ∀ (i : Nat) (u : Value), us[i]? = some u → cs[o + i]? = some u) : CellsAt w g o us := fun i u hu => by
  simp [World.cell?, hg, h i u hu]

/-- What a place in an owned object holds. -/
theorem at_rep (hI : Inv c B X w0 F0 F O a w δ) {q i f : Nat} {p : Value} (hb : nth δ q ≠ .bad) (hr : RefV (nthK c.K q) (av a q) i f p) {l : List D} (hl : atD (nth δ q) (.ref i f) = some l) :
    ∃ g o us, p = .pointer (some ⟨g, o, none⟩) ∧ RepL w (FB F B (rootLv c.K q)) l us ∧ l.all D.single = true ∧ CellsAt w g o us := by
  unfold RefV at hr
  split at hr
  · rename_i z lv io hk
    obtain ⟨g, o, n, cap, hy, rfl⟩ := hr
    obtain ⟨m, hd, hw, hrest⟩ := hI.own hk hb
    rw [hd] at hl
    simp only [atD] at hl
    obtain ⟨d, hdi, rfl⟩ := Option.map_eq_some_iff.1 hl
    rcases hrest with ⟨e, _⟩ | ⟨g', o', c', us, cs, e, a1, a2, a3, a4, a5, a6, a7⟩
    · rw [hy] at e; cases e
    rw [hy] at a1
    simp at a1
    obtain ⟨⟨rfl, rfl⟩, rfl, rfl⟩ := a1
    obtain ⟨p', mm, q', rfl, h1, h2, h3, _⟩ := RepL_get m us a5 hw i d hdi
    have hcell := cells_at (o := o) a3 a6
    have hrr : RepL w (FB F B lv) d.cells mm ∧ d.cells.all D.single = true := by
      rcases RepC_kind h3 with ⟨l, rfl⟩ | hs
      · simpa only [RepC, D.cells] using h3
      · rw [(width_single hs).2]
        exact ⟨RepL_cons.2 ⟨mm, [], by simp, h3, RepL_nil.2 rfl⟩, by simp [hs]⟩
    refine ⟨g, _, mm.drop f, rfl, ?_, all_drop hrr.2 f, ?_⟩
    · simp only [rootLv, hk]
      exact (RepL_cut _ _ hrr.2 hrr.1 f).2
    · rw [← h1]
      exact (CellsAt.part hcell).drop f
  · rename_i n lv io hk
    obtain ⟨g, hy, rfl⟩ := hr
    obtain ⟨m, us, g', e, hd, a1, a2, a3, a4, a5, a6⟩ := hI.box hk hb
    rw [hy] at a1
    simp at a1
    subst a1
    rw [hd] at hl
    simp only [atD, Option.some.injEq] at hl
    subst hl
    have hcell : CellsAt w g 0 us := cells_at a2 (fun i u hu => by simpa using hu)
    refine ⟨g, f, us.drop f, rfl, ?_, all_drop a4 f, by simpa using hcell.drop f⟩
    simp only [rootLv, hk]
    exact (RepL_cut _ _ a4 a3 f).2
  · exact hr.elim

theorem lvFit_sound {o : Oper} {rd : List Nat} {d lv l : Nat} {h : List D → Option D} {A : Ac} (hk : nthK c.K d = .dat l) (hd : o.dst = some d) (hA : mapO (fun h => Ac.one rd d h) (lvFit lv l h) = some A)
    (hI : Inv c B X w0 F0 F O a w δ) {k : List D → Option Out} {r : Out} (hg : goAc c A δ k = some r)
    (hrun : ∀ z, h (getAll δ rd) = some z → ∃ y, (execOp a.eval o).run P w = .ok (.value y) w ∧ RepB w (FB F B lv) z y) (Q : Exit → Act → World → Prop) : o.wp P a w (Next c B X w0 F0 k r) Q := by
  unfold lvFit at hA
  split at hA
  · rename_i hle
    rw [ble_iff] at hle
    cases hA
    refine one_sound hI hd hg (fun z hz => ?_) Q
    obtain ⟨y, h1, h2⟩ := hrun z hz
    exact ⟨y, h1, (RepB_le hle h2).imp id fun h => by rw [hk]; exact h⟩
  · split at hA
    case h_2 => cases hA
    cases hA
    refine one_sound hI hd hg (fun z hz => ?_) Q
    obtain ⟨z', hz', hc⟩ := Option.bind_eq_some_iff.1 hz
    obtain ⟨y, h1, h2⟩ := hrun z' hz'
    unfold chkV at hc
    split at hc
    case isFalse => cases hc
    rename_i hv
    cases hc
    refine ⟨y, h1, .inr ?_⟩
    rw [hk]
    refine RepV_isV hv (h2.rep ?_)
    intro e
    subst e
    simp [D.isV] at hv

theorem sound_load (hT : okT P c.T = true) {o : Oper} {t : Nat} {p : Operand} (ho : o.op = .load t p) : Sound P c o := by
  intro A hA B X w0 F0 F O a w δ hI k r hg Q
  simp only [actOf, ho] at hA
  have hA0 := withT_some hA
  clear hA
  obtain ⟨i, hi, hA⟩ := hA0
  have hti := tok hT hi
  unfold ldOf at hA
  split at hA
  case h_2 => cases hA
  rename_i q
  have hex : execOp a.eval o = (do pure (.value (← Instr.loadAt t (av a q)))) := by simp only [execOp, ho, eval_tmp]
  split at hA
  · rename_i lv hk
    refine data_sound hA hI hg (fun hx z hz => ?_) Q
    obtain ⟨d1, e, hz⟩ := arg1_some hz
    simp only [List.map_cons, List.map_nil, List.cons.injEq, and_true] at e
    subst e
    have hx' := hx (.tmp q) (by simp)
    simp only [lvOf, hk] at hx'
    obtain ⟨y, hy, hr⟩ := ld_run hti hx'.2 hz
    exact ⟨y, run_v hex hy, .inr hr⟩
  · rename_i n lv io hk
    split at hA
    · cases hA
    rename_i d hd
    split at hA
    case h_2 => cases hA
    rename_i l hkd
    refine lvFit_sound hkd hd hA hI hg (fun z hz => ?_) Q
    simp only [getAll, nth] at hz
    by_cases hb : nth δ q = .bad
    · rw [hb] at hz; simp [fldD] at hz
    obtain ⟨m, us, g, e, hd', a1, a2, a3, a4, a5, a6⟩ := hI.box hk hb
    rw [hd'] at hz
    simp only [fldD, List.drop_zero] at hz
    have hcell : CellsAt w g 0 us := cells_at a2 (fun i u hu => by simpa using hu)
    obtain ⟨y, hy, hr⟩ := load_run (P := P) hti a3 a4 hcell hz
    exact ⟨y, run_v hex (by rw [a1]; exact hy), .inr hr⟩
  · rename_i s hk
    split at hA
    · cases hA
    rename_i d hd
    split at hA
    case h_2 => cases hA
    rename_i l hkd
    refine lvFit_sound hkd hd hA hI hg (fun z hz => ?_) Q
    simp only [getAll, nth] at hz
    obtain ⟨m, hm, hz⟩ := Option.bind_eq_some_iff.1 hz
    have hb : nth δ q ≠ .bad := by
      intro e
      rw [e] at hm
      unfold atD at hm
      split at hm <;> first | (cases hm; done) | (rename_i h; cases h)
    obtain ⟨ii, f, h1, h2, h3⟩ := hI.ref hk hb
    rw [h1] at hm
    obtain ⟨g, o', us, e, g1, g2, g3⟩ := at_rep hI h2 h3 hm
    obtain ⟨y, hy, hr⟩ := load_run (P := P) hti g1 g2 g3 hz
    exact ⟨y, run_v hex (by rw [e]; exact hy), .inr hr⟩
  · cases hA

theorem sound_fieldAddr (hT : okT P c.T = true) {o : Oper} {t f : Nat} {p : Operand} (ho : o.op = .fieldAddr t p f) : Sound P c o := by
  intro A hA B X w0 F0 F O a w δ hI k r hg Q
  simp only [actOf, ho] at hA
  have hA0 := withT_some hA
  clear hA
  obtain ⟨i, hi, hA⟩ := hA0
  have hti := tok hT hi
  unfold faOf at hA
  split at hA
  case h_2 => cases hA
  rename_i q off ti hf
  have hf0 := fieldOf_some hf
  clear hf
  obtain ⟨ty, hf, _⟩ := hf0
  have hex : execOp a.eval o = (do pure (.value (← Instr.fieldAt t (av a q) f))) := by simp only [execOp, ho, eval_tmp]
  split at hA
  · rename_i lv hk
    refine data_sound hA hI hg (fun hx z hz => ?_) Q
    obtain ⟨d1, e, hz⟩ := arg1_some hz
    simp only [List.map_cons, List.map_nil, List.cons.injEq, and_true] at e
    subst e
    have hx' := hx (.tmp q) (by simp)
    simp only [lvOf, hk] at hx'
    obtain ⟨y, hy, hr⟩ := off_run hti hf hx'.2 hz
    exact ⟨y, run_v hex hy, .inr hr⟩
  · rename_i n lv io hk
    split at hA
    · cases hA
    rename_i d hd
    split at hA
    case h_2 => cases hA
    rename_i r' hkd
    split at hA
    case h_2 => cases hA
    rename_i hrq
    rw [beq_iff] at hrq
    subst hrq
    cases hA
    refine one_sound hI hd hg (fun z hz => ?_) Q
    obtain ⟨d1, e, hz⟩ := arg1_some hz
    simp only [getAll, List.cons.injEq, and_true] at e
    subst e
    obtain ⟨hb, rfl⟩ := liveD_some hz
    obtain ⟨m, us, g, e, hd', a1, a2, a3, a4, a5, a6⟩ := hI.box hk hb
    refine ⟨_, run_v hex (by rw [a1]; exact fieldAt_run hti hf g 0), .inr ?_⟩
    rw [hkd]
    refine ⟨0, off, rfl, hb, ?_⟩
    rw [hk]
    exact ⟨g, a1, by rw [Nat.zero_add]⟩
  · rename_i s hk
    split at hA
    · cases hA
    rename_i d hd
    split at hA
    case h_2 => cases hA
    rename_i r' hkd
    split at hA
    case h_2 => cases hA
    rename_i hrq
    rw [beq_iff] at hrq
    subst hrq
    cases hA
    refine one_sound hI hd hg (fun z hz => ?_) Q
    obtain ⟨d1, e, hz⟩ := arg1_some hz
    simp only [getAll, List.cons.injEq, and_true] at e
    subst e
    unfold refAdd at hz
    split at hz
    case h_2 => cases hz
    rename_i ii ff hd1
    simp at hz
    subst hz
    obtain ⟨i', f', h1, h2, h3⟩ := hI.ref hk (by rw [hd1]; simp)
    rw [hd1] at h1
    cases h1
    have key : ∃ g o, av a q = .pointer (some ⟨g, o, none⟩) ∧ RefV (nthK c.K s) (av a s) ii (ff + off) (.pointer (some ⟨g, o + off, none⟩)) := by
      unfold RefV at h3 ⊢
      split at h3
      · obtain ⟨g, o, n, cc, e1, e2⟩ := h3
        exact ⟨g, _, e2, g, o, n, cc, e1, by rw [Nat.add_assoc]⟩
      · obtain ⟨g, e1, e2⟩ := h3
        exact ⟨g, _, e2, g, e1, rfl⟩
      · exact h3.elim
    obtain ⟨g, o', e1, e2⟩ := key
    refine ⟨_, run_v hex (by rw [e1]; exact fieldAt_run hti hf g o'), .inr ?_⟩
    rw [hkd]
    exact ⟨ii, ff + off, rfl, h2, e2⟩
  · cases hA

theorem sound_indexAddr (hT : okT P c.T = true) {o : Oper} {t : Nat} {x ix : Operand} (ho : o.op = .indexAddr t x ix) : Sound P c o := by
  intro A hA B X w0 F0 F O a w δ hI k r hg Q
  simp only [actOf, ho] at hA
  have hA0 := withT_some hA
  clear hA
  obtain ⟨i, hi, hA⟩ := hA0
  have hti := tok hT hi
  unfold iaOf at hA
  split at hA
  case h_2 => cases hA
  rename_i q hix
  have hix' : lvOf c.K ix ≤ 2 := ble_iff.1 hix
  have hj := hI.opd hix'
  have hex : execOp a.eval o = (do pure (.value (← Instr.indexAt t (av a q) (a.eval ix)))) := by simp only [execOp, ho, eval_tmp]
  have own : ∀ (s : Nat) (z : D) (d : Nat), isOwn c.K s = true → nth δ s ≠ .bad → av a q = av a s → nthK c.K d = .ref s → isSl i = true → refI i.ez (nth δ s) (opD δ ix) = some z → ∃ y, (execOp a.eval o).run P w = .ok (.value y) w ∧ PutOk c.K B F a w δ d z y := by
    intro s z d hown hb hav hkd hsl hz
    obtain ⟨zz, lv, io, hks⟩ : ∃ zz lv io, nthK c.K s = .own zz lv io := by
      unfold isOwn at hown
      split at hown
      · exact ⟨_, _, _, ‹_›⟩
      · cases hown
    obtain ⟨l, hd, hw, hrest⟩ := hI.own hks hb
    rw [hd] at hz
    unfold refI at hz
    split at hz
    case h_2 => cases hz
    rename_i z' l' k' n e1 e2
    cases e1
    split at hz
    case isFalse => cases hz
    rename_i hc
    obtain ⟨rfl, h0, h1⟩ := hc
    simp at hz
    subst hz
    rw [e2] at hj
    obtain ⟨hj, _⟩ := RepB_v hj
    rcases hrest with ⟨_, e⟩ | ⟨g, o', cc, us, cs, e, a1, a2, a3, a4, a5, a6, a7⟩
    · subst e; simp at h1; omega
    refine ⟨_, run_v hex (by rw [hav, a1, hj]; exact indexAt_run hti hsl g o' _ cc k' n h0 h1), .inr ?_⟩
    rw [hkd]
    refine ⟨n.toNat, 0, rfl, hb, ?_⟩
    rw [hks]
    exact ⟨g, o', _, cc, a1, rfl⟩
  split at hA
  · rename_i hsl
    split at hA
    · rename_i lv hk
      refine data_sound hA hI hg (fun hx z hz => ?_) Q
      obtain ⟨d1, d2, e, hz⟩ := arg2_some hz
      simp only [List.map_cons, List.map_nil, List.cons.injEq, and_true] at e
      obtain ⟨rfl, rfl⟩ := e
      obtain ⟨l, hl, rfl⟩ := Option.map_eq_some_iff.1 hz
      have hx' := hx (.tmp q) (by simp)
      simp only [lvOf, hk] at hx'
      obtain ⟨y, hy, hr⟩ := elem_run hti hsl hx'.2 hj hl
      exact ⟨y, run_v hex hy, .inr hr⟩
    · rename_i z lv io hk
      split at hA
      · cases hA
      rename_i d hd
      split at hA
      case h_2 => cases hA
      rename_i r' hkd
      split at hA
      case h_2 => cases hA
      rename_i hrq
      rw [beq_iff] at hrq
      subst hrq
      cases hA
      refine one_sound hI hd hg (fun z hz => ?_) Q
      simp only [getAll] at hz
      rw [valsOf_eq] at hz
      obtain ⟨d1, e, hz⟩ := arg1_some hz
      simp only [List.map_cons, List.map_nil, List.cons.injEq, and_true] at e
      subst e
      refine own _ z d (by simp [isOwn, hk]) ?_ rfl hkd hsl hz
      intro e
      rw [e] at hz
      simp [refI] at hz
    · rename_i s hk
      split at hA
      · cases hA
      rename_i d hd
      split at hA
      case h_2 => cases hA
      rename_i r' hkd
      split at hA
      case h_2 => cases hA
      rename_i hrq hown
      rw [beq_iff] at hrq
      subst hrq
      cases hA
      refine one_sound hI hd hg (fun z hz => ?_) Q
      simp only [getAll] at hz
      obtain ⟨b, hb, hz⟩ := Option.bind_eq_some_iff.1 hz
      obtain ⟨hpb, rfl⟩ := liveD_some hb
      rw [valsOf_eq] at hz
      obtain ⟨d1, e, hz⟩ := arg1_some hz
      simp only [List.map_cons, List.map_nil, List.cons.injEq, and_true] at e
      subst e
      obtain ⟨g1, g2, g3, g4⟩ := hI.via hk hpb
      exact own _ z d g4 g3 g1 hkd hsl hz
    · cases hA
  · split at hA
    · cases hA
    rename_i n hn
    have hal : i.alen ≠ 0 := by intro h0; exact hn h0
    have step : ∀ (s : Nat) (ii f : Nat) (z : D) (p : D) (d : Nat) (g o' : Nat), nth δ s ≠ .bad → p = .ref ii f → av a q = .pointer (some ⟨g, o', none⟩) → (∀ x, RefV (nthK c.K s) (av a s) ii (f + x) (.pointer (some ⟨g, o' + x, none⟩))) → nthK c.K d = .ref s → refIx i.alen i.ez p (opD δ ix) = some z → ∃ y, (execOp a.eval o).run P w = .ok (.value y) w ∧ PutOk c.K B F a w δ d z y := by
      intro s ii f z p d g o' hb hp hav hR hkd hz
      subst hp
      unfold refIx at hz
      split at hz
      case h_2 => cases hz
      rename_i j f' k' m e1 e2
      cases e1
      split at hz
      case isFalse => cases hz
      rename_i hc
      simp at hz
      subst hz
      rw [e2] at hj
      obtain ⟨hj, _⟩ := RepB_v hj
      refine ⟨_, run_v hex (by rw [hav, hj]; exact indexAr_run hti hal g o' k' m hc.1 hc.2), .inr ?_⟩
      rw [hkd]
      exact ⟨ii, _, rfl, hb, hR _⟩
    split at hA
    · rename_i lv hk
      refine data_sound hA hI hg (fun hx z hz => ?_) Q
      obtain ⟨d1, d2, e, hz⟩ := arg2_some hz
      simp only [List.map_cons, List.map_nil, List.cons.injEq, and_true] at e
      obtain ⟨rfl, rfl⟩ := e
      have hx' := hx (.tmp q) (by simp)
      simp only [lvOf, hk] at hx'
      obtain ⟨y, hy, hr⟩ := ixD_run hti hal hx'.2 hj hz
      exact ⟨y, run_v hex hy, .inr hr⟩
    · rename_i nn lv io hk
      split at hA
      · cases hA
      rename_i d hd
      split at hA
      case h_2 => cases hA
      rename_i r' hkd
      split at hA
      case h_2 => cases hA
      rename_i hrq
      rw [beq_iff] at hrq
      subst hrq
      cases hA
      refine one_sound hI hd hg (fun z hz => ?_) Q
      simp only [getAll] at hz
      obtain ⟨b, hb, hz⟩ := Option.bind_eq_some_iff.1 hz
      obtain ⟨hpb, rfl⟩ := liveD_some hb
      rw [valsOf_eq] at hz
      obtain ⟨d1, e, hz⟩ := arg1_some hz
      simp only [List.map_cons, List.map_nil, List.cons.injEq, and_true] at e
      subst e
      obtain ⟨m, us, g, e, hd', a1, a2, a3, a4, a5, a6⟩ := hI.box hk hpb
      refine step _ 0 0 z _ d g 0 hpb rfl a1 (fun x => ?_) hkd hz
      rw [hk]
      exact ⟨g, a1, rfl⟩
    · rename_i s hk
      split at hA
      · cases hA
      rename_i d hd
      split at hA
      case h_2 => cases hA
      rename_i r' hkd
      split at hA
      case h_2 => cases hA
      rename_i hrq
      rw [beq_iff] at hrq
      subst hrq
      cases hA
      refine one_sound hI hd hg (fun z hz => ?_) Q
      simp only [getAll] at hz
      rw [valsOf_eq] at hz
      obtain ⟨d1, e, hz⟩ := arg1_some hz
      simp only [List.map_cons, List.map_nil, List.cons.injEq, and_true] at e
      subst e
      have hb : nth δ q ≠ .bad := by
        intro e
        rw [e] at hz
        simp [refIx] at hz
      obtain ⟨ii, f, h1, h2, h3⟩ := hI.ref hk hb
      have key : ∃ g o', av a q = .pointer (some ⟨g, o', none⟩) ∧ ∀ x, RefV (nthK c.K s) (av a s) ii (f + x) (.pointer (some ⟨g, o' + x, none⟩)) := by
        unfold RefV at h3 ⊢
        split at h3
        · obtain ⟨g, o, n, cc, e1, e2⟩ := h3
          exact ⟨g, _, e2, fun x => ⟨g, o, n, cc, e1, by rw [Nat.add_assoc]⟩⟩
        · obtain ⟨g, e1, e2⟩ := h3
          exact ⟨g, _, e2, fun x => ⟨g, e1, rfl⟩⟩
        · exact h3.elim
      obtain ⟨g, o', e1, e2⟩ := key
      exact step s ii f z _ d g o' h2 h1 e1 e2 hkd hz
    · cases hA

end
end Go.V
