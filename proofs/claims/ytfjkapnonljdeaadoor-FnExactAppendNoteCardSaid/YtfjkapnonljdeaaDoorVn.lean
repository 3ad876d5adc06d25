/-
  Stores, new slices, appends, parts of owned slices, parts of tuples: they keep the invariant.
-/
import Derived.Test.YtfjkapnonljdeaaDoorVm
namespace Go.V
open Go.RowKit

section
variable {P : Program} {c : Cx} {B : Nat} {X : Nat → Prop} {w0 : World} {F0 F : Nat → Prop} {O : Nat → Option (Nat × Nat)} {a : Act} {w : World} {δ : List D}

theorem wp_skipn {o : Oper} (hd : o.dst = none) {w' : World} {δ' : List D} {F' : Nat → Prop} {O' : Nat → Option (Nat × Nat)} {k : List D → Option Out} {r : Out}
    (hr : (execOp a.eval o).run P w = .ok .skip w') (hI : Inv c B X w0 F0 F' O' a w' δ') (hk : k δ' = some r) (Q : Exit → Act → World → Prop) : o.wp P a w (Next c B X w0 F0 k r) Q :=
  wp_skipv hr ⟨F', O', δ', by rw [hd]; exact hI, hk⟩

theorem stD_some {n : Nat} {b p x b' : D} (h : stD n b p x = some b') : b ≠ .bad ∧ x ≠ .bad ∧ ∃ i f, p = .ref i f := by
  unfold stD at h
  split at h
  · refine ⟨by simp, ?_, _, _, rfl⟩
    rintro rfl
    split at h
    · split at h
      · rename_i hc
        simp [D.cells, D.single] at hc
      · cases h
    · cases h
  · refine ⟨by simp, ?_, _, _, rfl⟩
    rintro rfl
    split at h
    · rename_i hc
      simp [D.cells, D.single] at hc
    · cases h
  · cases h

theorem blk_nil : blk .nilFunc = none := rfl

theorem write_dat (hI : Inv c B X w0 F0 F O a w δ) {o : Oper} {t : Nat} {q r : Nat} {x : Operand} (ho : o.op = .store t (.tmp q) x) (hd : o.dst = none) {i : TI} (hi : TOk P t i) {ii f : Nat} (hb : nth δ r ≠ .bad)
    (hr : RefV (nthK c.K r) (av a r) ii f (av a q)) {y b' : D} (hst : stD i.n (nth δ r) (.ref ii f) y = some b') (hy : RepV w (FB F B (rootLv c.K r)) y (a.eval x))
    {k : List D → Option Out} {rr : Out} (hk : k (setMany δ ([] ++ ([r] ++ depsAll c.K [])) [b']) = some rr) (Q : Exit → Act → World → Prop) : o.wp P a w (Next c B X w0 F0 k rr) Q := by
  obtain ⟨g, w', h1, h2, h3, h4, h5, h6, h7, h8, h9, h10⟩ := store_core hI (yy := .nilFunc) hb hr hst (hi.size w) (fun w' hw => RepV_mono (FB_mono fun _ h => .inl h) (fun b hb => hw b (.inl (FB_sub b hb))) hy) (fun g _ => by simp [blk])
  obtain ⟨F', O', hI'⟩ := hI.write (ts := []) (y := .nilFunc) (by simp) (fun b hb => by simp [blk] at hb) h9 (RefV_root hr) h2 h10 h4 h5 h6 h7 h8 h3
  refine wp_skipn hd (w' := w') ?_ hI' hk Q
  simp only [execOp, ho, Sem.run_bind, eval_tmp, h1, Result.andThen_ok, Sem.run_pure]

theorem goP_eq (q r : Nat) (more : List Nat) (k : D → D → List D → Option Out) : goP q r (getAll δ (app (rdP q r) more)) k = k (nth δ r) (if q = r then .ref 0 0 else nth δ q) (getAll δ more) := by
  unfold goP rdP
  cases h : Nat.beq q r
  · have hne : q ≠ r := fun e => by subst e; simp at h
    simp [hne, app, getAll]
  · have := beq_iff.1 h
    simp [this, app, getAll]

theorem stTo_sound {o : Oper} {t : Nat} {q r : Nat} {x : Operand} (ho : o.op = .store t (.tmp q) x) (hd : o.dst = none) {i : TI} (hi : TOk P t i) (hI : Inv c B X w0 F0 F O a w δ)
    (hpl : ∀ (y b' : D), stD i.n (nth δ r) (if q = r then .ref 0 0 else nth δ q) y = some b' → ∃ ii f, (if q = r then .ref 0 0 else nth δ q) = D.ref ii f ∧ RefV (nthK c.K r) (av a r) ii f (av a q))
    {A : Ac} (hA : stTo c i q r (rootLv c.K r) x = some A) {k : List D → Option Out} {rr : Out} (hg : goAc c A δ k = some rr) (Q : Exit → Act → World → Prop) : o.wp P a w (Next c B X w0 F0 k rr) Q := by
  have dat : ∀ (y : D), RepB w (FB F B (rootLv c.K r)) y (a.eval x) → stK false i.n (nth δ r) (if q = r then .ref 0 0 else nth δ q) y (fun b => k (setMany δ ([] ++ ([r] ++ depsAll c.K [])) [b])) = some rr → o.wp P a w (Next c B X w0 F0 k rr) Q := by
    intro y hy hk
    simp only [stK] at hk
    obtain ⟨b', h1, h2⟩ := Option.bind_eq_some_iff.1 hk
    obtain ⟨ii, f, h3, h4⟩ := hpl y b' h1
    obtain ⟨g1, g2, _⟩ := stD_some h1
    rw [h3] at h1
    exact write_dat hI ho hd hi g1 h4 h1 (hy.rep g2) h2 Q
  unfold stTo at hA
  split at hA
  · rename_i s
    split at hA
    · rename_i l hk
      split at hA
      · rename_i hl
        cases hA
        simp only [goAc, goP_eq] at hg
        exact dat (nth δ s) (RepB_le (ble_iff.1 hl) (hI.dat hk)) hg
      · rename_i hl h0
        cases hA
        simp only [goAc, goP_eq, stK, getAll, nthC] at hg
        obtain ⟨y, h1, h2⟩ := Option.bind_eq_some_iff.1 hg
        unfold chkV at h1
        split at h1
        case isFalse => cases h1
        rename_i hv
        cases h1
        refine dat (nth δ s) (.inr (RepV_isV hv ((hI.dat hk).rep ?_))) h2
        intro e
        rw [e] at hv
        simp [D.isV] at hv
      · cases hA
    · rename_i z l hk
      split at hA
      case h_2 => cases hA
      rename_i h1 h2 h3
      have hsr : s ≠ r := fun e => by subst e; simp at h3
      rw [ble_iff] at h1 h2
      cases hA
      simp only [goAc, goP_eq, stK, getAll, nthC] at hg
      obtain ⟨b', e1, e2⟩ := Option.bind_eq_some_iff.1 hg
      obtain ⟨ii, f, e3, e4⟩ := hpl _ _ e1
      obtain ⟨g1, g2, _⟩ := stD_some e1
      rw [e3] at e1
      have hown := hI.own hk g2
      have hblk := hown.blk
      have hy : ∀ b, blk (av a s) = some b → B ≤ b ∧ ∃ p, O b = some p ∧ p.1 ∈ [s] := fun b hb => ⟨(hblk b hb).1.2 rfl, _, (hblk b hb).1.1, by simp⟩
      have hrep : RepV w (FB (addF F (av a s)) B (rootLv c.K r)) (nth δ s) (av a s) := by
        refine RepV_mono (fun b hb => ?_) (fun _ _ => rfl) (OwnV_rep (hown.own (own' := fun g => B ≤ g ∧ V.blk (av a s) = some g) fun b hb ho => ⟨ho.2 rfl, hb⟩))
        rcases hb with hb | ⟨hb1, hb2⟩
        · exact FB_le h2 _ (FB_mono (fun _ h => .inl h) _ hb)
        · have hx : addF F (av a s) b := .inr hb2
          generalize rootLv c.K r = lv at h1
          match lv, h1 with
          | 1, _ => exact ⟨hx, hb1⟩
          | _ + 2, _ => exact hx
      obtain ⟨g, w', h1', h2', h3', h4', h5', h6', h7', h8', h9', h10'⟩ := store_core hI (yy := av a s) (yv := av a s) g1 e4 e1 (hi.size w) (fun w' hw => RepV_mono (fun _ h => h) (fun b hb => hw b (FB_sub b hb)) hrep) (fun g hg hb => by
        obtain ⟨_, p, hp, hp'⟩ := hy g hb
        rw [hg] at hp
        cases hp
        have e : r = s := by simpa using hp'
        exact hsr e.symm)
      obtain ⟨F', O', hI'⟩ := hI.write (ts := [s]) (y := av a s) (by simpa using fun e => hsr e.symm) hy h9' (RefV_root e4) h2' h10' h4' h5' h6' h7' h8' h3'
      refine wp_skipn hd (w' := w') ?_ hI' e2 Q
      simp only [execOp, ho, Sem.run_bind, eval_tmp, h1', Result.andThen_ok, Sem.run_pure]
    · cases hA
  · cases hA
  · rename_i v
    split at hA
    case h_2 => cases hA
    rename_i hv
    cases hA
    simp only [goAc, goP_eq] at hg
    refine dat (constD v) ?_ hg
    have := hI.opd (x := .const v) (by simp [lvOf, hv])
    simp only [lvOf, hv, opD] at this
    exact RepB_le (Nat.zero_le _) this
  · rename_i f
    cases hA
    simp only [goAc, goP_eq] at hg
    refine dat (.clo f []) ?_ hg
    have := hI.opd (x := .func f) (by simp [lvOf])
    simp only [lvOf, opD] at this
    exact RepB_le (Nat.zero_le _) this

theorem sound_store (hT : okT P c.T = true) {o : Oper} {t : Nat} {p x : Operand} (ho : o.op = .store t p x) : Sound P c o := by
  intro A hA B X w0 F0 F O a w δ hI k rr hg Q
  simp only [actOf, ho] at hA
  split at hA
  case h_2 => cases hA
  rename_i hd
  have hA0 := withT_some hA
  clear hA
  obtain ⟨i, hi, hA⟩ := hA0
  have hti := tok hT hi
  unfold stOf at hA
  split at hA
  case h_2 => cases hA
  rename_i q
  split at hA
  · rename_i n lv io hk
    have hlv : rootLv c.K q = lv := by simp [rootLv, hk]
    rw [← hlv] at hA
    refine stTo_sound ho hd hti hI (fun y b' hst => ?_) hA hg Q
    rw [if_pos rfl] at hst ⊢
    obtain ⟨hb, _, _⟩ := stD_some hst
    obtain ⟨l, us, g, e, _, a1, _⟩ := hI.box hk hb
    refine ⟨0, 0, rfl, ?_⟩
    rw [hk]
    exact ⟨g, a1, a1⟩
  · rename_i r hk
    refine stTo_sound ho hd hti hI (fun y b' hst => ?_) hA hg Q
    by_cases e : q = r
    · subst e
      obtain ⟨hb, _, _⟩ := stD_some hst
      obtain ⟨i', f', h1, _⟩ := hI.ref hk hb
      rw [h1] at hst
      simp [stD] at hst
    · rw [if_neg e] at hst ⊢
      obtain ⟨_, _, ii, f, hp⟩ := stD_some hst
      obtain ⟨i', f', h1, h2, h3⟩ := hI.ref hk (by rw [hp]; simp)
      exact ⟨i', f', h1, h3⟩
  · cases hA

end
end Go.V
