/-
  The law of metals: it returns true.
-/
import Derived.Test.YtkhggkbmjdopcaaN8
namespace Go.Proofs.Ytkhggkbmjdopcaa
open Go Go.V
set_option linter.unusedSimpArgs false

theorem notesOn_mem {l : List Nt} {a b : Int} {x : Nt} (h : x ∈ notesOn l a b) : a ≤ x.1 ∧ x.1 ≤ b := by
  unfold notesOn at h
  split at h
  · have := (List.mem_filter.1 h).2
    simpa [onDay] using this
  · simp at h
theorem pre_take {l : List Nt} {s : Int} {k : Nat} : pre (l.take k) s (l.take k).length = pre l s k := by
  unfold pre
  rw [List.take_length]

set_option maxRecDepth 100000 in
set_option maxHeartbeats 4000000 in
theorem law_Metals (code more : List Int) (hb1 : ∀ n ∈ code, 0 ≤ n ∧ n ≤ 255) (hb2 : ∀ n ∈ more, 0 ≤ n ∧ n ≤ 255) : F_laws_FnMetals [bytesD code, bytesD more] = some (.ret [B true] []) := by
  rw [t_laws_FnMetals]
  obtain ⟨p, hp, hp'⟩ := e_laws_big code more
  cases p
  case true => simp -implicitDefEqProofs only [hp, callK_ret, sl_zero, ifD_B, if_true]
  obtain ⟨hl1, hl2⟩ := hp' rfl
  obtain ⟨l, s, e1, b1⟩ := d_DrawLeastMetal code ⟨hb1, hl1⟩
  obtain ⟨u, a, b, e2, b2⟩ := d_DrawNotesOn more ⟨hb2, hl2⟩
  obtain ⟨v, st, dy, e3, b3⟩ := d_DrawMetalAfter more ⟨hb2, hl2⟩
  obtain ⟨w, k, e4, b4⟩ := d_DrawDropNote more ⟨hb2, hl2⟩
  obtain ⟨bf, x, e5⟩ := d_DrawNoteCheck more ⟨hb2, hl2⟩
  have i1 := e_impl_LeastMetal l s (by omega)
  have s1 := e_spec_LeastMetal l s (by omega)
  have i2 := e_impl_NotesOn u a b (by omega)
  have s2 := e_spec_NotesOn u a b (by omega)
  have i3 := e_impl_MetalAfter v st dy (by omega)
  have s3 := e_spec_MetalAfter v st dy (by omega)
  have i5 := e_impl_DropNote w k (by omega)
  have s5 := e_spec_DropNote w k (by omega)
  have hn := notesOn_len u a b
  have q2 := e_laws_pSameNotes (notesOn u a b) (by omega)
  cases hok : okLeast l s
  · simp -implicitDefEqProofs [hp, e1, i1, s1, hok, e2, i2, s2, e3, i3, s3, q2]
    refine loop_bind (.ext 2 [bytesD more]) (loop_for (notesOn u a b).length (fun i => [bytesD more, I a, I b, nts (notesOn u a b), I (notesOn u a b).length, I i]) _ (fun i hi => ?_) ?_ rfl ?_) ?_
    · have hw : IntKind.i64.wrap ((i : Int) + 1) = (i : Int) + 1 := wrap_id (by omega) (by omega)
      have hm := notesOn_mem (List.getElem_mem hi)
      have q1 : ¬ (notesOn u a b)[i].1 < a := by omega
      have q2 : ¬ b < (notesOn u a b)[i].1 := by omega
      simp -implicitDefEqProofs [hi, hw, q1, q2]
    · simp -implicitDefEqProofs
    · simp -implicitDefEqProofs
    · have hd := dropN_len w k
      have q5 := e_laws_pSameNotes (dropN w k) (by omega)
      cases hck : okCheck bf x
      · simp -implicitDefEqProofs [e4, e5, i5, s5, e_impl_NoteCheck, e_spec_NoteCheck, q5, hck]
      · have hc := ckN_in hck
        simp -implicitDefEqProofs [e4, e5, i5, s5, e_impl_NoteCheck, e_spec_NoteCheck, q5, hck, hc.1, hc.2]
  · have hok2 := hok
    simp only [okLeast, Bool.and_eq_true, Bool.not_eq_true', decide_eq_true_eq, decide_eq_false_iff_not] at hok2
    obtain ⟨⟨hg, hs⟩, hne'⟩ := hok2
    have hne : l ≠ [] := fun e => hne' (by simp [e])
    have hpos : 0 < l.length := List.length_pos_iff.2 hne
    obtain ⟨idx, g1, g2, g3, g4, g5⟩ := least_spec l s hne
    obtain ⟨M, hMd⟩ : ∃ M, M = (foldI leastF 0 l (s, 0, -1)).2.1 := ⟨_, rfl⟩
    have hM : leastM l s = (M, (idx : Int)) := by
      unfold leastM
      rw [if_pos hok, hMd, ← g1]
    rw [← hMd] at g3 g4 g5
    rw [hM] at i1 s1
    simp only [hok] at i1 s1
    simp -implicitDefEqProofs [hp, e1, i1, s1]
    refine loop_bind (.ext 0 [bytesD more, nts l, I s, I (pre l s l.length)]) (loop_for l.length (fun i => [bytesD more, nts l, I s, I M, I (idx : Int), I (pre l s i), nts l, I l.length, I i]) _ (fun i hi => ?_) ?_ rfl ?_) ?_
    · have hw : IntKind.i64.wrap ((i : Int) + 1) = (i : Int) + 1 := wrap_id (by omega) (by omega)
      have hN := pre_succ l s i hi
      have r1 : ¬ pre l s (i + 1) < M := by have := g4 i hi; omega
      have r2 : i < idx → ¬ pre l s (i + 1) = M := fun h => by have := g5 i h; omega
      have r3 : i = idx → pre l s (i + 1) = M := fun h => by rw [h]; exact g3.symm
      unfold metN at hN
      generalize pre l s (i + 1) = N at hN r1 r2 r3
      by_cases c1 : l[i].2.1 = 0
      · rw [if_pos (.inl c1)] at hN
        rcases Nat.lt_trichotomy i idx with h | rfl | h
        · simp -implicitDefEqProofs [hi, hw, c1, ← hN, r1, h, r2 h, show ¬ (i : Int) = (idx : Int) by omega]
        · simp -implicitDefEqProofs [hi, hw, c1, ← hN, r1, r3 rfl, Nat.lt_irrefl]
        · simp -implicitDefEqProofs [hi, hw, c1, ← hN, r1, Nat.not_lt.2 (Nat.le_of_lt h), show ¬ (i : Int) = (idx : Int) by omega]
      by_cases c2 : l[i].2.1 = 3
      · rw [if_pos (.inr c2)] at hN
        rcases Nat.lt_trichotomy i idx with h | rfl | h
        · simp -implicitDefEqProofs [hi, hw, c1, c2, ← hN, r1, h, r2 h, show ¬ (i : Int) = (idx : Int) by omega]
        · simp -implicitDefEqProofs [hi, hw, c1, c2, ← hN, r1, r3 rfl, Nat.lt_irrefl]
        · simp -implicitDefEqProofs [hi, hw, c1, c2, ← hN, r1, Nat.not_lt.2 (Nat.le_of_lt h), show ¬ (i : Int) = (idx : Int) by omega]
      · rw [if_neg (by simp [c1, c2])] at hN
        rcases Nat.lt_trichotomy i idx with h | rfl | h
        · simp -implicitDefEqProofs [hi, hw, c1, c2, ← hN, r1, h, r2 h, show ¬ (i : Int) = (idx : Int) by omega]
        · simp -implicitDefEqProofs [hi, hw, c1, c2, ← hN, r1, r3 rfl, Nat.lt_irrefl]
        · simp -implicitDefEqProofs [hi, hw, c1, c2, ← hN, r1, Nat.not_lt.2 (Nat.le_of_lt h), show ¬ (i : Int) = (idx : Int) by omega]
    · simp -implicitDefEqProofs
    · simp -implicitDefEqProofs [pre_zero]
    have ok1 : okMetal l s 9999 = true := by simp [okMetal, hg, hs]
    have i6 := e_impl_MetalAfter l s 9999 (by omega)
    rw [ok1, metalAfter_all hg] at i6
    obtain ⟨d1, d2⟩ := dropN_last hg hne
    have i7 := e_impl_DropNote l ((l.length : Int) - 1) (by omega)
    rw [d1, d2] at i7
    have hg2 := goodN_take hg (l.length - 1)
    have ok2 : okMetal (l.take (l.length - 1)) s 9999 = true := by simp [okMetal, hg2, hs]
    have i8 := e_impl_MetalAfter (l.take (l.length - 1)) s 9999 (by simp; omega)
    rw [ok2, metalAfter_all hg2, pre_take] at i8
    have hpn : ¬ pre l s (l.length - 1) = pre l s l.length := by
      have := pre_ne hg hs (l.length - 1) (by omega)
      rw [show l.length - 1 + 1 = l.length from by omega] at this
      exact fun e => this e.symm
    have hw7 : IntKind.i64.wrap ((l.length : Int) - 1) = (l.length : Int) - 1 := wrap_id (by omega) (by omega)
    have hlen : ((l.length - 1 : Nat) : Int) = (l.length : Int) - 1 := by omega
    have hmin : min (l.length - 1) l.length = l.length - 1 := by omega
    simp -implicitDefEqProofs [i6, i7, i8, hpn, hw7, hlen, hmin, e2, i2, s2, e3, i3, s3, q2]
    refine loop_bind (.ext 2 [bytesD more]) (loop_for (notesOn u a b).length (fun i => [bytesD more, I a, I b, nts (notesOn u a b), I (notesOn u a b).length, I i]) _ (fun i hi => ?_) ?_ rfl ?_) ?_
    · have hw : IntKind.i64.wrap ((i : Int) + 1) = (i : Int) + 1 := wrap_id (by omega) (by omega)
      have hm := notesOn_mem (List.getElem_mem hi)
      have q1 : ¬ (notesOn u a b)[i].1 < a := by omega
      have q2 : ¬ b < (notesOn u a b)[i].1 := by omega
      simp -implicitDefEqProofs [hi, hw, q1, q2]
    · simp -implicitDefEqProofs
    · simp -implicitDefEqProofs
    · have hd := dropN_len w k
      have q5 := e_laws_pSameNotes (dropN w k) (by omega)
      cases hck : okCheck bf x
      · simp -implicitDefEqProofs [e4, e5, i5, s5, e_impl_NoteCheck, e_spec_NoteCheck, q5, hck]
      · have hc := ckN_in hck
        simp -implicitDefEqProofs [e4, e5, i5, s5, e_impl_NoteCheck, e_spec_NoteCheck, q5, hck, hc.1, hc.2]

end Go.Proofs.Ytkhggkbmjdopcaa
