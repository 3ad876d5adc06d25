/-
  The laws of journals that are written.
-/
import Derived.Test.YtfjkapnonljdeaaDoorT9
namespace Go.Proofs.YtfjkapnonljdeaaDoor
open Go Go.V
set_option linter.unusedSimpArgs false

theorem e_laws_toNote (x : Nt) : F_laws_toNote [nt x] = some (.ret [nt x] []) := by
  rw [t_laws_toNote]
  simp
theorem e_laws_szNoteS (l : List Nt) (n : Int) : ∃ m, F_laws_szNoteS [nts l, I n] = some (.ret [I m] []) ∧ (0 ≤ m → m = IntKind.i64.wrap (n - l.length)) := by
  rw [t_laws_szNoteS]
  by_cases h : IntKind.i64.wrap (n - l.length) < 0
  · exact ⟨-1, by simp [h], by omega⟩
  · exact ⟨_, by simp [h], fun _ => rfl⟩
theorem e_laws_toNoteS (l : List Nt) (h : l.length ≤ 1048576) : F_laws_toNoteS [nts l] = some (.ret [nts l] []) := by
  rw [t_laws_toNoteS]
  have h1 : l.length * 24 ≤ 140737488355328 := by omega
  have h2 : l.length ≤ 140737488355328 := by omega
  simp only [lenD_arr, List.length_map, Option.bind_some, makD_nat, Nat.le_refl, h1, h2, and_self, if_true]
  rw [fillL_zero (f := nt) (l := l)]
  refine loop_bind (.ext 0 [nts l]) (loop_for l.length (fun i => [nts l, .arr 3 (fillL nt (nt (0, 0, 0)) l i), I i]) _ (fun i hi => ?_) ?_ rfl rfl) ?_
  · have hx := List.getElem?_eq_getElem hi
    have hg := fillL_get (f := nt) (z := nt (0, 0, 0)) hi
    have hs := fillL_set (f := nt) (z := nt (0, 0, 0)) hx
    simp [hi, e_laws_toNote, Nat.le_of_lt hi, stD_arr hg, hs]
    exact wrap_id (by omega) (by omega)
  · simp [fillL_full]
  · simp

theorem good_all {l : List Nt} (h : goodN l = true) : (∀ x ∈ l, isNt x = true) ∧ l.length ≤ 24 := by
  unfold goodN at h
  simp only [Bool.and_eq_true, decide_eq_true_eq] at h
  refine ⟨?_, h.2⟩
  have key : ∀ (p : Nat → Nt → Bool) (m : List Nt) (i : Nat), allI p i m = true → ∀ x ∈ m, ∃ j, p j x = true := by
    intro p m
    induction m with
    | nil => intro i _ x hx; cases hx
    | cons y m ih =>
      intro i hi x hx
      simp only [allI, Bool.and_eq_true] at hi
      rcases List.mem_cons.1 hx with rfl | hx
      · exact ⟨i, hi.1⟩
      · exact ih (i + 1) hi.2 x hx
  intro x hx
  obtain ⟨j, hj⟩ := key _ _ _ h.1 x hx
  simp only [pNt, Bool.and_eq_true] at hj
  exact hj.1
theorem e_spec_joText (l : List Nt) (hg : ∀ x ∈ l, isNt x = true) (hl : l.length ≤ 1048576) : F_spec_joText [nts l] = some (.ret [T (jT l 7)] []) := by
  rw [t_spec_joText]
  simp -implicitDefEqProofs only [lenD_arr, List.length_map, Option.bind_some]
  refine loop_wf_bind (fun r => r = _) (fun (a : ByteArray × Int × Nat) => [T a.1, I a.2.1, nts l, I (l.length : Int), I (a.2.2 : Int)]) (fun a => a.2.2 ≤ l.length ∧ (0 ≤ a.2.1 ∧ a.2.1 ≤ 9972) ∧ a.1 ++ jT (l.drop a.2.2) a.2.1 = jT l 7 ∧ a.1.size ≤ 44 * a.2.2)
    (fun a => l.length - a.2.2) (fun o => o = .ext 0 [T (jT l 7)]) ?_ (⟨#[]⟩, 7, 0) ⟨Nat.zero_le _, ⟨by decide, by decide⟩, by apply chars_inj; rw [chars_append]; rfl, Nat.le_refl _⟩ rfl ?_
  · rintro ⟨s, c, i⟩ ⟨h1, h2, h3, h4⟩
    simp only at h1 h2 h3 h4
    by_cases hp : i < l.length
    · left
      have hpi : (i : Int) < (l.length : Int) := by omega
      have hx : isNt l[i] = true := hg _ (List.getElem_mem hp)
      have hck := ckN_range c l[i]
      have hel : elemD 3 (nts l) (I (i : Int)) = some (nt l[i]).cells := by simp [hp]
      have lx : ∀ x : Nt, (ldD true 3 (.ptr (nt x).cells)).bind chkV = some (nt x) := fun x => by simp
      have hz := lnT_size hx hck
      have hw : IntKind.i64.wrap ((i : Int) + 1) = ((i + 1 : Nat) : Int) := by rw [wrap_id (by omega) (by omega)]; omega
      have hadd : bin BinOp.add false [] (T s) (T (lnT l[i] (ckN c l[i]))) = some (T (s ++ lnT l[i] (ckN c l[i]))) := by rw [bin_addS, if_pos (by omega)]
      refine ⟨(s ++ lnT l[i] (ckN c l[i]), ckN c l[i], i + 1), ?_, ⟨hp, hck, ?_, ?_⟩, by simp only; omega⟩
      · simp -implicitDefEqProofs only [sl_zero, sl_succ, bin_lss, hpi, decide_true, Option.bind_some, ifD_B, if_true, hel, Option.map_some, lx, put_nt, fld_nt, e_spec_joCheck h2 hx, callK_ret, e_spec_joLine hx hck, hadd, bin_add, hw]
      · rw [← h3, List.drop_eq_getElem_cons hp]
        apply chars_inj
        simp only [jT, chars_append, List.append_assoc]
      · rw [ByteArray.size_append]
        simp only
        omega
    · right
      have hpi : ¬ (i : Int) < (l.length : Int) := by omega
      rw [List.drop_eq_nil_of_le (by omega)] at h3
      have h5 : s = jT l 7 := by
        rw [← h3]
        apply chars_inj
        rw [chars_append]
        simp [jT, chars]
      refine ⟨_, ?_, rfl, rfl⟩
      simp -implicitDefEqProofs only [sl_zero, sl_succ, bin_lss, hpi, decide_false, Option.bind_some, ifD_B, Bool.false_eq_true, if_false, h5]
  · rintro o rfl
    simp -implicitDefEqProofs only [outK_ext, Nat.beq_refl, ifN_B, if_true, sl_zero]
theorem e_spec_joIf (s : ByteArray) : F_spec_joIf [T s] = some (.ret [T (if s.size ≤ 300 then s else ⟨#[]⟩), B (decide (s.size ≤ 300))] []) := by
  rw [t_spec_joIf]
  by_cases h : s.size ≤ 300
  · have h' : ¬ (300 : Int) < (s.size : Int) := by omega
    simp -implicitDefEqProofs only [lenD_str, bin_gtr, h', h, decide_false, decide_true, Option.bind_some, ifD_B, Bool.false_eq_true, if_false, if_true]
  · have h' : (300 : Int) < (s.size : Int) := by omega
    simp -implicitDefEqProofs only [lenD_str, bin_gtr, h', h, decide_false, decide_true, Option.bind_some, ifD_B, if_false, if_true]
theorem e_fJournal (l : List Nt) (hg : ∀ x ∈ l, isNt x = true) (hl : l.length ≤ 1048576) : fJournal [nts l] = some (.ret [T (jT l 7)] []) := by
  simp only [fJournal, ntsOf_map, Option.bind_some]
  rw [if_pos ⟨hg, hl⟩]

def jtS (l : List Nt) : ByteArray × Bool := if goodN l = true ∧ (jT l 7).size ≤ 300 then (jT l 7, true) else (⟨#[]⟩, false)
theorem e_spec_JournalText (l : List Nt) (h : l.length ≤ 1048576) : F_spec_JournalText [nts l] = some (.ret [T (jtS l).1, B (jtS l).2] []) := by
  rw [t_spec_JournalText]
  unfold jtS
  cases hg : goodN l
  · rw [if_neg (fun g => by cases g.1)]
    simp -implicitDefEqProofs only [e_spec_joGood l h, hg, callK_ret, sl_zero, un_not, Bool.not_false, Option.bind_some, ifD_B, if_true]
  · have hall := (good_all hg).1
    by_cases hz : (jT l 7).size ≤ 300
    · rw [if_pos ⟨rfl, hz⟩]
      simp -implicitDefEqProofs [e_spec_joGood l h, hg, e_spec_joText l hall h, e_spec_joIf, hz]
    · rw [if_neg (fun g => hz g.2)]
      simp -implicitDefEqProofs [e_spec_joGood l h, hg, e_spec_joText l hall h, e_spec_joIf, hz]
theorem e_impl_JournalText (l : List Nt) (h : l.length ≤ 1048576) : F_impl_JournalText [nts l] = some (.ret [T (jtS l).1, B (jtS l).2] []) := by
  rw [t_impl_JournalText]
  unfold jtS
  cases hg : goodN l
  · rw [if_neg (fun g => by cases g.1)]
    simp -implicitDefEqProofs [e_impl_AreNotes l h, hg]
  · have hall := (good_all hg).1
    by_cases hz : (jT l 7).size ≤ 300
    · have hz' : ¬ (300 : Int) < ((jT l 7).size : Int) := by omega
      rw [if_pos ⟨rfl, hz⟩]
      simp -implicitDefEqProofs [e_impl_AreNotes l h, hg, e_fJournal l hall h, hz']
    · have hz' : (300 : Int) < ((jT l 7).size : Int) := by omega
      rw [if_neg (fun g => hz g.2)]
      simp -implicitDefEqProofs [e_impl_AreNotes l h, hg, e_fJournal l hall h, hz']
theorem law_JournalText (l : List Nt) (_h : l.length ≤ 9223372036854775807) : F_laws_FnExactJournalText [nts l] = some (.ret [B true] []) := by
  rw [t_laws_FnExactJournalText]
  obtain ⟨m, h1, h2⟩ := e_laws_szNoteS l 1048576
  by_cases hm : m < 0
  · simp -implicitDefEqProofs [h1, hm]
  · have h3 := h2 (by omega)
    rw [wrap_id (by omega) (by omega)] at h3
    have hl : l.length ≤ 1048576 := by omega
    have e1 := e_spec_JournalText l hl
    have e2 := e_impl_JournalText l hl
    generalize jtS l = R at *
    simp -implicitDefEqProofs [h1, hm, e_laws_toNoteS l hl, e1, e2, e_laws_eqNoteS l (by omega)]

def anS (s : ByteArray) (x : Nt) : ByteArray × Bool := if (jrS s).2 = true then jtS ((jrS s).1 ++ [x]) else (⟨#[]⟩, false)
theorem jrS_len (s : ByteArray) : (jrS s).1.length ≤ 24 := by
  unfold jrS
  split
  · exact jo_len s
  · exact Nat.zero_le _
theorem box_nt (x : Nt) : boxD 3 (nt x) = some (nt x) := by simp
theorem emptyT : D.v (Value.string { data := { toList := [] } }) = T ⟨#[]⟩ := rfl
theorem e_spec_AppendNote (s : ByteArray) (x : Nt) (h : s.size ≤ 1048576) : F_spec_AppendNote [T s, nt x] = some (.ret [T (anS s x).1, B (anS s x).2] []) := by
  rw [t_spec_AppendNote]
  have e1 := e_spec_ReadJournal s h
  have hlen := jrS_len s
  unfold anS
  generalize jrS s = R at *
  obtain ⟨l, p⟩ := R
  simp only at e1 hlen ⊢
  have ha0 : appD 3 24 (.arr 3 []) (nts l) = some (nts l) := app_nts (l := []) (m := l) (by simp; omega)
  have hap := app_nts (l := l) (m := [x]) (by simp; omega)
  simp -implicitDefEqProofs only [box_nt, Option.bind_some, e1, callK_ret, tp0, tc0, tpB1, mkArr_nil, chk_nts, ha0, fld_nt, mk_nts, hap, un_not]
  have hl2 : (l ++ [x]).length ≤ 1048576 := by rw [List.length_append, List.length_singleton]; omega
  have hg := e_spec_joGood (l ++ [x]) hl2
  cases p
  · simp -implicitDefEqProofs
  unfold jtS
  cases hgd : goodN (l ++ [x])
  · simp -implicitDefEqProofs [hg, hgd]
  · have hall := (good_all hgd).1
    have hT := e_spec_joText (l ++ [x]) hall hl2
    have hI := e_spec_joIf (jT (l ++ [x]) 7)
    rw [hgd] at hg
    generalize l ++ [x] = m at *
    by_cases hz : (jT m 7).size ≤ 300 <;> simp -implicitDefEqProofs [hg, hT, hI, hz]
theorem e_impl_AppendNote (s : ByteArray) (x : Nt) (h : s.size ≤ 1048576) : F_impl_AppendNote [T s, nt x] = some (.ret [T (anS s x).1, B (anS s x).2] []) := by
  rw [t_impl_AppendNote]
  have e1 := e_impl_readJournal s h
  have hlen := jrS_len s
  unfold anS
  generalize jrS s = R at *
  obtain ⟨l, p⟩ := R
  simp only at e1 hlen ⊢
  have hap := app_nts (l := l) (m := [x]) (by simp; omega)
  have hl2 : (l ++ [x]).length ≤ 1048576 := by rw [List.length_append, List.length_singleton]; omega
  have hJ := e_impl_JournalText (l ++ [x]) hl2
  simp -implicitDefEqProofs only [box_nt, Option.bind_some, e1, callK_ret, tp0, tc0, tpB1, un_not, fld_nt]
  cases p
  · simp -implicitDefEqProofs
  cases hx : isNt x
  · have hg : goodN (l ++ [x]) = false := by
      cases hg : goodN (l ++ [x])
      · rfl
      · rw [(goodN_last hg).1] at hx
        cases hx
    have : jtS (l ++ [x]) = (⟨#[]⟩, false) := by
      unfold jtS
      rw [if_neg (fun g => by rw [hg] at g; cases g.1)]
    rw [this]
    simp -implicitDefEqProofs [e_impl_isNote, hx]
  · simp -implicitDefEqProofs only [e_impl_isNote, hx, Bool.not_true, gate_f, gateC_f, nrmK_some, callK_ret, sl_zero, Option.bind_some, un_not, Bool.false_eq_true, if_false, if_true, pickD_B, ifD_B, mk_nts, hap, hJ]
    simp -implicitDefEqProofs
theorem law_AppendNote (s : ByteArray) (x : Nt) : F_laws_FnExactAppendNote [T s, nt x] = some (.ret [B true] []) := by
  rw [t_laws_FnExactAppendNote]
  by_cases hm : (1048576 : Int) < (s.size : Int)
  · simp -implicitDefEqProofs [hm]
  · have hs : s.size ≤ 1048576 := by omega
    have e1 := e_spec_AppendNote s x hs
    have e2 := e_impl_AppendNote s x hs
    have e3 := e_laws_toNote x
    generalize anS s x = R at *
    simp -implicitDefEqProofs [hm, e1, e2, e3]
end Go.Proofs.YtfjkapnonljdeaaDoor
