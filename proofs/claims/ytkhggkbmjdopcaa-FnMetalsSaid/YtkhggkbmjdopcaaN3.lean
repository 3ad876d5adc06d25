/-
  What the functions of notes compute, more: metal, notes of days, notes without one.
-/
import Derived.Test.YtkhggkbmjdopcaaN1
namespace Go.Proofs.Ytkhggkbmjdopcaa
open Go Go.V
set_option linter.unusedSimpArgs false

theorem e_spec_joDay (a : Int) : F_spec_joDay [I a] = some (.ret [B (decide (0 ≤ a ∧ a ≤ 9999))] []) := by
  rw [t_spec_joDay]
  simp [e_spec_l1In]
theorem e_impl_isMetalStart (a : Int) : F_impl_isMetalStart [I a] = some (.ret [B (decide (0 ≤ a ∧ a ≤ 1000000))] []) := by
  rw [t_impl_isMetalStart]
  simp [e_impl_within]
/-- The metal behind a note. -/
def metN (g : Int) (x : Nt) : Int := if x.2.1 = 0 ∨ x.2.1 = 3 then IntKind.i64.wrap (g + x.2.2) else IntKind.i64.wrap (g - x.2.2)
theorem e_spec_joMetal (g : Int) (x : Nt) : F_spec_joMetal [I g, nt x] = some (.ret [I (metN g x)] []) := by
  rw [t_spec_joMetal]
  by_cases h1 : x.2.1 = 0
  · simp [h1, metN]
  · by_cases h2 : x.2.1 = 3 <;> simp [h1, h2, metN]
theorem e_impl_change (x : Nt) : F_impl_change [nt x] = some (.ret [I (if x.2.1 = 0 ∨ x.2.1 = 3 then x.2.2 else IntKind.i64.wrap (-x.2.2))] []) := by
  rw [t_impl_change]
  by_cases h1 : x.2.1 = 0
  · simp [h1]
  · by_cases h2 : x.2.1 = 3 <;> simp [h1, h2]
theorem metN_eq (g : Int) (x : Nt) : IntKind.i64.wrap (g + if x.2.1 = 0 ∨ x.2.1 = 3 then x.2.2 else IntKind.i64.wrap (-x.2.2)) = metN g x := by
  unfold metN
  split
  · rfl
  · exact wrap_neg

def metalAfter (l : List Nt) (s d : Int) : Int := l.foldl (fun g x => if x.1 ≤ d then metN g x else g) s
def okMetal (l : List Nt) (s d : Int) : Bool := goodN l && decide (0 ≤ s ∧ s ≤ 1000000) && decide (0 ≤ d ∧ d ≤ 9999)
theorem e_spec_MetalAfter (l : List Nt) (s d : Int) (h : l.length ≤ 1048576) : F_spec_MetalAfter [nts l, I s, I d] = some (.ret [I (if okMetal l s d then metalAfter l s d else 0), B (okMetal l s d)] []) := by
  rw [t_spec_MetalAfter]
  cases h1 : goodN l
  · simp [e_spec_joGood l h, h1, okMetal]
  by_cases h2 : 0 ≤ s ∧ s ≤ 1000000
  case neg => simp [e_spec_joGood l h, e_spec_l1In, e_spec_joDay, h1, h2, okMetal]
  by_cases h3 : 0 ≤ d ∧ d ≤ 9999
  case neg => simp [e_spec_joGood l h, e_spec_l1In, e_spec_joDay, h1, h2, h3, okMetal]
  simp only [e_spec_joGood l h, e_spec_l1In, e_spec_joDay, h1, h2, h3, okMetal, callK_ret, sl_zero, un_not, Option.bind_some, gate_f, gateC_f, pickD_B, ifD_B, nrmK_some, Bool.not_true, Bool.false_eq_true, if_false, decide_true, lenD_arr, List.length_map, and_self, Bool.and_self, if_true]
  refine loop_bind _ (loop_for l.length (fun i => [I (metalAfter (l.take i) s d), I d, nts l, I l.length, I i]) (.ext 0 [I (metalAfter l s d)]) (fun i hi => ?_) ?_ rfl rfl) ?_
  · have hw : IntKind.i64.wrap ((i : Int) + 1) = (i : Int) + 1 := wrap_id (by omega) (by omega)
    have hf : metalAfter (l.take (i + 1)) s d = if l[i].1 ≤ d then metN (metalAfter (l.take i) s d) l[i] else metalAfter (l.take i) s d := by
      unfold metalAfter
      rw [List.take_succ_eq_append_getElem hi, List.foldl_append]
      rfl
    by_cases h4 : l[i].1 ≤ d <;> simp [hi, h4, hw, hf, e_spec_joMetal]
  · simp
  · simp
theorem e_impl_MetalAfter (l : List Nt) (s d : Int) (h : l.length ≤ 1048576) : F_impl_MetalAfter [nts l, I s, I d] = some (.ret [I (if okMetal l s d then metalAfter l s d else 0), B (okMetal l s d)] []) := by
  rw [t_impl_MetalAfter]
  cases h1 : goodN l
  · simp [e_impl_AreNotes l h, h1, okMetal]
  by_cases h2 : 0 ≤ s ∧ s ≤ 1000000
  case neg => simp [e_impl_AreNotes l h, e_impl_isMetalStart, e_impl_isNoteDay, h1, h2, okMetal]
  by_cases h3 : 0 ≤ d ∧ d ≤ 9999
  case neg => simp [e_impl_AreNotes l h, e_impl_isMetalStart, e_impl_isNoteDay, h1, h2, h3, okMetal]
  simp only [e_impl_AreNotes l h, e_impl_isMetalStart, e_impl_isNoteDay, h1, h2, h3, okMetal, callK_ret, sl_zero, un_not, Option.bind_some, gate_f, gateC_f, pickD_B, ifD_B, nrmK_some, Bool.not_true, Bool.false_eq_true, if_false, decide_true, lenD_arr, List.length_map, and_self, Bool.and_self, if_true]
  refine loop_bind _ (loop_for l.length (fun i => [I (metalAfter (l.take i) s d), I d, nts l, I l.length, I i]) (.ext 0 [I (metalAfter l s d)]) (fun i hi => ?_) ?_ rfl rfl) ?_
  · have hw : IntKind.i64.wrap ((i : Int) + 1) = (i : Int) + 1 := wrap_id (by omega) (by omega)
    have hf : metalAfter (l.take (i + 1)) s d = if l[i].1 ≤ d then metN (metalAfter (l.take i) s d) l[i] else metalAfter (l.take i) s d := by
      unfold metalAfter
      rw [List.take_succ_eq_append_getElem hi, List.foldl_append]
      rfl
    by_cases h4 : l[i].1 ≤ d <;> simp [hi, h4, hw, hf, e_impl_change, metN_eq]
  · simp
  · simp
theorem law_MetalAfter (l : List Nt) (s d : Int) (_h : l.length ≤ 9223372036854775807) : F_laws_FnExactMetalAfter [nts l, I s, I d] = some (.ret [B true] []) := by
  rw [t_laws_FnExactMetalAfter]
  obtain ⟨m, h1, h2⟩ := e_laws_szNoteS l 1048576
  by_cases hm : m < 0
  · simp [h1, hm]
  · have h3 := h2 (by omega)
    rw [wrap_id (by omega) (by omega)] at h3
    have hl : l.length ≤ 1048576 := by omega
    simp [h1, hm, e_laws_toNoteS l hl, e_spec_MetalAfter l s d hl, e_impl_MetalAfter l s d hl, e_laws_eqNoteS l (by omega)]

/-- The least metal: (metal, least, its place). -/
def leastF (i : Nat) (a : Int × Int × Int) (x : Nt) : Int × Int × Int := if a.2.2 < 0 ∨ metN a.1 x < a.2.1 then (metN a.1 x, metN a.1 x, i) else (metN a.1 x, a.2.1, a.2.2)
def okLeast (l : List Nt) (s : Int) : Bool := goodN l && decide (0 ≤ s ∧ s ≤ 1000000) && !decide (l.length = 0)
def leastM (l : List Nt) (s : Int) : Int × Int := if okLeast l s then (foldI leastF 0 l (s, 0, -1)).2 else (0, 0)
theorem e_spec_LeastMetal (l : List Nt) (s : Int) (h : l.length ≤ 1048576) : F_spec_LeastMetal [nts l, I s] = some (.ret [I (leastM l s).1, I (leastM l s).2, B (okLeast l s)] []) := by
  rw [t_spec_LeastMetal]
  cases h1 : goodN l
  · simp [e_spec_joGood l h, h1, okLeast, leastM]
  by_cases h2 : 0 ≤ s ∧ s ≤ 1000000
  case neg => simp [e_spec_joGood l h, e_spec_l1In, h1, h2, okLeast, leastM]
  by_cases h3 : (l.length : Int) = 0
  case pos =>
    have h3' : l = [] := List.eq_nil_of_length_eq_zero (by omega)
    subst h3'
    simp [e_spec_joGood [] h, e_spec_l1In, h1, h2, okLeast, leastM]
  have h3' : ¬ l = [] := fun e => h3 (by simp [e])
  have hok : okLeast l s = true := by simp [okLeast, h1, h2, h3']
  simp only [e_spec_joGood l h, e_spec_l1In, h1, h2, h3, callK_ret, sl_zero, un_not, Option.bind_some, gate_f, gateC_f, pickD_B, ifD_B, nrmK_some, Bool.not_true, Bool.false_eq_true, if_false, decide_true, decide_false, bin_eql, lenD_arr, List.length_map, and_self, Bool.and_self, if_true]
  refine loop_bind _ (loop_foldi l (fun i a => [I a.1, I a.2.1, I a.2.2, nts l, I l.length, I i]) (fun _ _ => True) leastF (fun a => .ext 0 [I a.2.1, I a.2.2]) (s, 0, -1) (fun i a hi _ => ⟨?_, trivial⟩) (fun a _ => ?_) (fun _ => rfl) trivial rfl) ?_
  · have hw : IntKind.i64.wrap ((i : Int) + 1) = (i : Int) + 1 := wrap_id (by omega) (by omega)
    by_cases h4 : a.2.2 < 0
    · simp [hi, h4, hw, leastF, e_spec_joMetal]
    · by_cases h5 : metN a.1 l[i] < a.2.1 <;> simp [hi, h4, h5, hw, leastF, e_spec_joMetal]
  · simp
  · simp [leastM, hok]
theorem e_impl_LeastMetal (l : List Nt) (s : Int) (h : l.length ≤ 1048576) : F_impl_LeastMetal [nts l, I s] = some (.ret [I (leastM l s).1, I (leastM l s).2, B (okLeast l s)] []) := by
  rw [t_impl_LeastMetal]
  cases h1 : goodN l
  · simp [e_impl_AreNotes l h, h1, okLeast, leastM]
  by_cases h2 : 0 ≤ s ∧ s ≤ 1000000
  case neg => simp [e_impl_AreNotes l h, e_impl_isMetalStart, h1, h2, okLeast, leastM]
  by_cases h3 : (l.length : Int) = 0
  case pos =>
    have h3' : l = [] := List.eq_nil_of_length_eq_zero (by omega)
    subst h3'
    simp [e_impl_AreNotes [] h, e_impl_isMetalStart, h1, h2, okLeast, leastM]
  have h3' : ¬ l = [] := fun e => h3 (by simp [e])
  have hok : okLeast l s = true := by simp [okLeast, h1, h2, h3']
  simp only [e_impl_AreNotes l h, e_impl_isMetalStart, h1, h2, h3, callK_ret, sl_zero, un_not, Option.bind_some, gate_f, gateC_f, pickD_B, ifD_B, nrmK_some, Bool.not_true, Bool.false_eq_true, if_false, decide_true, decide_false, bin_eql, lenD_arr, List.length_map, and_self, Bool.and_self, if_true]
  refine loop_bind _ (loop_foldi l (fun i a => [I a.1, I a.2.1, I a.2.2, nts l, I l.length, I i]) (fun _ _ => True) leastF (fun a => .ext 0 [I a.2.1, I a.2.2]) (s, 0, -1) (fun i a hi _ => ⟨?_, trivial⟩) (fun a _ => ?_) (fun _ => rfl) trivial rfl) ?_
  · have hw : IntKind.i64.wrap ((i : Int) + 1) = (i : Int) + 1 := wrap_id (by omega) (by omega)
    by_cases h4 : a.2.2 < 0
    · simp [hi, h4, hw, leastF, e_impl_change, metN_eq]
    · by_cases h5 : metN a.1 l[i] < a.2.1 <;> simp [hi, h4, h5, hw, leastF, e_impl_change, metN_eq]
  · simp
  · simp [leastM, hok]
theorem law_LeastMetal (l : List Nt) (s : Int) (_h : l.length ≤ 9223372036854775807) : F_laws_FnExactLeastMetal [nts l, I s] = some (.ret [B true] []) := by
  rw [t_laws_FnExactLeastMetal]
  obtain ⟨m, h1, h2⟩ := e_laws_szNoteS l 1048576
  by_cases hm : m < 0
  · simp [h1, hm]
  · have h3 := h2 (by omega)
    rw [wrap_id (by omega) (by omega)] at h3
    have hl : l.length ≤ 1048576 := by omega
    simp [h1, hm, e_laws_toNoteS l hl, e_spec_LeastMetal l s hl, e_impl_LeastMetal l s hl, e_laws_eqNoteS l (by omega)]

end Go.Proofs.Ytkhggkbmjdopcaa
