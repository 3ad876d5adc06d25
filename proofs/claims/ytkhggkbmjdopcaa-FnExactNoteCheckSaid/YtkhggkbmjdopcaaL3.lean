/-
  'laws.FnExactNoteCheck' holds: whatever the number before and the note, it returns true, and what it was given reads as it did.
-/
import Derived.Test.YtkhggkbmjdopcaaN1
import Derived.Test.YtkhggkbmjdopcaaVy
namespace Go.Proofs.Ytkhggkbmjdopcaa
open Go Go.V Go.RowKit Go.WideShapes Go.ChangeShapes

theorem Try.own : ownKnob Try.prog.godebug = none := by kernel_rfl
theorem Try.laidOut : laidOutB Try.prog = true := by kernel_rfl

abbrev shNote : Sh := .st (.cons (.int .i64) (.cons (.int .i64) (.cons (.int .i64) .nil)))

theorem shNote_is {y : D} (h : shNote.IsV y) : ∃ d k g, y = nt d k g := by
  obtain ⟨_, ⟨_, _, rfl, ⟨d, rfl, _⟩, ⟨_, _, rfl, ⟨k, rfl, _⟩, ⟨_, _, rfl, ⟨g, rfl, _⟩, rfl⟩⟩⟩, rfl⟩ := h
  exact ⟨d, k, g, rfl⟩
theorem law3 (ds : List D) (h : IsShs [.int .i64, shNote] ds) : F3 ds = some (.ret [B true] []) := by
  obtain ⟨x, y, rfl, h1, h2⟩ := shs_two h
  obtain ⟨a, rfl, _⟩ := int_is h1
  obtain ⟨d, k, g, rfl⟩ := shNote_is h2
  exact F3_eq a d k g

set_option maxRecDepth 100000 in
theorem lifted3 (os : Os) (started : os.Started) (H : Type) (enc : TypeId × Value → H) :
    ReturnsInHanded {} Try.checked os 3 .any (Rows.fnExactNoteCheckSpec.pre6 enc Try.prog Try.f3 Rows.fnExactNoteCheckRow.domain false) (Rows.fnExactNoteCheckSpec.post enc Try.prog Try.f3 false true false false) := by
  refine returnsInHanded_of_change (C := Try.checked) Try.own started (by kernel_rfl) Try.func3
    (ChangeSpec.witness6 (enc := enc) (C := Try.checked) false ⟨#[], #[.int .i64 0, .agg #[.int .i64 0, .int .i64 0, .int .i64 0]], []⟩ 8 (by kernel_rfl) (by kernel_rfl) (by kernel_rfl) (by kernel_rfl)) ?_
  intro W base args ds gs before hval hW _ _
  exact law_post M3 Try.func3 (by kernel_rfl) (by kernel_rfl) [.int .i64, shNote] Try.laidOut (by kernel_rfl) (by kernel_rfl) rfl rfl (by kernel_rfl) law3 rfl
    (fun l hl => by
      match l, hl with
      | [_, _], _ => rfl) hval hW

theorem holds : Rows.FnExactNoteCheckSaid :=
  OpenClaim.holds_of_wide 3 Try.f3 rfl rfl rfl rfl rfl rfl rfl ⟨rfl, rfl, rfl, rfl, rfl⟩ rfl rfl rfl rfl rfl (by kernel_rfl) Try.func3 (by kernel_rfl)
    (of_decide_eq_true (by kernel_rfl)) (by unfold Func.isWrapper; first | (rw [if_pos (by decide +kernel)]; kernel_rfl) | (rw [if_neg (by decide +kernel)]; exact ⟨rfl, rfl⟩))
    (fun os started H enc _ => lifted3 os started H enc)

end Go.Proofs.Ytkhggkbmjdopcaa
