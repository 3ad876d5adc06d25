/-
  'laws.FnExactMetalAfter' holds: whatever it is given, it returns true, and what it was given reads as it did.
-/
import Derived.Test.YtkhggkbmjdopcaaN3
namespace Go.Proofs.Ytkhggkbmjdopcaa
open Go Go.V Go.RowKit Go.WideShapes Go.ChangeShapes

theorem Try.own : ownKnob Try.prog.godebug = none := by kernel_rfl
theorem Try.laidOut : laidOutB Try.prog = true := by kernel_rfl

abbrev shNote : Sh := .st (.cons (.int .i64) (.cons (.int .i64) (.cons (.int .i64) .nil)))
theorem shNote_is {y : D} (h : shNote.IsV y) : ∃ x : Nt, y = nt x := by
  obtain ⟨_, ⟨_, _, rfl, ⟨d, rfl, _⟩, ⟨_, _, rfl, ⟨k, rfl, _⟩, ⟨_, _, rfl, ⟨g, rfl, _⟩, rfl⟩⟩⟩, rfl⟩ := h
  exact ⟨(d, k, g), rfl⟩
theorem shNotes_is {y : D} (h : (Sh.sl shNote).IsV y) : ∃ l : List Nt, y = nts l ∧ l.length ≤ 9223372036854775807 := sl_map (fun _ => shNote_is) h
theorem law (ds : List D) (h : IsShs [.sl shNote, .int .i64, .int .i64] ds) : F_laws_FnExactMetalAfter ds = some (.ret [B true] []) := by
  obtain ⟨x, y, z, rfl, h1, h2, h3⟩ := shs_three h
  obtain ⟨l, rfl, hl⟩ := shNotes_is h1
  obtain ⟨a, rfl, _⟩ := int_is h2
  obtain ⟨b, rfl, _⟩ := int_is h3
  exact law_MetalAfter l a b hl


set_option maxRecDepth 100000 in
theorem lifted (os : Os) (started : os.Started) (H : Type) (enc : TypeId × Value → H) :
    ReturnsInHanded {} Try.checked os 5 .any (Rows.fnExactMetalAfterSpec.pre6 enc Try.prog Try.f5 Rows.fnExactMetalAfterRow.domain false) (Rows.fnExactMetalAfterSpec.post enc Try.prog Try.f5 false true false false) := by
  refine returnsInHanded_of_change (C := Try.checked) Try.own started (by kernel_rfl) Try.func5
    (ChangeSpec.witness6 (enc := enc) (C := Try.checked) false ⟨#[], #[.slice none 0 0, .int .i64 0, .int .i64 0], []⟩ 8 (by kernel_rfl) (by kernel_rfl) (by kernel_rfl) (by kernel_rfl)) ?_
  intro W base args ds gs before hval hW _ _
  exact law_post M_laws_FnExactMetalAfter Try.func5 (by kernel_rfl) (by kernel_rfl) [.sl shNote, .int .i64, .int .i64] Try.laidOut (by kernel_rfl) (by kernel_rfl) rfl rfl (by kernel_rfl) law rfl
    (fun l hl => by
      match l, hl with
      | [_, _, _], _ => rfl) hval hW

theorem holds : Rows.FnExactMetalAfterSaid :=
  OpenClaim.holds_of_wide 5 Try.f5 rfl rfl rfl rfl rfl rfl rfl ⟨rfl, rfl, rfl, rfl, rfl⟩ rfl rfl rfl rfl rfl (by kernel_rfl) Try.func5 (by kernel_rfl)
    (of_decide_eq_true (by kernel_rfl)) (by unfold Func.isWrapper; first | (rw [if_pos (by decide +kernel)]; kernel_rfl) | (rw [if_neg (by decide +kernel)]; exact ⟨rfl, rfl⟩))
    (fun os started H enc _ => lifted os started H enc)

end Go.Proofs.Ytkhggkbmjdopcaa
