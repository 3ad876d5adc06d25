/-
  'laws.FnExactMostInTime' holds: whatever it is given, it returns true, and what it was given reads as it did.
-/
import Derived.Test.YtaphcpfkgpaefaaRows
import Derived.Test.YtaphcpfkgpaefaaM7
namespace Go.Proofs.Ytaphcpfkgpaefaa
open Go Go.V Go.RowKit Go.WideShapes Go.ChangeShapes

theorem Try.own : ownKnob Try.prog.godebug = none := by kernel_rfl
theorem Try.laidOut : laidOutB Try.prog = true := by kernel_rfl

abbrev shOrder : Sh := .st (.cons (.int .i64) (.cons (.int .i64) (.cons (.int .i64) (.cons (.int .i64) .nil))))
theorem shOrder_is {y : D} (h : shOrder.IsV y) : ∃ x : Od, y = od x := by
  obtain ⟨_, ⟨_, _, rfl, ⟨d, rfl, _⟩, ⟨_, _, rfl, ⟨k, rfl, _⟩, ⟨_, _, rfl, ⟨g, rfl, _⟩, ⟨_, _, rfl, ⟨e, rfl, _⟩, rfl⟩⟩⟩⟩, rfl⟩ := h
  exact ⟨(d, k, g, e), rfl⟩
theorem shOrders_is {y : D} (h : (Sh.sl shOrder).IsV y) : ∃ l : List Od, y = ods l ∧ l.length ≤ 9223372036854775807 := sl_map (fun _ => shOrder_is) h
theorem law (ds : List D) (h : IsShs [.sl shOrder] ds) : F_laws_FnExactMostInTime ds = some (.ret [B true] []) := by
  obtain ⟨x, rfl, h1⟩ := shs_one h
  obtain ⟨l, rfl, hl⟩ := shOrders_is h1
  exact law_MostInTime l hl

set_option maxRecDepth 100000 in
theorem lifted (os : Os) (started : os.Started) (H : Type) (enc : TypeId × Value → H) :
    ReturnsInHanded {} Try.checked os 4 .any (Rows.fnExactMostInTimeSpec.pre6 enc Try.prog Try.f4 Rows.fnExactMostInTimeRow.domain false) (Rows.fnExactMostInTimeSpec.post enc Try.prog Try.f4 false true false false) := by
  refine returnsInHanded_of_change (C := Try.checked) Try.own started (by kernel_rfl) Try.func4
    (ChangeSpec.witness6 (enc := enc) (C := Try.checked) false ⟨#[], #[.slice none 0 0], []⟩ 8 (by kernel_rfl) (by kernel_rfl) (by kernel_rfl) (by kernel_rfl)) ?_
  intro W base args ds gs before hval hW _ _
  exact law_post M_laws_FnExactMostInTime Try.func4 (by kernel_rfl) (by kernel_rfl) [.sl shOrder] Try.laidOut (by kernel_rfl) (by kernel_rfl) rfl rfl (by kernel_rfl) law rfl
    (fun l hl => by
      match l, hl with
      | [_], _ => rfl) hval hW gOk_nil

theorem holds : Rows.FnExactMostInTimeSaid :=
  OpenClaim.holds_of_wide 4 Try.f4 rfl rfl rfl rfl rfl rfl rfl ⟨rfl, rfl, rfl, rfl, rfl⟩ rfl rfl rfl rfl rfl (by kernel_rfl) Try.func4 (by kernel_rfl)
    (of_decide_eq_true (by kernel_rfl)) (by unfold Func.isWrapper; first | (rw [if_pos (by decide +kernel)]; kernel_rfl) | (rw [if_neg (by decide +kernel)]; exact ⟨rfl, rfl⟩))
    (fun os started H enc _ => lifted os started H enc)

end Go.Proofs.Ytaphcpfkgpaefaa
