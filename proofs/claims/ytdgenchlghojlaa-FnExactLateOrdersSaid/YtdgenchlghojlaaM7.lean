/-
  'laws.FnExactLateOrders' holds: whatever it is given, it returns true, and what it was given reads as it did.
-/
import Derived.Test.YtdgenchlghojlaaRows
import Derived.Test.YtdgenchlghojlaaM6
namespace Go.Proofs.Ytdgenchlghojlaa
open Go Go.V Go.RowKit Go.WideShapes Go.ChangeShapes

theorem Try.own : ownKnob Try.prog.godebug = none := by kernel_rfl
theorem Try.laidOut : laidOutB Try.prog = true := by kernel_rfl

abbrev shOrder : Sh := .st (.cons (.int .i64) (.cons (.int .i64) (.cons (.int .i64) (.cons (.int .i64) .nil))))
theorem shOrder_is {y : D} (h : shOrder.IsV y) : ∃ x : Od, y = od x := by
  obtain ⟨_, ⟨_, _, rfl, ⟨d, rfl, _⟩, ⟨_, _, rfl, ⟨k, rfl, _⟩, ⟨_, _, rfl, ⟨g, rfl, _⟩, ⟨_, _, rfl, ⟨e, rfl, _⟩, rfl⟩⟩⟩⟩, rfl⟩ := h
  exact ⟨(d, k, g, e), rfl⟩
theorem shOrders_is {y : D} (h : (Sh.sl shOrder).IsV y) : ∃ l : List Od, y = ods l ∧ l.length ≤ 9223372036854775807 := sl_map (fun _ => shOrder_is) h
theorem ints_is {y : D} (h : (Sh.sl (.int .i64)).IsV y) : ∃ l : List Int, y = ints l ∧ ∀ x ∈ l, inI x := by
  obtain ⟨ds, rfl, -, h2⟩ := sl_is h
  have : ∃ l : List Int, ds = l.map (fun n => I n) ∧ ∀ n ∈ l, inI n := by
    clear h
    induction ds with
    | nil => exact ⟨[], rfl, by simp⟩
    | cons d ds ih =>
      obtain ⟨n, rfl, k1, k2⟩ := int_is (h2 d (by simp))
      obtain ⟨l, rfl, k3⟩ := ih (fun e he => h2 e (by simp [he]))
      refine ⟨n :: l, rfl, fun m hm => ?_⟩
      rcases List.mem_cons.1 hm with rfl | hm
      · exact ⟨k1, k2⟩
      · exact k3 m hm
  obtain ⟨l, rfl, h3⟩ := this
  exact ⟨l, rfl, h3⟩
theorem law (ds : List D) (h : IsShs [.sl shOrder, .sl (.int .i64)] ds) : F_laws_FnExactLateOrders ds = some (.ret [B true] []) := by
  obtain ⟨x, y, rfl, h1, h2⟩ := shs_two h
  obtain ⟨l, rfl, hl⟩ := shOrders_is h1
  obtain ⟨s, rfl, hs⟩ := ints_is h2
  exact law_LateOrders l s hl hs


set_option maxRecDepth 100000 in
theorem lifted (os : Os) (started : os.Started) (H : Type) (enc : TypeId × Value → H) :
    ReturnsInHanded {} Try.checked os 6 .any (Rows.fnExactLateOrdersSpec.pre6 enc Try.prog Try.f6 Rows.fnExactLateOrdersRow.domain false) (Rows.fnExactLateOrdersSpec.post enc Try.prog Try.f6 false true false false) := by
  refine returnsInHanded_of_change (C := Try.checked) Try.own started (by kernel_rfl) Try.func6
    (ChangeSpec.witness6 (enc := enc) (C := Try.checked) false ⟨#[], #[.slice none 0 0, .slice none 0 0], []⟩ 8 (by kernel_rfl) (by kernel_rfl) (by kernel_rfl) (by kernel_rfl)) ?_
  intro W base args ds gs before hval hW _ _
  exact law_post M_laws_FnExactLateOrders Try.func6 (by kernel_rfl) (by kernel_rfl) [.sl shOrder,.sl (.int .i64)] Try.laidOut (by kernel_rfl) (by kernel_rfl) rfl rfl (by kernel_rfl) law rfl
    (fun l hl => by
      match l, hl with
      | [_, _], _ => rfl) hval hW gOk_nil

theorem holds : Rows.FnExactLateOrdersSaid :=
  OpenClaim.holds_of_wide 6 Try.f6 rfl rfl rfl rfl rfl rfl rfl ⟨rfl, rfl, rfl, rfl, rfl⟩ rfl rfl rfl rfl rfl (by kernel_rfl) Try.func6 (by kernel_rfl)
    (of_decide_eq_true (by kernel_rfl)) (by unfold Func.isWrapper; first | (rw [if_pos (by decide +kernel)]; kernel_rfl) | (rw [if_neg (by decide +kernel)]; exact ⟨rfl, rfl⟩))
    (fun os started H enc _ => lifted os started H enc)

end Go.Proofs.Ytdgenchlghojlaa
