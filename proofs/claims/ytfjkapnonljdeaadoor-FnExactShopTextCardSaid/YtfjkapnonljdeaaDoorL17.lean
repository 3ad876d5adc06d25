/-
  'laws.FnExactShopText' holds: whatever it is given, it returns true, and what it was given reads as it did. Its row lists variables of the library; the card ties them to the program's text.
-/
import Derived.Test.YtfjkapnonljdeaaDoorGL
import Derived.Test.YtfjkapnonljdeaaDoorQ4
namespace Go.Proofs.YtfjkapnonljdeaaDoor
open Go Go.V Go.RowKit Go.WideShapes Go.ChangeShapes Go.ChangeAt

abbrev shBox : Sh := .st (.cons .str (.cons (.int .i64) (.cons (.int .i64) (.cons (.int .i64) .nil))))
abbrev shForme : Sh := .st (.cons (.int .i64) (.cons (.sl .str) (.cons .bool (.cons (.int .i64) .nil))))
abbrev shShop : Sh := .st (.cons (.sl shBox) (.cons (.sl shForme) (.cons (.int .i64) (.cons (.int .i64) .nil))))
theorem sl_mapP {α : Type} {e : Sh} {f : α → D} {P : α → Prop} (hf : ∀ d, e.IsV d → ∃ a, d = f a ∧ P a) {l : List D} (h : (Sh.sl e).Is l) : ∃ m : List α, l = [.arr e.size (m.map f)] ∧ m.length ≤ 9223372036854775807 ∧ ∀ a ∈ m, P a := by
  obtain ⟨ds, rfl, h1, h2⟩ := h
  have : ∃ m : List α, ds = m.map f ∧ ∀ a ∈ m, P a := by
    clear h1
    induction ds with
    | nil => exact ⟨[], rfl, by simp⟩
    | cons d ds ih =>
      obtain ⟨a, rfl, ha⟩ := hf d (h2 d (by simp))
      obtain ⟨m, rfl, hm⟩ := ih (fun d hd => h2 d (by simp [hd]))
      refine ⟨a :: m, rfl, fun b hb => ?_⟩
      rcases List.mem_cons.1 hb with rfl | hb
      · exact ha
      · exact hm b hb
  obtain ⟨m, rfl, h3⟩ := this
  exact ⟨m, rfl, by simpa [maxLen] using h1, h3⟩
theorem shBox_is (y : D) (h : shBox.IsV y) : ∃ x : Bx, y = bx x ∧ x.1.size ≤ 9223372036854775807 := by
  obtain ⟨_, ⟨_, _, rfl, ⟨d, rfl, hd⟩, ⟨_, _, rfl, ⟨k, rfl, _⟩, ⟨_, _, rfl, ⟨g, rfl, _⟩, ⟨_, _, rfl, ⟨e, rfl, _⟩, rfl⟩⟩⟩⟩, rfl⟩ := h
  exact ⟨(d, k, g, e), rfl, hd⟩
theorem shText_is (y : D) (h : Sh.str.IsV y) : ∃ x : ByteArray, y = T x ∧ x.size ≤ 9223372036854775807 := by
  obtain ⟨s, rfl, hs⟩ := str_is h
  exact ⟨s, rfl, hs⟩
theorem shForme_is (y : D) (h : shForme.IsV y) : ∃ x : Fm, y = fm x ∧ x.2.1.length ≤ 9223372036854775807 ∧ ∀ c ∈ x.2.1, c.size ≤ 9223372036854775807 := by
  obtain ⟨_, ⟨_, _, rfl, ⟨d, rfl, hd⟩, ⟨_, _, rfl, hk, ⟨_, _, rfl, ⟨g, rfl⟩, ⟨_, _, rfl, ⟨e, rfl, _⟩, rfl⟩⟩⟩⟩, rfl⟩ := h
  obtain ⟨m, rfl, h1, h2⟩ := sl_mapP shText_is hk
  exact ⟨(d, m, g, e), rfl, h1, h2⟩
theorem shShop_is {y : D} (h : shShop.IsV y) : ∃ s : Sp, y = sp s ∧ inSp s := by
  obtain ⟨_, ⟨_, _, rfl, hd, ⟨_, _, rfl, hk, ⟨_, _, rfl, ⟨g, rfl, _⟩, ⟨_, _, rfl, ⟨e, rfl, _⟩, rfl⟩⟩⟩⟩, rfl⟩ := h
  obtain ⟨m, rfl, h1, h2⟩ := sl_mapP shBox_is hd
  obtain ⟨n, rfl, h3, h4⟩ := sl_mapP shForme_is hk
  exact ⟨(m, n, g, e), rfl, ⟨h1, h2⟩, h3, h4⟩
theorem law (ds : List D) (h : IsShs [shShop] ds) : F_laws_FnExactShopText ds = some (.ret [B true] []) := by
  obtain ⟨x, rfl, h1⟩ := shs_one h
  obtain ⟨s, rfl, hs⟩ := shShop_is h1
  exact law_ShopText s hs

theorem door_met (os : Os) (args : Array Value) : laidMet Tryd.prog Rows.fnExactShopTextRow.laid ((World.doorLaid Tryd.prog 200 os).forCall (fun _ _ => 0) ⟨#[], args, []⟩).memory :=
  laidMet_of_run' 8 (by kernel_rfl) (by kernel_rfl)
theorem reads (os : Os) {H : Type} (enc : TypeId × Value → H) : ∃ places, DataW.whole enc Tryd.prog ((World.doorLaid Tryd.prog 200 os).forCall (fun _ _ => 0) ⟨#[], #[.agg #[.slice none 0 0, .slice none 0 0, .int .i64 0, .int .i64 0]], []⟩).memory Tryd.f6.params.toList Rows.fnExactShopTextSpec.vars false (#[.agg #[.slice none 0 0, .slice none 0 0, .int .i64 0, .int .i64 0]] : Array Value).toList 8 = some ([.agg [.nil, .nil, .lit (.int .i64 0), .lit (.int .i64 0)]], [], places) :=
  ⟨[], by kernel_rfl⟩

set_option maxRecDepth 100000 in
theorem lifted (os : Os) (started : os.Started) (H : Type) (enc : TypeId × Value → H) (F : Stop.Interp) :
    ReturnsInHanded {} Tryd.checked os 6 .any ((OpenSpec.ofChange Rows.fnExactShopTextSpec).preRow enc Tryd.prog Tryd.f6 Rows.fnExactShopTextRow.domain false Rows.fnExactShopTextRow.laid) (((OpenSpec.ofChange Rows.fnExactShopTextSpec).at F).post enc Tryd.prog Tryd.f6 false true false false) := by
  obtain ⟨places, hx⟩ := reads os enc
  refine returnsInHanded_of_row (C := Tryd.checked) (s := OpenSpec.ofChange Rows.fnExactShopTextSpec) own started (by kernel_rfl) Tryd.func6
    (witness_row_atRef (enc := enc) (C := Tryd.checked) false (World.doorLaid Tryd.prog 200 os) #[.agg #[.slice none 0 0, .slice none 0 0, .int .i64 0, .int .i64 0]] rfl (by kernel_rfl) (by kernel_rfl) (by kernel_rfl)
      (OpenSpec.preRow_of_cond 8 hx (by kernel_rfl) (fun k hk => by cases hk) (by kernel_rfl) (door_met os _))) ?_
  intro W base args ds gs before hval hW _ _ _ hL hsh _
  rw [MakeChecks.laidMetH_plain _ _ _ (by kernel_rfl)] at hL
  exact law_post (s := Rows.fnExactShopTextSpec) M_laws_FnExactShopText Tryd.func6 (by kernel_rfl) (by kernel_rfl) [shShop] laidOut (by kernel_rfl) (by kernel_rfl) rfl rfl (by kernel_rfl) law rfl
    (fun l hl => by
      match l, hl with
      | [_], _ => rfl) hval hW (gl1_ok hsh (pow_of hL.tail.tail))

theorem said : Rows.FnExactShopTextSaid :=
  OpenClaim.holds_of_cond 6 Tryd.f6 rfl rfl rfl rfl rfl rfl rfl ⟨rfl, rfl, rfl, rfl, rfl⟩ rfl rfl rfl rfl rfl (by kernel_rfl) Tryd.func6 (by kernel_rfl)
    (of_decide_eq_true (by kernel_rfl)) (by unfold Func.isWrapper; first | (rw [if_pos (by decide +kernel)]; kernel_rfl) | (rw [if_neg (by decide +kernel)]; exact ⟨rfl, rfl⟩))
    (fun os started H enc _ F => by rw [OpenClaim.pre_eq_preRow]; exact lifted os started H enc F)

/-- No parameter wants a stand-in; the program's own looks are off. -/
theorem plain (f : FuncId) (fn : Func) (hf : Tryd.pinned.checked.prog.funcNamed "loop.example/g01054/laws.FnExactShopText" = some f) (hfn : Tryd.pinned.checked.prog.funcs[f]? = some fn) :
    true = Tryd.pinned.checked.prog.looks [] ∧ ∀ (j : Nat) t, fn.params[j]? = some t → Tryd.pinned.checked.prog.wantsStandIn t = false := by
  obtain rfl : f = 6 := Option.some.inj ((show Tryd.prog.funcNamed "loop.example/g01054/laws.FnExactShopText" = some 6 by kernel_rfl).symm.trans hf) |>.symm
  obtain rfl : fn = Tryd.f6 := (Option.some.inj (Tryd.func6.symm.trans hfn)).symm
  refine ⟨by kernel_rfl, fun j t ht => ?_⟩
  rw [Tryd.params6] at ht
  have hm := Array.mem_of_getElem? ht
  have all : ∀ t ∈ (#[41] : Array Nat), Tryd.prog.wantsStandIn t = false := by
    have : (#[41] : Array Nat).toList.all (fun t => !Tryd.prog.wantsStandIn t) = true := by kernel_rfl
    intro t ht
    have h := List.all_eq_true.1 this t (by simpa using ht)
    simpa using h
  exact all t hm

theorem holds : Rows.FnExactShopTextCardSaid :=
  Claim7.holds_tied_plain_at .later [] _ _ _ _ said (fun _ h => by cases h) (by kernel_rfl) (fun _ h => by cases h) fnExactShopText_row_tie rfl ⟨rfl, rfl⟩ (by kernel_rfl) rfl plain (by kernel_rfl)

end Go.Proofs.YtfjkapnonljdeaaDoor
