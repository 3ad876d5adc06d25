/-
  'laws.FnExactJournalText' holds: whatever it is given, it returns true, and what it was given reads as it did. Its row lists variables of the library; the card ties them to the program's text.
-/
import Derived.Test.YtfjkapnonljdeaaDoorGL
import Derived.Test.YtfjkapnonljdeaaDoorP10
namespace Go.Proofs.YtfjkapnonljdeaaDoor
open Go Go.V Go.RowKit Go.WideShapes Go.ChangeShapes Go.ChangeAt

abbrev shNote : Sh := .st (.cons (.int .i64) (.cons (.int .i64) (.cons (.int .i64) .nil)))
theorem shNote_is {y : D} (h : shNote.IsV y) : ∃ x : Nt, y = nt x := by
  obtain ⟨_, ⟨_, _, rfl, ⟨d, rfl, _⟩, ⟨_, _, rfl, ⟨k, rfl, _⟩, ⟨_, _, rfl, ⟨g, rfl, _⟩, rfl⟩⟩⟩, rfl⟩ := h
  exact ⟨(d, k, g), rfl⟩
theorem shNotes_is {y : D} (h : (Sh.sl shNote).IsV y) : ∃ l : List Nt, y = nts l ∧ l.length ≤ 9223372036854775807 := sl_map (fun _ => shNote_is) h
theorem law (ds : List D) (h : IsShs [.sl shNote] ds) : F_laws_FnExactJournalText ds = some (.ret [B true] []) := by
  obtain ⟨x, rfl, h1⟩ := shs_one h
  obtain ⟨l, rfl, hl⟩ := shNotes_is h1
  exact law_JournalText l hl

noncomputable def start (os : Os) : World := World.doorLaid Tryd.prog 200 os
theorem door_met (os : Os) (args : Array Value) : laidMet Tryd.prog Rows.fnExactJournalTextRow.laid ((start os).forCall (fun _ _ => 0) ⟨#[], args, []⟩).memory :=
  laidMet_of_run' 8 (by kernel_rfl) (by kernel_rfl)
theorem reads (os : Os) {H : Type} (enc : TypeId × Value → H) : ∃ places, DataW.whole enc Tryd.prog ((start os).forCall (fun _ _ => 0) ⟨#[], #[.slice none 0 0], []⟩).memory Tryd.f5.params.toList Rows.fnExactJournalTextSpec.vars false (#[.slice none 0 0] : Array Value).toList 8 = some ([.nil], [], places) :=
  ⟨[], by kernel_rfl⟩

set_option maxRecDepth 100000 in
theorem lifted (os : Os) (started : os.Started) (H : Type) (enc : TypeId × Value → H) (F : Stop.Interp) :
    ReturnsInHanded {} Tryd.checked os 5 .any ((OpenSpec.ofChange Rows.fnExactJournalTextSpec).preRow enc Tryd.prog Tryd.f5 Rows.fnExactJournalTextRow.domain false Rows.fnExactJournalTextRow.laid) (((OpenSpec.ofChange Rows.fnExactJournalTextSpec).at F).post enc Tryd.prog Tryd.f5 false true false false) := by
  obtain ⟨places, hx⟩ := reads os enc
  refine returnsInHanded_of_row (C := Tryd.checked) (s := OpenSpec.ofChange Rows.fnExactJournalTextSpec) own started (by kernel_rfl) Tryd.func5
    (witness_row_atRef (enc := enc) (C := Tryd.checked) false (start os) #[.slice none 0 0] rfl (by kernel_rfl) (by kernel_rfl) (by kernel_rfl)
      (OpenSpec.preRow_of_cond 8 hx (by kernel_rfl) (fun k hk => by cases hk) (by kernel_rfl) (door_met os _))) ?_
  intro W base args ds gs before hval hW _ _ _ hL hsh _
  rw [MakeChecks.laidMetH_plain _ _ _ (by kernel_rfl)] at hL
  exact law_post (s := Rows.fnExactJournalTextSpec) M_laws_FnExactJournalText Tryd.func5 (by kernel_rfl) (by kernel_rfl) [.sl shNote] laidOut (by kernel_rfl) (by kernel_rfl) rfl rfl (by kernel_rfl) law rfl
    (fun l hl => by
      match l, hl with
      | [_], _ => rfl) hval hW (gl1_ok hsh (pow_of hL.tail.tail))

theorem said : Rows.FnExactJournalTextSaid :=
  OpenClaim.holds_of_cond 5 Tryd.f5 rfl rfl rfl rfl rfl rfl rfl ⟨rfl, rfl, rfl, rfl, rfl⟩ rfl rfl rfl rfl rfl (by kernel_rfl) Tryd.func5 (by kernel_rfl)
    (of_decide_eq_true (by kernel_rfl)) (by unfold Func.isWrapper; first | (rw [if_pos (by decide +kernel)]; kernel_rfl) | (rw [if_neg (by decide +kernel)]; exact ⟨rfl, rfl⟩))
    (fun os started H enc _ F => by rw [OpenClaim.pre_eq_preRow]; exact lifted os started H enc F)

/-- No parameter wants a stand-in; the program's own looks are off. -/
theorem plain (f : FuncId) (fn : Func) (hf : Tryd.pinned.checked.prog.funcNamed "loop.example/g01054/laws.FnExactJournalText" = some f) (hfn : Tryd.pinned.checked.prog.funcs[f]? = some fn) :
    true = Tryd.pinned.checked.prog.looks [] ∧ ∀ (j : Nat) t, fn.params[j]? = some t → Tryd.pinned.checked.prog.wantsStandIn t = false := by
  obtain rfl : f = 5 := Option.some.inj ((show Tryd.prog.funcNamed "loop.example/g01054/laws.FnExactJournalText" = some 5 by kernel_rfl).symm.trans hf) |>.symm
  obtain rfl : fn = Tryd.f5 := (Option.some.inj (Tryd.func5.symm.trans hfn)).symm
  refine ⟨by kernel_rfl, fun j t ht => ?_⟩
  rw [Tryd.params5] at ht
  have hm := Array.mem_of_getElem? ht
  have all : ∀ t ∈ (#[31] : Array Nat), Tryd.prog.wantsStandIn t = false := by
    have : (#[31] : Array Nat).toList.all (fun t => !Tryd.prog.wantsStandIn t) = true := by kernel_rfl
    intro t ht
    have h := List.all_eq_true.1 this t (by simpa using ht)
    simpa using h
  exact all t hm

theorem holds : Rows.FnExactJournalTextCardSaid :=
  Claim7.holds_tied_plain_at .later [] _ _ _ _ said (fun _ h => by cases h) (by kernel_rfl) (fun _ h => by cases h) fnExactJournalText_row_tie rfl ⟨rfl, rfl⟩ (by kernel_rfl) rfl plain (by kernel_rfl)

end Go.Proofs.YtfjkapnonljdeaaDoor
