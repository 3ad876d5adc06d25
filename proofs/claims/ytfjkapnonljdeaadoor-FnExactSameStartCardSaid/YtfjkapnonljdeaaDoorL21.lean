/-
  'laws.FnExactSameStart' holds: whatever it is given, it returns true, and what it was given reads as it did. Its row lists variables of the library; the card ties them to the program's text.
-/
import Derived.Test.YtfjkapnonljdeaaDoorGL
import Derived.Test.YtfjkapnonljdeaaDoorP9
namespace Go.Proofs.YtfjkapnonljdeaaDoor
open Go Go.V Go.RowKit Go.WideShapes Go.ChangeShapes Go.ChangeAt

theorem law (ds : List D) (h : IsShs [.str, .str] ds) : F_laws_FnExactSameStart ds = some (.ret [B true] []) := by
  obtain ⟨x, y, rfl, h1, h2⟩ := shs_two h
  obtain ⟨a, rfl, _⟩ := str_is h1
  obtain ⟨b, rfl, _⟩ := str_is h2
  exact law_SameStart a b

noncomputable def start (os : Os) : World := World.doorLaid Tryd.prog 200 os
theorem door_met (os : Os) (args : Array Value) : laidMet Tryd.prog Rows.fnExactSameStartRow.laid ((start os).forCall (fun _ _ => 0) ⟨#[], args, []⟩).memory :=
  laidMet_of_run' 8 (by kernel_rfl) (by kernel_rfl)
theorem reads (os : Os) {H : Type} (enc : TypeId × Value → H) : ∃ places, DataW.whole enc Tryd.prog ((start os).forCall (fun _ _ => 0) ⟨#[], #[.string ⟨#[]⟩, .string ⟨#[]⟩], []⟩).memory Tryd.f9.params.toList Rows.fnExactSameStartSpec.vars false (#[.string ⟨#[]⟩, .string ⟨#[]⟩] : Array Value).toList 8 = some ([.lit (.string []), .lit (.string [])], [], places) :=
  ⟨[], by kernel_rfl⟩

set_option maxRecDepth 100000 in
theorem lifted (os : Os) (started : os.Started) (H : Type) (enc : TypeId × Value → H) (F : Stop.Interp) :
    ReturnsInHanded {} Tryd.checked os 9 .any ((OpenSpec.ofChange Rows.fnExactSameStartSpec).preRow enc Tryd.prog Tryd.f9 Rows.fnExactSameStartRow.domain false Rows.fnExactSameStartRow.laid) (((OpenSpec.ofChange Rows.fnExactSameStartSpec).at F).post enc Tryd.prog Tryd.f9 false true false false) := by
  obtain ⟨places, hx⟩ := reads os enc
  refine returnsInHanded_of_row (C := Tryd.checked) (s := OpenSpec.ofChange Rows.fnExactSameStartSpec) own started (by kernel_rfl) Tryd.func9
    (witness_row_atRef (enc := enc) (C := Tryd.checked) false (start os) #[.string ⟨#[]⟩, .string ⟨#[]⟩] rfl (by kernel_rfl) (by kernel_rfl) (by kernel_rfl)
      (OpenSpec.preRow_of_cond 8 hx (by kernel_rfl) (fun k hk => by cases hk) (by kernel_rfl) (door_met os _))) ?_
  intro W base args ds gs before hval hW _ _ _ hL hsh _
  rw [MakeChecks.laidMetH_plain _ _ _ (by kernel_rfl)] at hL
  exact law_post (s := Rows.fnExactSameStartSpec) M_laws_FnExactSameStart Tryd.func9 (by kernel_rfl) (by kernel_rfl) [.str, .str] laidOut (by kernel_rfl) (by kernel_rfl) rfl rfl (by kernel_rfl) law rfl
    (fun l hl => by
      match l, hl with
      | [_, _], _ => rfl) hval hW (gl2_ok hsh (pow_of hL.tail.tail) (es_of hL.tail.tail.tail.tail) (er_of hL.tail.tail.tail))

theorem said : Rows.FnExactSameStartSaid :=
  OpenClaim.holds_of_cond 9 Tryd.f9 rfl rfl rfl rfl rfl rfl rfl ⟨rfl, rfl, rfl, rfl, rfl⟩ rfl rfl rfl rfl rfl (by kernel_rfl) Tryd.func9 (by kernel_rfl)
    (of_decide_eq_true (by kernel_rfl)) (by unfold Func.isWrapper; first | (rw [if_pos (by decide +kernel)]; kernel_rfl) | (rw [if_neg (by decide +kernel)]; exact ⟨rfl, rfl⟩))
    (fun os started H enc _ F => by rw [OpenClaim.pre_eq_preRow]; exact lifted os started H enc F)

/-- No parameter wants a stand-in; the program's own looks are off. -/
theorem plain (f : FuncId) (fn : Func) (hf : Tryd.pinned.checked.prog.funcNamed "loop.example/g01054/laws.FnExactSameStart" = some f) (hfn : Tryd.pinned.checked.prog.funcs[f]? = some fn) :
    true = Tryd.pinned.checked.prog.looks [] ∧ ∀ (j : Nat) t, fn.params[j]? = some t → Tryd.pinned.checked.prog.wantsStandIn t = false := by
  obtain rfl : f = 9 := Option.some.inj ((show Tryd.prog.funcNamed "loop.example/g01054/laws.FnExactSameStart" = some 9 by kernel_rfl).symm.trans hf) |>.symm
  obtain rfl : fn = Tryd.f9 := (Option.some.inj (Tryd.func9.symm.trans hfn)).symm
  refine ⟨by kernel_rfl, fun j t ht => ?_⟩
  rw [Tryd.params9] at ht
  have hm := Array.mem_of_getElem? ht
  have all : ∀ t ∈ (#[9, 9] : Array Nat), Tryd.prog.wantsStandIn t = false := by
    have : (#[9, 9] : Array Nat).toList.all (fun t => !Tryd.prog.wantsStandIn t) = true := by kernel_rfl
    intro t ht
    have h := List.all_eq_true.1 this t (by simpa using ht)
    simpa using h
  exact all t hm

theorem holds : Rows.FnExactSameStartCardSaid :=
  Claim7.holds_tied_plain_at .later [] _ _ _ _ said (fun _ h => by cases h) (by kernel_rfl) (fun _ h => by cases h) fnExactSameStart_row_tie rfl ⟨rfl, rfl⟩ (by kernel_rfl) rfl plain (by kernel_rfl)

end Go.Proofs.YtfjkapnonljdeaaDoor
