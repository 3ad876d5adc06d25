/-
  From what a row lists, and from the shape of the world, to the facts on which the contracts lean.
-/
import Derived.Test.YtfjkapnonljdeaaDoorLS
import Derived.Test.YtfjkapnonljdeaaDoorTie
import Derived.Test.YtfjkapnonljdeaaDoorCards
import Derived.Test.YtfjkapnonljdeaaDoorVy
import Derived.Stop.LaidErr
import Derived.Deep.DeepHandedRow
import Derived.Deep.DeepWitnessRowRef
import Derived.LaidMore
import Derived.MakeChecks
namespace Go.Proofs.YtfjkapnonljdeaaDoor
open Go Go.V Go.RowKit Go.WideShapes Go.ChangeShapes
set_option maxRecDepth 100000

theorem own : ownKnob Tryd.prog.godebug = none := by kernel_rfl
theorem laidOut : laidOutB Tryd.prog = true := by kernel_rfl
theorem lt_of_some {w : World} {g : Nat} {p : Obj → Prop} (h : ∃ o, w.heap[g]? = some o ∧ p o) : g < w.heap.size ∧ ∃ o, w.heap[g]? = some o ∧ p o := by
  obtain ⟨o, ho, hp⟩ := h
  exact ⟨(Array.getElem?_eq_some_iff.1 ho).1, o, ho, hp⟩

theorem gl0_ok {W : World} (hsh : W.ShapedOpen Tryd.prog) : gOk gl0 W fun b => b < W.heap.size := by
  intro p hp
  simp only [gl0, List.mem_cons, List.not_mem_nil, or_false] at hp
  subst hp
  obtain ⟨m, hm⟩ := Tryd.laysM146.s1_3 W hsh
  exact lt_of_some (isInt_of hm)

theorem gPow : Tryd.prog.globalNamed "internal/strconv.uint64pow10" = some 0 := by kernel_rfl
theorem pow_of {W : World} {rest : List (String × DataW Unit)} (h : laidMet Tryd.prog (("internal/strconv.uint64pow10", Rows.laid_internal_strconv_uint64pow10) :: rest) W) : Lib.TabIs Tryd.prog W "internal/strconv.uint64pow10" .u64 Lib.pow10Tab :=
  Lib.tabIs_of_head (rest := rest) gPow (by kernel_rfl) Tryd.underlying166 Tryd.underlying148 (by kernel_rfl) (by kernel_rfl) h
theorem gl1_ok {W : World} (hsh : W.ShapedOpen Tryd.prog) (hp : Lib.TabIs Tryd.prog W "internal/strconv.uint64pow10" .u64 Lib.pow10Tab) : gOk gl1 W fun b => b < W.heap.size := by
  intro p hq
  rcases List.mem_append.1 hq with hq | hq
  · exact gl0_ok hsh p hq
  · simp only [List.mem_cons, List.not_mem_nil, or_false] at hq
    subst hq
    exact lt_of_some (isPow10_of gPow hp)

theorem gES : Tryd.prog.globalNamed "strconv.ErrSyntax" = some 1 := by kernel_rfl
theorem gER : Tryd.prog.globalNamed "strconv.ErrRange" = some 2 := by kernel_rfl
theorem star : "*" ++ "errors.errorString" = "*errors.errorString" := by decide
theorem row_err (u : TypeId) (h : Tryd.prog.typeName? 3 u = some "*errors.errorString") : u = 179 :=
  typeName_ptr_named (nm := "errors.errorString") (by rw [star]; kernel_rfl) (by kernel_rfl) (by decide) u (by rw [star]; exact h)
theorem es_of {W : World} {rest : List (String × DataW Unit)} (h : laidMet Tryd.prog (("strconv.ErrSyntax", Rows.laid_strconv_ErrSyntax) :: rest) W) : ∃ tp p, W.var? Tryd.prog "strconv.ErrSyntax" = some #[.iface tp p] := by
  obtain ⟨a0, s0, hv0, -, -, -⟩ := laid_sentinel h gES (by kernel_rfl) Tryd.underlying105 row_err Tryd.underlying179 Tryd.underlying181 rfl rfl Tryd.underlying9 (by kernel_rfl) (by kernel_rfl)
  exact ⟨_, _, hv0⟩
theorem er_of {W : World} {rest : List (String × DataW Unit)} (h : laidMet Tryd.prog (("strconv.ErrRange", Rows.laid_strconv_ErrRange) :: rest) W) : ∃ tp p, W.var? Tryd.prog "strconv.ErrRange" = some #[.iface tp p] := by
  obtain ⟨a0, s0, hv0, -, -, -⟩ := laid_sentinel h gER (by kernel_rfl) Tryd.underlying105 row_err Tryd.underlying179 Tryd.underlying181 rfl rfl Tryd.underlying9 (by kernel_rfl) (by kernel_rfl)
  exact ⟨_, _, hv0⟩
theorem gl2_ok {W : World} (hsh : W.ShapedOpen Tryd.prog) (hp : Lib.TabIs Tryd.prog W "internal/strconv.uint64pow10" .u64 Lib.pow10Tab) (hs : ∃ tp p, W.var? Tryd.prog "strconv.ErrSyntax" = some #[.iface tp p]) (hr : ∃ tp p, W.var? Tryd.prog "strconv.ErrRange" = some #[.iface tp p]) :
    gOk gl2 W fun b => b < W.heap.size := by
  intro p hq
  rcases List.mem_append.1 hq with hq | hq
  · exact gl1_ok hsh hp p hq
  · simp only [List.mem_cons, List.not_mem_nil, or_false] at hq
    obtain ⟨_, _, hs⟩ := hs
    obtain ⟨_, _, hr⟩ := hr
    rcases hq with rfl | rfl
    · exact lt_of_some (isErr_of gES hs)
    · exact lt_of_some (isErr_of gER hr)
end Go.Proofs.YtfjkapnonljdeaaDoor
