/-
  Contracts looked up.
-/
import Derived.Test.YtfjkapnonljdeaaDoorVw
namespace Go.V

/-- A slot of a list (not unfolded). -/
def sl (s : List D) (i : Nat) : D := nth s i

/-- A choice (not unfolded). -/
def ifN (b : Bool) (t e : Option Out) : Option Out :=
  match b with
  | true => t
  | false => e

theorem lookNil {P : Program} {G : List (Nat × (Obj → Prop))} : ∀ (f : Nat) (S : FS), look ([] : List (Nat × FS)) f = some S → Meets G P f S := by
  intro f S h
  cases h
theorem lookCons {P : Program} {G : List (Nat × (Obj → Prop))} {g : Nat} {S0 : FS} {l : List (Nat × FS)} (h0 : Meets G P g S0) (h : ∀ (f : Nat) (S : FS), look l f = some S → Meets G P f S) : ∀ (f : Nat) (S : FS), look ((g, S0) :: l) f = some S → Meets G P f S := by
  intro f S hl
  simp only [look] at hl
  split at hl
  · rename_i hb
    have := beq_iff.1 hb
    subst this
    cases hl
    exact h0
  · exact h f S hl

/-- More facts of the world. -/
theorem meets_mono {P : Program} {G G' : List (Nat × (Obj → Prop))} {f : Nat} {S : FS} (h : ∀ p ∈ G, p ∈ G') (hm : Meets G P f S) : Meets G' P f S :=
  fun ds rs us hd args w F ow hg => hm ds rs us hd args w F ow fun p hp => hg p (h p hp)

/-! ### functions that call themselves -/
open Classical in
noncomputable def recF (R : Nat → List D → Option Out) (ds : List D) : Option Out :=
  if h : ∃ n, (R n ds).isSome = true then R (Classical.choose h) ds else none
theorem recF_some {R : Nat → List D → Option Out} {ds : List D} {r : Out} (h : recF R ds = some r) : ∃ n, R n ds = some r := by
  unfold recF at h
  split at h
  · exact ⟨_, h⟩
  · cases h
theorem recF_eq {R : Nat → List D → Option Out} {ds : List D} {r : Out} (h : ∀ n o, R n ds = some o → o = r) (n : Nat) (hn : R n ds = some r) : recF R ds = some r := by
  unfold recF
  have hx : ∃ n, (R n ds).isSome = true := ⟨n, by rw [hn]; rfl⟩
  rw [dif_pos hx]
  obtain ⟨o, ho⟩ := Option.isSome_iff_exists.1 (Classical.choose_spec hx)
  rw [ho, h _ _ ho]
theorem meets_none {P : Program} {G : List (Nat × (Obj → Prop))} {f : Nat} {S : FS} (h : ∀ ds, S.f ds = none) : Meets G P f S := by
  intro ds rs us hd
  rw [h] at hd
  cases hd
theorem meets_rec {P : Program} {G : List (Nat × (Obj → Prop))} {f : Nat} {pm rm : List Kd} {R : Nat → List D → Option Out} (h : ∀ n, Meets G P f { pm := pm, rm := rm, f := R n }) : Meets G P f { pm := pm, rm := rm, f := recF R } := by
  intro ds rs us hd args w F ow hg ha hF hO o a next Q hq
  obtain ⟨n, hn⟩ := recF_some hd
  refine h n ds rs us hn args w F ow hg ha hF hO o a next Q fun v w' hv => ?_
  obtain ⟨F', R', vs, h1, h2⟩ := hv
  exact hq v w' ⟨F', R', vs, h1, ⟨h2.os, h2.tape, h2.output, h2.size, h2.keep, h2.f0, h2.fn, h2.rn, h2.len, h2.lenD, h2.res, h2.us⟩⟩

end Go.V
