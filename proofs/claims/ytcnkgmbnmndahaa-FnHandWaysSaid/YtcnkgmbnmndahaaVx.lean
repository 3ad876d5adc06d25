/-
  Contracts looked up.
-/
import Derived.Test.YtcnkgmbnmndahaaVw
namespace Go.V

/-- A slot of a list (not unfolded). -/
def sl (s : List D) (i : Nat) : D := nth s i

/-- A choice (not unfolded). -/
def ifN (b : Bool) (t e : Option Out) : Option Out :=
  match b with
  | true => t
  | false => e

theorem lookNil {P : Program} : ∀ (f : Nat) (S : FS), look ([] : List (Nat × FS)) f = some S → Meets P f S := by
  intro f S h
  cases h
theorem lookCons {P : Program} {g : Nat} {S0 : FS} {l : List (Nat × FS)} (h0 : Meets P g S0) (h : ∀ (f : Nat) (S : FS), look l f = some S → Meets P f S) : ∀ (f : Nat) (S : FS), look ((g, S0) :: l) f = some S → Meets P f S := by
  intro f S hl
  simp only [look] at hl
  split at hl
  · rename_i hb
    have := beq_iff.1 hb
    subst this
    cases hl
    exact h0
  · exact h f S hl

end Go.V
