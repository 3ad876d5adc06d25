/-
  Every operation keeps the invariant; each is a function of what it reads.
-/
import Derived.Test.YtfjkapnonljdeaaDoorVs
namespace Go.V
open Go.RowKit

section
variable {P : Program} {c : Cx}

theorem sound_minmax {o : Oper} {q : Call} (ho : o.op = .call q) {bi : Builtin} (hq : q.callee = .builtin bi) (f : D → D → Option D) (g : Value → Value → Sem Value) (hbi : (bi = .min ∧ f = minD ∧ g = Builtin.min2) ∨ (bi = .max ∧ f = maxD ∧ g = Builtin.max2))
    {A : Ac} (hA : dataOp c o.dst q.args.toList 0 (fold1 f) = some A) {B : Nat} {X : Nat → Prop} {w0 : World} {F0 F : Nat → Prop} {O : Nat → Option (Nat × Nat)} {a : Act} {w : World} {δ : List D} (hI : Inv c B X w0 F0 F O a w δ) {k : List D → Option Out} {r : Out} (hg : goAc c A δ k = some r) (Q : Exit → Act → World → Prop) : o.wp P a w (Next c B X w0 F0 k r) Q := by
  rcases hbi with ⟨rfl, rfl, rfl⟩ | ⟨rfl, rfl, rfl⟩
  · refine foldM_sound ho hq rfl (f := minD) (g := Builtin.min2) (fun w G a b z x y ha hb h => min_run ha hb h) (fun x rest v he hr => ?_) hA hI hg Q
    simp [builtin, Builtin.min_, he, hr]
  · refine foldM_sound ho hq rfl (f := maxD) (g := Builtin.max2) (fun w G a b z x y ha hb h => max_run ha hb h) (fun x rest v he hr => ?_) hA hI hg Q
    simp [builtin, Builtin.max_, he, hr]

theorem sound_all (hT : okT P c.T = true) (hS : ∀ f S, look c.S f = some S → Meets c.G P f S) (o : Oper) : Sound P c o := by
  intro A hA B X w0 F0 F O a w δ hI k r hg Q
  have hA0 := hA
  unfold actOf at hA
  split at hA
  case h_1 x ho => exact sound_mv (.inl ho) hA hI hg Q
  case h_2 x ho => exact sound_mv (.inr ho) hA hI hg Q
  case h_3 q x y ho => exact sound_pick ho A hA0 B X w0 F0 F O a w δ hI k r hg Q
  case h_4 t ho => exact sound_alloc hT ho A hA0 B X w0 F0 F O a w δ hI k r hg Q
  case h_5 t x ho => exact sound_box ho A hA0 B X w0 F0 F O a w δ hI k r hg Q
  case h_6 t ps ho => exact sound_build hT ho A hA0 B X w0 F0 F O a w δ hI k r hg Q
  case h_7 t n ps ho => exact sound_buildSlice hT ho A hA0 B X w0 F0 F O a w δ hI k r hg Q
  case h_8 t p ho => exact sound_load hT ho A hA0 B X w0 F0 F O a w δ hI k r hg Q
  case h_9 t p x ho => exact sound_store hT ho A hA0 B X w0 F0 F O a w δ hI k r hg Q
  case h_10 x ho => exact sound_nilCheck ho A hA0 B X w0 F0 F O a w δ hI k r hg Q
  case h_11 op t x y _ ho => exact sound_binOp hT ho A hA0 B X w0 F0 F O a w δ hI k r hg Q
  case h_12 op t x ho => exact sound_unOp ho A hA0 B X w0 F0 F O a w δ hI k r hg Q
  case h_13 s t x ho => exact sound_convert hT ho A hA0 B X w0 F0 F O a w δ hI k r hg Q
  case h_14 f u v ho => exact sound_makeFunc ho A hA0 B X w0 F0 F O a w δ hI k r hg Q
  case h_15 t n m ho => exact sound_makeSlice hT ho A hA0 B X w0 F0 F O a w δ hI k r hg Q
  case h_16 t x lo hi ho =>
    have hA1 := withT_some hA
    clear hA
    obtain ⟨i, hi', hA⟩ := hA1
    have main : ∀ (hsl : i.str = false → isSl i = true), slOf c o.dst i x lo hi = some A → o.wp P a w (Next c B X w0 F0 k r) Q := by
      intro hsl hA
      have hA2 := hA
      unfold slOf at hA2
      split at hA2
      case h_2 => cases hA2
      rename_i q
      split at hA2
      · rename_i lv hk; exact sound_slice_dat hT ho hi' hsl hk hA hI hg Q
      · exact sound_slice_own hT ho hi' hsl hA2 hI hg Q
      · exact sound_slice_own hT ho hi' hsl hA2 hI hg Q
      · cases hA2
    split at hA
    · rename_i h1 h2; exact main (fun _ => h1) hA
    · rename_i h1 h2; exact main (fun h => by rw [h] at h2; cases h2) hA
    · cases hA
  case h_17 t x f ho => exact sound_fieldAddr hT ho A hA0 B X w0 F0 F O a w δ hI k r hg Q
  case h_18 t x f ho => exact sound_field hT ho A hA0 B X w0 F0 F O a w δ hI k r hg Q
  case h_19 t x i ho => exact sound_indexAddr hT ho A hA0 B X w0 F0 F O a w δ hI k r hg Q
  case h_20 t x i ho => exact sound_index hT ho A hA0 B X w0 F0 F O a w δ hI k r hg Q
  case h_21 x i ho => exact sound_extract ho A hA0 B X w0 F0 F O a w δ hI k r hg Q
  case h_22 q ho =>
    unfold caOf at hA
    split at hA
    · rename_i x t hq h1 h2
      have hA1 := withT_some hA
      clear hA
      obtain ⟨i, hi, hA⟩ := hA1
      have eq : q = { callee := .builtin .len, args := #[x], argTypes := #[t] } := by
        obtain ⟨cl, ar, ty⟩ := q
        simp only at hq h1 h2
        subst hq
        congr
        · rw [← Array.toArray_toList (xs := ar), h1]
        · rw [← Array.toArray_toList (xs := ty), h2]
      rw [eq] at ho
      split at hA
      · rename_i g1 g2
        exact lnOf_sound hT ho hi (fun _ => g1) (fun h => by cases h) hA hI hg Q
      · rename_i g1 g2
        exact lnOf_sound hT ho hi (fun h => by cases h) (fun _ => g2) hA hI hg Q
      · cases hA
    · rename_i s x t u hq h1 h2
      split at hA
      case h_2 => cases hA
      rename_i htu
      rw [beq_iff] at htu
      subst htu
      have hA1 := withT_some hA
      clear hA
      obtain ⟨i, hi, hA⟩ := hA1
      have hA1 := withT_some hA
      clear hA
      obtain ⟨e, he, hA⟩ := hA1
      split at hA
      case h_2 => cases hA
      rename_i hsl
      exact sound_append hT ho hq h1 h2 hi he hsl hA hI hg Q
    · rename_i hq; exact sound_minmax ho hq minD Builtin.min2 (.inl ⟨rfl, rfl, rfl⟩) hA hI hg Q
    · rename_i hq; exact sound_minmax ho hq maxD Builtin.max2 (.inr ⟨rfl, rfl, rfl⟩) hA hI hg Q
    · rename_i f hq
      split at hA
      case h_2 => cases hA
      rename_i S hlk
      exact sound_call hS ho hq hlk hA hI hg Q
    · cases hA
  case h_23 => cases hA

/-! ### each act is a function of what it reads -/
def Nt (n : Nat) (f : (List D → Option Out) → Option Out) : Prop := ∃ o : Option (List D), (∀ k, f k = o.bind k) ∧ ∀ l, o = some l → l.length = n
def NatA : Ac → Prop
  | .one _ _ _ => True
  | .many _ hw cw fn => ∀ is, Nt (hw ++ cw).length (fn is)

theorem Nt_ret {n : Nat} {l : List D} (h : l.length = n) : Nt n (fun k => k l) := ⟨some l, fun _ => rfl, fun l' e => by cases e; exact h⟩
theorem Nt_none {n : Nat} : Nt n (fun _ => none) := ⟨none, fun _ => rfl, fun _ e => by cases e⟩
theorem Nt_bind {n : Nat} {X : Option D} {f : D → (List D → Option Out) → Option Out} (h : ∀ y, Nt n (f y)) : Nt n (fun k => X.bind fun y => f y k) := by
  cases X with
  | none => exact Nt_none
  | some y => exact h y
theorem Nt_nth {n : Nat} {is : List D} {i : Nat} {f : D → (List D → Option Out) → Option Out} (h : ∀ y, Nt n (f y)) : Nt n (fun k => nthC is i fun y => f y k) := by
  simp only [nthC_eq]
  exact h _
theorem Nt_goP {n q r : Nat} {is : List D} {f : D → D → List D → (List D → Option Out) → Option Out} (h : ∀ b p is, Nt n (f b p is)) : Nt n (fun k => goP q r is fun b p is => f b p is k) := by
  unfold goP
  cases Nat.beq q r
  · rcases is with _ | ⟨p, _ | ⟨b, is⟩⟩
    · exact Nt_none
    · exact Nt_none
    · exact h _ _ _
  · cases is with
    | nil => exact Nt_none
    | cons b is => exact h _ _ _
theorem Nt_stK {n m : Nat} {chk : Bool} {b p y : D} {f : D → (List D → Option Out) → Option Out} (h : ∀ y, Nt n (f y)) : Nt n (fun k => stK chk m b p y fun b => f b k) := by
  unfold stK
  cases chk
  · exact Nt_bind h
  · exact Nt_bind fun _ => Nt_bind h
theorem Nt_src {n : Nat} {rd : List Nat} {is : List D} {f : D → (List D → Option Out) → Option Out} (h : ∀ y, Nt n (f y)) : Nt n (fun k => srcVal rd is fun y => f y k) := by
  unfold srcVal
  rcases rd with _ | ⟨a, _ | ⟨b, rd⟩⟩
  · exact h _
  · exact Nt_nth h
  · exact Nt_nth fun p => Nt_nth fun x => Nt_bind h
theorem Nt_asm {n : Nat} {ags : List Ag} {is : List D} {f : List D → (List D → Option Out) → Option Out} (h : ∀ y, Nt n (f y)) : Nt n (fun k => asmK [] ags is fun y => f y k) := by
  simp only [asmK_eq, List.nil_append]
  cases asmV ags is with
  | none => exact Nt_none
  | some y => exact h y
theorem Nt_call {n : Nat} {r : Option Out} {f : List D → List D → (List D → Option Out) → Option Out} (h : ∀ y z, Nt n (f y z)) : Nt n (fun k => callK r fun y z => f y z k) := by
  unfold callK
  split
  · exact h _ _
  · exact Nt_none

theorem dataOp_nat {dst : Option Nat} {xs : List Operand} {lv : Nat} {h : List D → Option D} {A : Ac} (hA : dataOp c dst xs lv h = some A) : NatA A := by
  unfold dataOp at hA
  repeat' (split at hA)
  all_goals first | (cases hA; done) | (cases hA; trivial)
theorem lvFit_nat {rd : List Nat} {d lv l : Nat} {h : List D → Option D} {A : Ac} (hA : mapO (fun h => Ac.one rd d h) (lvFit lv l h) = some A) : NatA A := by
  unfold lvFit at hA
  repeat' (split at hA)
  all_goals first | (cases hA; done) | (cases hA; trivial)

theorem mvOf_nat {dst : Option Nat} {x : Operand} {t : Nat} {A : Ac} (hA : mvOf c dst x t = some A) : NatA A := by
  unfold mvOf at hA
  repeat' (split at hA)
  all_goals first
    | (cases hA; done)
    | exact dataOp_nat hA
    | (cases hA; trivial)
    | (cases hA; exact fun is => Nt_nth fun x => Nt_ret rfl)
    | (cases hA; exact fun is => Nt_nth fun p => Nt_nth fun x => Nt_bind fun y => Nt_ret rfl)
    | (cases hA; exact fun is => Nt_ret rfl)
    | (obtain ⟨i, _, hA⟩ := withT_some hA; exact dataOp_nat hA)
theorem ldOf_nat {dst : Option Nat} {i : TI} {p : Operand} {A : Ac} (hA : ldOf c dst i p = some A) : NatA A := by
  unfold ldOf at hA
  repeat' (split at hA)
  all_goals first | (cases hA; done) | exact dataOp_nat hA | exact lvFit_nat hA
theorem stOf_nat {i : TI} {p x : Operand} {A : Ac} (hA : stOf c i p x = some A) : NatA A := by
  have main : ∀ q r lv, stTo c i q r lv x = some A → NatA A := by
    intro q r lv hA
    unfold stTo at hA
    repeat' (split at hA)
    all_goals first
      | (cases hA; done)
      | (cases hA; exact fun is => Nt_goP fun b p is => Nt_nth fun y => Nt_stK fun b => Nt_ret rfl)
      | (cases hA; exact fun is => Nt_goP fun b p is => Nt_stK fun b => Nt_ret rfl)
  unfold stOf at hA
  repeat' (split at hA)
  all_goals first | (cases hA; done) | exact main _ _ _ hA
theorem faOf_nat {dst : Option Nat} {i : TI} {f : Nat} {p : Operand} {A : Ac} (hA : faOf c dst i f p = some A) : NatA A := by
  unfold faOf at hA
  repeat' (split at hA)
  all_goals first | (cases hA; done) | exact dataOp_nat hA | (cases hA; trivial)
theorem iaOf_nat {dst : Option Nat} {i : TI} {x y : Operand} {A : Ac} (hA : iaOf c dst i x y = some A) : NatA A := by
  unfold iaOf at hA
  repeat' (split at hA)
  all_goals first | (cases hA; done) | exact dataOp_nat hA | (cases hA; trivial)
theorem bsOf_nat {dst : Option Nat} {i : TI} {n : Nat} {ps : List (Nat × Operand)} {A : Ac} (hA : bsOf c dst i n ps = some A) : NatA A := by
  unfold bsOf at hA
  simp only at hA
  repeat' (split at hA)
  all_goals first | (cases hA; done) | (cases hA; exact fun is => Nt_bind fun y => Nt_ret rfl)
theorem Nt_chk {n : Nat} {chk : Bool} {b : D} {f : D → (List D → Option Out) → Option Out} (h : ∀ y, Nt n (f y)) : Nt n (fun k => chkK chk b fun b => f b k) := by
  cases chk
  · exact h b
  · exact Nt_bind h
theorem apOf_nat {dst : Option Nat} {i : TI} {x y : Operand} {A : Ac} (hA : apOf c dst i x y = some A) : NatA A := by
  have main : ∀ d chk rs rx os, apTo c d i chk rs rx os = some A → NatA A := by
    intro d chk rs rx os hA
    unfold apTo at hA
    repeat' (split at hA)
    all_goals first
      | (cases hA; done)
      | (cases hA; exact fun is => Nt_src fun a => Nt_src fun b => Nt_chk fun b => Nt_bind fun y => Nt_ret rfl)
      | (cases hA; exact fun is => Nt_src fun b => Nt_chk fun b => Nt_bind fun y => Nt_ret rfl)
  unfold apOf at hA
  repeat' (split at hA)
  all_goals first
    | (cases hA; done)
    | exact main _ _ _ _ _ hA
theorem lnOf_nat {dst : Option Nat} {str : Bool} {x : Operand} {A : Ac} (hA : lnOf c dst str x = some A) : NatA A := by
  unfold lnOf at hA
  repeat' (split at hA)
  all_goals first | (cases hA; done) | exact dataOp_nat hA | (cases hA; trivial)
theorem slOf_nat {dst : Option Nat} {i : TI} {x : Operand} {lo hi : Option Operand} {A : Ac} (hA : slOf c dst i x lo hi = some A) : NatA A := by
  have own : slOwn c dst i x lo hi = some A → NatA A := by
    intro hA
    unfold slOwn at hA
    repeat' (split at hA)
    all_goals first | (cases hA; done) | (cases hA; exact fun is => Nt_src fun a => Nt_bind fun y => Nt_ret rfl)
  unfold slOf at hA
  repeat' (split at hA)
  all_goals first | (cases hA; done) | exact dataOp_nat hA | exact own hA
theorem mkOf_nat {dst : Option Nat} {i e : TI} {x y : Operand} {A : Ac} (hA : mkOf c dst i e x y = some A) : NatA A := by
  unfold mkOf at hA
  repeat' (split at hA)
  all_goals first | (cases hA; done) | (cases hA; exact fun is => Nt_bind fun y => Nt_ret rfl)
theorem bxOf_nat {dst : Option Nat} {i : TI} {x : Operand} {A : Ac} (hA : bxOf c dst i x = some A) : NatA A := by
  unfold bxOf at hA
  repeat' (split at hA)
  all_goals first | (cases hA; done) | (cases hA; exact fun is => Nt_bind fun y => Nt_ret rfl)
theorem alOf_nat {dst : Option Nat} {i : TI} {A : Ac} (hA : alOf c dst i = some A) : NatA A := by
  unfold alOf at hA
  repeat' (split at hA)
  all_goals first | (cases hA; done) | (cases hA; exact fun is => Nt_ret rfl)
theorem exOf_nat {dst : Option Nat} {x : Operand} {i : Nat} {A : Ac} (hA : exOf c dst x i = some A) : NatA A := by
  unfold exOf at hA
  repeat' (split at hA)
  all_goals first | (cases hA; done) | (cases hA; trivial) | (cases hA; exact fun is => Nt_nth fun t => Nt_bind fun y => Nt_ret rfl)
theorem outs_len (us : List D) : ∀ (ios : List Nat) (j : Nat), (clOf.go us j ios).length = ios.length
  | [], _ => rfl
  | _ :: l, j => by simp [clOf.go, outs_len us l]
theorem clOf_nat {dst : Option Nat} {S : FS} {xs : List Operand} {A : Ac} (hA : clOf c dst S xs = some A) : NatA A := by
  unfold clOf at hA
  split at hA
  · cases hA
  simp only at hA
  split at hA
  case h_2 => cases hA
  repeat' (split at hA)
  all_goals first
    | (cases hA; done)
    | (cases hA; exact fun is => Nt_asm fun ds => Nt_call fun rs us => Nt_ret (by simp [clOf.outs, outs_len]))
theorem cvOf_nat {dst : Option Nat} {i j : TI} {x : Operand} {A : Ac} (hA : cvOf c dst i j x = some A) : NatA A := by
  unfold cvOf at hA
  repeat' (split at hA)
  all_goals first | (cases hA; done) | exact dataOp_nat hA | (cases hA; trivial)
theorem ixOf_nat {dst : Option Nat} {i : TI} {x y : Operand} {A : Ac} (hA : ixOf c dst i x y = some A) : NatA A := by
  unfold ixOf at hA
  repeat' (split at hA)
  all_goals first | (cases hA; done) | exact dataOp_nat hA | (obtain ⟨i, _, hA⟩ := withT_some hA; exact dataOp_nat hA)
theorem buOf_nat {dst : Option Nat} {i : TI} {ps : List (Nat × Operand)} {A : Ac} (hA : buOf c dst i ps = some A) : NatA A := by
  unfold buOf at hA
  simp only at hA
  repeat' (split at hA)
  all_goals first | (cases hA; done) | exact dataOp_nat hA
theorem ncOf_nat {dst : Option Nat} {x : Operand} {A : Ac} (hA : ncOf c dst x = some A) : NatA A := by
  unfold ncOf at hA
  repeat' (split at hA)
  all_goals first | (cases hA; done) | exact dataOp_nat hA | (cases hA; trivial)
theorem caOf_nat {dst : Option Nat} {q : Call} {A : Ac} (hA : caOf c dst q = some A) : NatA A := by
  unfold caOf at hA
  split at hA
  · obtain ⟨i, _, hA⟩ := withT_some hA
    split at hA <;> first | exact lnOf_nat hA | cases hA
  · split at hA
    · obtain ⟨i, _, hA⟩ := withT_some hA
      obtain ⟨e, _, hA⟩ := withT_some hA
      split at hA <;> first | exact apOf_nat hA | cases hA
    · cases hA
  · exact dataOp_nat hA
  · exact dataOp_nat hA
  · split at hA <;> first | exact clOf_nat hA | cases hA
  · cases hA

theorem actOf_nat {o : Oper} {A : Ac} (hA : actOf c o = some A) : NatA A := by
  unfold actOf at hA
  split at hA
  case h_1 => exact mvOf_nat hA
  case h_2 => exact mvOf_nat hA
  case h_3 => exact dataOp_nat hA
  case h_4 => obtain ⟨i, _, hA⟩ := withT_some hA; exact alOf_nat hA
  case h_5 => obtain ⟨i, _, hA⟩ := withT_some hA; exact bxOf_nat hA
  case h_6 => obtain ⟨i, _, hA⟩ := withT_some hA; exact buOf_nat hA
  case h_7 =>
    obtain ⟨i, _, hA⟩ := withT_some hA
    obtain ⟨e, _, hA⟩ := withT_some hA
    split at hA <;> first | exact bsOf_nat hA | cases hA
  case h_8 => obtain ⟨i, _, hA⟩ := withT_some hA; exact ldOf_nat hA
  case h_9 =>
    split at hA
    · obtain ⟨i, _, hA⟩ := withT_some hA; exact stOf_nat hA
    · cases hA
  case h_10 => exact ncOf_nat hA
  case h_11 =>
    obtain ⟨i, _, hA⟩ := withT_some hA
    split at hA <;> exact dataOp_nat hA
  case h_12 => exact dataOp_nat hA
  case h_13 =>
    obtain ⟨i, _, hA⟩ := withT_some hA
    obtain ⟨e, _, hA⟩ := withT_some hA
    exact cvOf_nat hA
  case h_14 => split at hA <;> first | exact dataOp_nat hA | cases hA
  case h_15 =>
    obtain ⟨i, _, hA⟩ := withT_some hA
    obtain ⟨e, _, hA⟩ := withT_some hA
    split at hA <;> first | exact mkOf_nat hA | cases hA
  case h_16 =>
    obtain ⟨i, _, hA⟩ := withT_some hA
    split at hA <;> first | exact slOf_nat hA | cases hA
  case h_17 => obtain ⟨i, _, hA⟩ := withT_some hA; exact faOf_nat hA
  case h_18 =>
    obtain ⟨i, _, hA⟩ := withT_some hA
    split at hA <;> first | exact dataOp_nat hA | cases hA
  case h_19 => obtain ⟨i, _, hA⟩ := withT_some hA; exact iaOf_nat hA
  case h_20 => obtain ⟨i, _, hA⟩ := withT_some hA; exact ixOf_nat hA
  case h_21 => exact exOf_nat hA
  case h_22 => exact caOf_nat hA
  case h_23 => cases hA

end
end Go.V
