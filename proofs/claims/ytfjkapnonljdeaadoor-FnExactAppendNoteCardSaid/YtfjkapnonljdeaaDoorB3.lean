/-
  Contracts of strings.Join and strings.FieldsFunc, said of data.
-/
import Derived.Test.YtfjkapnonljdeaaDoorB2
import Derived.Shelf.Strings.FieldsFuncGrows
namespace Go.V
open Go.RowKit Go.Shelf

section
variable {P : Program} {ρ : Ren} {G : List (Nat × (Obj → Prop))}

def textsOf : List D → Option (List ByteArray)
  | [] => some []
  | .v (.string s) :: l => (textsOf l).map (s :: ·)
  | _ => none
theorem textsOf_map : ∀ (l : List D) (xs : List ByteArray), textsOf l = some xs → l = xs.map T
  | [], xs, h => by simp [textsOf] at h; subst h; rfl
  | .v (.string s) :: l, xs, h => by
    simp only [textsOf] at h
    obtain ⟨ys, h1, rfl⟩ := Option.map_eq_some_iff.1 h
    rw [textsOf_map l ys h1]
    rfl
  | .v (.bool _) :: _, _, h => by simp [textsOf] at h
  | .v (.int _ _) :: _, _, h => by simp [textsOf] at h
  | .arr _ _ :: _, _, h => by simp [textsOf] at h
  | .agg _ :: _, _, h => by simp [textsOf] at h
  | .ptr _ :: _, _, h => by simp [textsOf] at h
  | .clo _ _ :: _, _, h => by simp [textsOf] at h
  | .ifc :: _, _, h => by simp [textsOf] at h
  | .tup _ :: _, _, h => by simp [textsOf] at h
  | .ref _ _ :: _, _, h => by simp [textsOf] at h
  | .bad :: _, _, h => by simp [textsOf] at h
theorem textsOf_T : ∀ (xs : List ByteArray), textsOf (xs.map T) = some xs
  | [] => rfl
  | x :: xs => by simp [textsOf, textsOf_T xs]
theorem RepL_texts_eq {w : World} {F : Nat → Prop} : ∀ (xs : List ByteArray) (us : List Value), RepL w F (xs.map T) us → us = xs.map Value.string
  | [], us, h => RepL_nil.1 h
  | x :: xs, us, h => by
    obtain ⟨v1, v2, rfl, h1, h2⟩ := RepL_cons.1 h
    simp only [RepC] at h1
    rw [RepL_texts_eq xs v2 h2, h1.1]
    rfl

def joinOf (xs : List ByteArray) (sep : ByteArray) : ByteArray := ⟨(Lib.join (xs.map (·.data.toList)) sep.data.toList).toArray⟩
def fJoin : List D → Option Out
  | [.arr _ l, .v (.string sep)] => (textsOf l).bind fun xs => if xs.length ≤ 140737488355328 ∧ (joinOf xs sep).size ≤ 140737488355328 then some (.ret [T (joinOf xs sep)] []) else none
  | _ => none
@[reducible] def S_Join : FS := { pm := [.dat 2, .dat 0], rm := [.dat 0], f := fJoin }
theorem M_Join (L : Go.Proofs.Lays.n156 P ρ) (X : Go.Proofs.Builder.Extra P ρ) {f : Nat} (hf : ρ.f 156 = f) : Meets G P f S_Join := by
  subst hf
  have he : ∀ args w, (callFunc (ρ.f 156) args).run P w = .ok (.enter (ρ.f 156) args) w := Go.Proofs.enters_of L.f156 (by kernel_rfl) rfl
  refine meets_of_calls he fun ds rs us hd args w F ow hg ha hF _ => ?_
  obtain ⟨d, y, d', y', rfl, h2, h3, h4⟩ := args_two ha
  replace hd : fJoin [d, d'] = some (.ret rs us) := hd
  unfold fJoin at hd
  split at hd
  case h_2 => cases hd
  rename_i z l sep e
  cases e
  obtain ⟨xs, hx, hd⟩ := Option.bind_eq_some_iff.1 hd
  split at hd
  case isFalse => cases hd
  rename_i hz
  cases hd
  obtain rfl := textsOf_map _ _ hx
  obtain ⟨rfl, _⟩ := argD h4
  rcases h3 with h3 | h3
  · cases h3
  simp only [RepV, RepC] at h3
  obtain ⟨A, c, us, hy, hc, hr, _, hA⟩ := h3
  simp only [List.cons.injEq, and_true] at hy
  subst hy
  have hus := RepL_texts_eq xs us hr
  subst hus
  rw [size2 h2]
  by_cases hne : xs = []
  · subst hne
    refine (Go.Proofs.Any.strings_Join_none L X A c sep w).mono ?_
    rintro e w' ⟨rfl, rfl⟩
    refine ⟨_, rfl, F, _, [_], rfl, post_flat (Below.refl _ _) hF rfl rfl [_] [_] rfl rfl fun j d hj => ?_⟩
    match j, hj with
    | 0, hj =>
      simp only [List.getElem?_cons_zero, Option.some.injEq] at hj
      subst hj
      exact ⟨_, rfl, RepV_v.2 ⟨rfl, rfl⟩⟩
  · obtain ⟨b, o, rfl, hFb, hcells⟩ := hA (by simpa using hne)
    rw [List.length_map] at hc ⊢
    refine (Go.Proofs.Any.strings_Join L X b o c xs sep w (fun j x hj => hcells j _ (by simp [hj])) (hF b hFb).1 hz.1 hc (by simpa [joinOf, ByteArray.size] using hz.2)).mono ?_
    rintro e w' ⟨rfl, hB⟩
    refine ⟨_, rfl, F, _, [_], rfl, post_flat hB hF rfl rfl [_] [_] rfl rfl fun j d hj => ?_⟩
    match j, hj with
    | 0, hj =>
      simp only [List.getElem?_cons_zero, Option.some.injEq] at hj
      subst hj
      exact ⟨_, rfl, RepV_v.2 ⟨rfl, rfl⟩⟩

/-- A call of a function whose contract is said of data. -/
theorem calls_of_meets' {f : FuncId} {S : FS} (he : ∀ args w, (callFunc f args).run P w = .ok (.enter f args) w) (hm : Meets G P f S) {ds rs us : List D} (hd : S.f ds = some (.ret rs us)) {args : Array Value} {w : World} {F : Nat → Prop} {ow : Nat → Option Nat}
    (hgl : gOk G w F) (ha : ArgsOk w F ow 0 S.pm ds args.toList) (hF : ∀ b, F b → b < w.heap.size ∧ ow b = none) (hO : ∀ b i, ow b = some i → b < w.heap.size) :
    Calls P f args w fun e w' => ∃ v, e = .returned v ∧ ∃ F' R vs, v = resV vs ∧ CallPost S args rs us w F ow F' R vs w' := by
  have h2 := hm ds rs us hd args w F ow hgl ha hF hO { (default : Oper) with dst := some 0 } { tmps := #[undef], defers := [] } (fun a w' => ∃ F' R vs, a.tmps.getD 0 undef = resV vs ∧ CallPost S args rs us w F ow F' R vs w') (fun _ _ _ => False) (fun v w' h => by
    obtain ⟨F', R, vs, rfl, h⟩ := h
    exact ⟨F', R, vs, by simp [Act.put], h⟩)
  rw [he, Oper.upon_enter] at h2
  refine Calls.mono h2 fun e w' he => ?_
  cases e with
  | returned v =>
    obtain ⟨F', R, vs, h3, h4⟩ := he
    exact ⟨v, rfl, F', R, vs, by simpa [Act.put] using h3, h4⟩
  | panicked c => exact he.elim
  | outgrown => obtain ⟨_, _, h⟩ := he; exact h.elim

def fFieldsFunc (k : Nat) (p : Nat → Bool) : List D → Option Out
  | [.v (.string s), .clo k' []] => if k' = k ∧ s.size ≤ 4294967296 then some (.ret [.arr 1 ((Lib.goFieldsP p s).map T)] []) else none
  | _ => none
@[reducible] def S_FieldsFunc (k : Nat) (p : Nat → Bool) : FS := { pm := [.dat 0, .dat 2], rm := [.own 1 0 false], f := fFieldsFunc k p }
theorem M_FieldsFunc (L : Go.Proofs.Lays.n229 P ρ) {f : Nat} (hf : ρ.f 229 = f) {k : Nat} {Sk : FS} (ek : ∀ args w, (callFunc k args).run P w = .ok (.enter k args) w) (Mk : Meets G P k Sk) {p : Nat → Bool} (hpm : Sk.pm = [.dat 0]) (hrm : Sk.rm = [.dat 0])
    (hp : ∀ x : Nat, x ≤ 1114111 → Sk.f [.v (.int .i32 x)] = some (.ret [B (p x)] []))
    (hi154 : (P.info? (ρ.t 154)).map (fun i => (i.zero, i.size, i.bytes)) = some (some (.agg #[.int .i64 0, .int .i64 0]), 2, 16))
    (hi9 : (P.info? (ρ.t 9)).map (fun i => (i.zero, i.size, i.bytes)) = some (some (.string ⟨#[]⟩), 1, 16)) : Meets G P f (S_FieldsFunc k p) := by
  subst hf
  have he : ∀ args w, (callFunc (ρ.f 229) args).run P w = .ok (.enter (ρ.f 229) args) w := Go.Proofs.enters_of L.f229 (by kernel_rfl) rfl
  refine meets_of_calls he fun ds rs us hd args w F ow hg ha hF _ => ?_
  obtain ⟨d, y, d', y', rfl, h2, h3, h4⟩ := args_two ha
  replace hd : fFieldsFunc k p [d, d'] = some (.ret rs us) := hd
  unfold fFieldsFunc at hd
  split at hd
  case h_2 => cases hd
  rename_i s k' e
  cases e
  split at hd
  case isFalse => cases hd
  rename_i hz
  obtain ⟨rfl, hz⟩ := hz
  cases hd
  obtain ⟨rfl, _⟩ := argD h3
  rcases h4 with h4 | h4
  · cases h4
  simp only [RepV, RepC] at h4
  obtain ⟨us, hy, hr⟩ := h4
  rw [RepL_nil.1 hr] at hy
  simp only [List.cons.injEq, and_true] at hy
  subst hy
  rw [size2 h2]
  have hpred : Go.Proofs.PredGrows P k' #[] p w := by
    intro W x hx hB
    refine (calls_of_meets' ek Mk (hp x hx) (args := #[Go.Proofs.encR x] ++ #[]) (w := W) (F := F) (ow := fun _ => none) (gOk_mono (fun _ h => h) (fun b hb => hB.block b (hF b hb).1) hg) ?_ (fun b hb => ⟨Nat.lt_of_lt_of_le (hF b hb).1 hB.size, rfl⟩) (fun b i h => by cases h)).mono ?_
    · rw [hpm]
      exact ⟨.inr (RepV_v.2 ⟨rfl, rfl⟩), trivial⟩
    · rintro e w' ⟨v, rfl, F', R, vs, rfl, hpost⟩
      have hl := hpost.len
      rw [hrm] at hl
      obtain ⟨u, rfl⟩ := List.length_eq_one_iff.1 hl
      have h0 := hpost.res 0
      rw [hrm] at h0
      simp only [nthK, nth, List.getD_cons_zero] at h0
      rcases h0 with h0 | h0
      · cases h0
      exact ⟨by rw [resV, (RepV_v.1 h0).1], ⟨hpost.os, hpost.tape, hpost.output, hpost.size, fun b hb => hpost.keep b hb rfl⟩⟩
  refine (Go.Proofs.Any.strings_FieldsFunc_grows L k' #[] ek p s w hz hpred hi154 hi9).mono ?_
  rintro e w' ⟨A, rfl, hA, hown, hB⟩
  obtain ⟨_, hown⟩ := hown
  rcases hown with ⟨h, _⟩ | ⟨g, cap, cur, h5, h6, h7, h8, _, h10, h11⟩
  · cases h
  cases h5
  refine ⟨_, rfl, F, fun b => if b = A then some 0 else none, [_], rfl, post_own _ hB hF (fun b j hb => ?_) rfl rfl rfl rfl fun j => ?_⟩
  · split at hb
    · rename_i e; subst e; exact ⟨hA, (Array.getElem?_eq_some_iff.1 h7).1⟩
    · cases hb
  · match j with
    | 0 =>
      refine .inr (ownV_texts (A := A) h7 h8 (by omega) (fun i u hu => ?_) ⟨by simp, hA⟩)
      rw [← h11, List.getElem?_take] at hu
      split at hu
      · simpa using hu
      · cases hu
    | j + 1 => exact .inl rfl

end
end Go.V
