/-
  From contracts of the kit (what a call with given values comes to) to contracts said of data.
-/
import Derived.Test.YtfjkapnonljdeaaDoorVx
import Derived.Below
namespace Go.V
open Go.RowKit

section
variable {P : Program} {G : List (Nat × (Obj → Prop))}

theorem meets_of_calls {f : FuncId} {S : FS} (he : ∀ args w, (callFunc f args).run P w = .ok (.enter f args) w)
    (h : ∀ ds rs us, S.f ds = some (.ret rs us) → ∀ (args : Array Value) (w : World) (F : Nat → Prop) (ow : Nat → Option Nat), gOk G w F → ArgsOk w F ow 0 S.pm ds args.toList → (∀ b, F b → b < w.heap.size ∧ ow b = none) → (∀ b i, ow b = some i → b < w.heap.size) →
      Calls P f args w fun e w' => ∃ v, e = .returned v ∧ ∃ F' R vs, v = resV vs ∧ CallPost S args rs us w F ow F' R vs w') : Meets G P f S := by
  intro ds rs us hd args w F ow hg ha hF hO o a next Q hn
  rw [he, Oper.upon_enter]
  refine Calls.mono (h ds rs us hd args w F ow hg ha hF hO) (fun e w' hv => ?_)
  obtain ⟨v, rfl, F', R, vs, h1, h2⟩ := hv
  exact hn v w' ⟨F', R, vs, h1, h2⟩

theorem usOk_none {w : World} {F : Nat → Prop} : ∀ (ks : List Kd) (ys : List Value), (ks.all fun k => !isIo k) = true → ks.length = ys.length → UsOk w F ks [] ys
  | [], [], _, _ => trivial
  | k :: ks, y :: ys, h, hl => by
    simp only [List.all_cons, Bool.and_eq_true, Bool.not_eq_true'] at h
    simp only [UsOk, h.1]
    exact usOk_none ks ys h.2 (by simpa using hl)
  | [], _ :: _, _, hl => by cases hl
  | _ :: _, [], _, hl => by cases hl

theorem argsOk_len {w : World} {F : Nat → Prop} {ow : Nat → Option Nat} : ∀ (ks : List Kd) (ds : List D) (ys : List Value) (i : Nat), ArgsOk w F ow i ks ds ys → ds.length = ks.length ∧ ys.length = ks.length
  | [], [], [], _, _ => ⟨rfl, rfl⟩
  | k :: ks, d :: ds, y :: ys, i, h => by
    obtain ⟨h1, h2⟩ := argsOk_len ks ds ys (i + 1) h.2
    exact ⟨by simp [h1], by simp [h2]⟩
  | [], _ :: _, _, _, h => h.elim
  | [], [], _ :: _, _, h => h.elim
  | _ :: _, [], _, _, h => by cases ‹List Value› <;> exact h.elim
  | _ :: _, _ :: _, [], _, h => h.elim

theorem args_one {w : World} {F : Nat → Prop} {ow : Nat → Option Nat} {k : Kd} {ds : List D} {l : List Value} (h : ArgsOk w F ow 0 [k] ds l) : ∃ d y, ds = [d] ∧ l = [y] ∧ ArgOk w F (fun g => ow g = some 0) k d y := by
  match ds, l, h with
  | [d], [y], h => exact ⟨d, y, rfl, rfl, h.1⟩
  | [], l, h => cases l <;> exact h.elim
  | d :: d' :: ds, l, h =>
    match l, h with
    | [], h => exact h.elim
    | [y], h => exact h.2.elim
    | y :: y' :: ys, h => exact h.2.elim
  | [d], [], h => exact h.elim
  | [d], y :: y' :: ys, h => exact h.2.elim

theorem args_two {w : World} {F : Nat → Prop} {ow : Nat → Option Nat} {k k' : Kd} {ds : List D} {l : List Value} (h : ArgsOk w F ow 0 [k, k'] ds l) :
    ∃ d y d' y', ds = [d, d'] ∧ l = [y, y'] ∧ ArgOk w F (fun g => ow g = some 0) k d y ∧ ArgOk w F (fun g => ow g = some 1) k' d' y' := by
  obtain ⟨h1, h2⟩ := argsOk_len _ _ _ _ h
  match ds, l, h1, h2, h with
  | [d, d'], [y, y'], _, _, h => exact ⟨d, y, d', y', rfl, rfl, h.1, h.2.1⟩

theorem argD {w : World} {F own : Nat → Prop} {lv : Nat} {x y : Value} (h : ArgOk w F own (.dat lv) (.v x) y) : y = x ∧ flat x = true := by
  rcases h with h | h
  · cases h
  · exact RepV_v.1 h

/-- What a call leaves that writes nothing that was there. -/
theorem post_own {S : FS} {args : Array Value} {rs : List D} {vs : List Value} {w w' : World} {F : Nat → Prop} {ow : Nat → Option Nat} (R : Nat → Option Nat) (hB : Below w.heap.size w w') (hF : ∀ b, F b → b < w.heap.size ∧ ow b = none)
    (hR : ∀ b j, R b = some j → w.heap.size ≤ b ∧ b < w'.heap.size) (hio : (S.pm.all fun k => !isIo k) = true) (hl : S.pm.length = args.size) (h1 : vs.length = S.rm.length) (h2 : rs.length = S.rm.length)
    (hres : ∀ j, ResOk w' F w.heap.size (fun g => R g = some j) (nthK S.rm j) (nth rs j) (vs.getD j undef)) : CallPost S args rs [] w F ow F R vs w' :=
  ⟨hB.os, hB.tape, hB.output, hB.size, fun b hb _ => hB.block b hb, fun _ h => h, fun b hb => ⟨.inl hb, Nat.lt_of_lt_of_le (hF b hb).1 hB.size, by
    cases h : R b with
    | none => rfl
    | some j => exact absurd (hR b j h).1 (Nat.not_le.2 (hF b hb).1)⟩, hR, h1, h2, hres, usOk_none _ _ hio (by simpa using hl)⟩

/-- Scalars handed back. -/
theorem post_flat {S : FS} {args : Array Value} {w w' : World} {F : Nat → Prop} {ow : Nat → Option Nat} (hB : Below w.heap.size w w') (hF : ∀ b, F b → b < w.heap.size ∧ ow b = none) (hio : (S.pm.all fun k => !isIo k) = true) (hl : S.pm.length = args.size)
    (rs : List D) (vs : List Value) (hrm : S.rm = rs.map fun _ => .dat 0) (hv : vs.length = rs.length) (h : ∀ (j : Nat) (d : D), rs[j]? = some d → ∃ y : Value, vs[j]? = some y ∧ RepV w' (fun _ => False) d y) : CallPost S args rs [] w F ow F (fun _ => none) vs w' := by
  refine post_own _ hB hF (fun b j h => by cases h) hio hl (by rw [hrm, hv]; simp) (by rw [hrm]; simp) (fun j => ?_)
  rw [nth_eq, List.getD_eq_getElem?_getD]
  cases hj : rs[j]? with
  | none => exact .inl rfl
  | some d =>
    obtain ⟨y, h1, h2⟩ := h j d hj
    have hk : nthK S.rm j = .dat 0 := by
      rw [hrm]
      clear hrm h hv h1 h2
      induction rs generalizing j with
      | nil => simp at hj
      | cons r rs ih =>
        cases j with
        | zero => rfl
        | succ j => exact ih j (by simpa using hj)
    refine .inr ?_
    rw [hk, List.getD_eq_getElem?_getD, h1]
    exact RepV_mono (fun b hb => hb.elim) (fun _ _ => rfl) h2

theorem RepL_texts {w : World} {F : Nat → Prop} : ∀ (l : List ByteArray), RepL w F (l.map T) (l.map Value.string)
  | [] => RepL_nil.2 rfl
  | s :: l => RepL_cons.2 ⟨[.string s], l.map Value.string, rfl, by simp only [RepC]; exact ⟨trivial, rfl⟩, RepL_texts l⟩

/-- A new slice of texts handed back. -/
theorem ownV_texts {w' : World} {F own : Nat → Prop} {A c e : Nat} {cur : Array Value} {l : List ByteArray} (hb : w'.heap[A]? = some (.cells cur e (0, 0))) (hc : l.length ≤ c) (hs : c ≤ cur.size) (hl : ∀ (i : Nat) (u : Value), (l.map Value.string)[i]? = some u → cur[i]? = some u) (ho : own A) :
    OwnV w' F own 1 (.arr 1 (l.map T)) (.slice (some ⟨A, 0, none⟩) l.length c) := by
  refine ⟨l.map T, rfl, fun x hx => ?_, .inr ⟨A, 0, c, l.map Value.string, cur, e, by simp, by simpa using hc, hb, by omega, RepL_texts l, fun i u hu => by simpa using hl i u hu, ho⟩⟩
  obtain ⟨s, _, rfl⟩ := List.mem_map.1 hx
  rfl

end
end Go.V
