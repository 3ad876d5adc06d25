/-
  How the evaluated texts are reckoned: plain laws of the operations on data, and of loops.
-/
import Derived.Test.YtfjkapnonljdeaaDoorVy
namespace Go.V

section
variable {k : IntKind} {a b : Int} {bl : Bool} {eq : List Nat}
@[simp] theorem bin_add : bin .add bl eq (.v (.int k a)) (.v (.int k b)) = some (.v (.int k (k.wrap (a + b)))) := by simp [bin, intBin]
@[simp] theorem bin_sub : bin .sub bl eq (.v (.int k a)) (.v (.int k b)) = some (.v (.int k (k.wrap (a - b)))) := by simp [bin, intBin]
@[simp] theorem bin_mul : bin .mul bl eq (.v (.int k a)) (.v (.int k b)) = some (.v (.int k (k.wrap (a * b)))) := by simp [bin, intBin]
@[simp] theorem bin_quo : bin .quo bl eq (.v (.int k a)) (.v (.int k b)) = if b = 0 then none else some (.v (.int k (k.wrap (a.tdiv b)))) := by simp [bin, intBin]
@[simp] theorem bin_rem : bin .rem bl eq (.v (.int k a)) (.v (.int k b)) = if b = 0 then none else some (.v (.int k (a.tmod b))) := by simp [bin, intBin]
@[simp] theorem bin_lss : bin .lss bl eq (.v (.int k a)) (.v (.int k b)) = some (B (decide (a < b))) := by simp [bin, intBin]
@[simp] theorem bin_leq : bin .leq bl eq (.v (.int k a)) (.v (.int k b)) = some (B (decide (a ≤ b))) := by simp [bin, intBin]
@[simp] theorem bin_gtr : bin .gtr bl eq (.v (.int k a)) (.v (.int k b)) = some (B (decide (b < a))) := by simp [bin, intBin]
@[simp] theorem bin_geq : bin .geq bl eq (.v (.int k a)) (.v (.int k b)) = some (B (decide (b ≤ a))) := by simp [bin, intBin]
@[simp] theorem bin_eql : bin .eql bl eq (.v (.int k a)) (.v (.int k b)) = some (B (decide (a = b))) := by
  have : (a == b) = decide (a = b) := rfl
  simp [bin, intBin, this]
@[simp] theorem bin_neq : bin .neq bl eq (.v (.int k a)) (.v (.int k b)) = some (B (!decide (a = b))) := by
  have : (a != b) = !decide (a = b) := rfl
  simp [bin, intBin, this]
@[simp] theorem bin_eqlB {a b : Bool} : bin .eql true eq (B a) (B b) = some (B (a == b)) := by simp [bin]
@[simp] theorem bin_neqB {a b : Bool} : bin .neq true eq (B a) (B b) = some (B !(a == b)) := by simp [bin]
@[simp] theorem bin_addS {a b : ByteArray} : bin .add bl eq (T a) (T b) = if a.size + b.size ≤ 1152921504606846976 then some (T (a ++ b)) else none := by simp [bin, strBin]
@[simp] theorem bin_eqlS {a b : ByteArray} : bin .eql bl eq (T a) (T b) = some (B (decide (a = b))) := by
  have : (a.toList == b.toList) = decide (a = b) := by
    rw [Bool.eq_iff_iff, beq_iff_eq, decide_eq_true_eq]
    constructor
    · intro h
      have h1 : ∀ s : ByteArray, s.toList = s.data.toList := fun s => by simp [ByteArray.toList_eq]
      rw [h1, h1] at h
      cases a; cases b
      simp at h
      simp [h]
    · rintro rfl; rfl
  simp [bin, strBin, this]
@[simp] theorem bin_neqS {a b : ByteArray} : bin .neq bl eq (T a) (T b) = some (B (!decide (a = b))) := by
  have h := bin_eqlS (a := a) (b := b) (bl := bl) (eq := eq)
  simp only [bin, strBin, Option.some.injEq, D.v.injEq, Value.bool.injEq] at h ⊢
  rw [h]
@[simp] theorem un_not {b : Bool} : un .not (B b) = some (B !b) := rfl
@[simp] theorem un_neg : un .neg (.v (.int k a)) = some (.v (.int k (k.wrap (-a)))) := by simp [un]

theorem wrap_id (h1 : -9223372036854775808 ≤ a) (h2 : a < 9223372036854775808) : IntKind.i64.wrap a = a := by
  simp [IntKind.wrap, IntKind.bits, IntKind.signed]
  split <;> omega
end

@[simp] theorem ifD_B {c : Bool} {t e : Option Out} : ifD (B c) t e = if c = true then t else e := by cases c <;> rfl
@[simp] theorem ifN_B {c : Bool} {t e : Option Out} : ifN c t e = if c = true then t else e := by cases c <;> rfl
@[simp] theorem gate_t {v : D} {c : Bool} {r : Option D} : gate v (B c) true r = if c = true then r else some v := by cases c <;> rfl
@[simp] theorem gate_f {v : D} {c : Bool} {r : Option D} : gate v (B c) false r = if c = true then some v else r := by cases c <;> rfl
@[simp] theorem gate_s {v : D} {p : Bool} {l : List D} {r : Option D} : gate v (.tup l) p r = some v := rfl
@[simp] theorem gateC_s {p : Bool} {l : List D} {r : Option Out} {alt : List D} {k : List D → Option Out} : gateC (.tup l) p r alt k = k alt := rfl
def nrmK (r : Option Out) (k : List D → Option Out) : Option Out :=
  match r with
  | some (.nrm l) => k l
  | _ => none
@[simp] theorem nrmK_some {l : List D} {k : List D → Option Out} : nrmK (some (.nrm l)) k = k l := rfl
@[simp] theorem gateC_t {c : Bool} {r : Option Out} {alt : List D} {k : List D → Option Out} : gateC (B c) true r alt k = if c = true then nrmK r k else k alt := by cases c <;> rfl
@[simp] theorem gateC_f {c : Bool} {r : Option Out} {alt : List D} {k : List D → Option Out} : gateC (B c) false r alt k = if c = true then k alt else nrmK r k := by cases c <;> rfl
@[simp] theorem pickD_B {c : Bool} {a b : D} : pickD (B c) a b = some (if c = true then a else b) := by cases c <;> rfl
@[simp] theorem callK_ret {rs us : List D} {k : List D → List D → Option Out} : callK (some (.ret rs us)) k = k rs us := rfl
@[simp] theorem outK_ext {i : Nat} {s : List D} {x : Nat → List D → Option Out} {r : List D → List D → Option Out} : outK (.ext i s) x r = x i s := rfl
@[simp] theorem outK_ret {a b : List D} {x : Nat → List D → Option Out} {r : List D → List D → Option Out} : outK (.ret a b) x r = r a b := rfl
@[simp] theorem liveD_v {v : Value} {x : D} : liveD (.v v) x = some x := rfl
@[simp] theorem liveD_arr {z : Nat} {l : List D} {x : D} : liveD (.arr z l) x = some x := rfl
@[simp] theorem liveD_agg {l : List D} {x : D} : liveD (.agg l) x = some x := rfl
@[simp] theorem liveD_ref {i f : Nat} {x : D} : liveD (.ref i f) x = some x := rfl
@[simp] theorem liveD_tup {l : List D} {x : D} : liveD (.tup l) x = some x := rfl
@[simp] theorem lenD_arr {z : Nat} {l : List D} : lenD false (.arr z l) = some (I l.length) := rfl
@[simp] theorem lenD_str {s : ByteArray} : lenD true (T s) = some (I s.size) := rfl
@[simp] theorem sl_zero {a : D} {l : List D} : sl (a :: l) 0 = a := rfl
@[simp] theorem sl_succ {a : D} {l : List D} {n : Nat} : sl (a :: l) (n + 1) = sl l n := rfl
@[simp] theorem fldD_agg {ag : Bool} {n off : Nat} {l : List D} : fldD ag n off (.agg l) = takeD ag n (l.drop off) := rfl
@[simp] theorem ldD_ptr {ag : Bool} {n : Nat} {l : List D} : ldD ag n (.ptr l) = takeD ag n l := rfl
@[simp] theorem offD_ptr {off : Nat} {l : List D} : offD off (.ptr l) = some (.ptr (l.drop off)) := rfl
@[simp] theorem takeD_t {n : Nat} {l : List D} : takeD true n l = if n ≤ l.length then some (.agg (l.take n)) else none := rfl
@[simp] theorem takeD_f {n : Nat} {a : D} {l : List D} : takeD false n (a :: l) = some a := rfl
@[simp] theorem atD_agg {l : List D} {i f : Nat} : atD (.agg l) (.ref i f) = some (l.drop f) := rfl
@[simp] theorem atD_arr {z : Nat} {l : List D} {i f : Nat} : atD (.arr z l) (.ref i f) = (l[i]?).map fun d => d.cells.drop f := rfl
@[simp] theorem refAdd_ref {off i f : Nat} : refAdd off (.ref i f) = some (.ref i (f + off)) := rfl
@[simp] theorem elemD_nat {z : Nat} {l : List D} {k : IntKind} {i : Nat} : elemD z (.arr z l) (.v (.int k (i : Int))) = (l[i]?).map D.cells := by simp [elemD]
theorem elemD_int {z : Nat} {l : List D} {k : IntKind} {n : Int} (h : 0 ≤ n) : elemD z (.arr z l) (.v (.int k n)) = (l[n.toNat]?).map D.cells := by simp [elemD, h]
@[simp] theorem refI_nat {z : Nat} {l : List D} {k : IntKind} {i : Nat} : refI z (.arr z l) (.v (.int k (i : Int))) = if i < l.length then some (.ref i 0) else none := by simp [refI]
@[simp] theorem D_cells_agg {l : List D} : (D.agg l).cells = l := rfl
@[simp] theorem D_cells_v {v : Value} : (D.v v).cells = [.v v] := rfl
@[simp] theorem D_cells_arr {z : Nat} {l : List D} : (D.arr z l).cells = [.arr z l] := rfl
@[simp] theorem chkV_v {v : Value} : chkV (.v v) = some (.v v) := rfl
@[simp] theorem chkV_agg {l : List D} : chkV (.agg l) = if l.all isVs = true then some (.agg l) else none := by
  have : (D.agg l).isV = l.all isVs := by
    simp only [D.isV]
    congr 1
  simp [chkV, this]
@[simp] theorem isVs_v {v : Value} : isVs (.v v) = true := rfl
@[simp] theorem isVs_arr {z : Nat} {l : List D} : isVs (.arr z l) = false := rfl
@[simp] theorem single_v {v : Value} : (D.v v).single = true := rfl
@[simp] theorem single_arr {z : Nat} {l : List D} : (D.arr z l).single = true := rfl
@[simp] theorem width_agg {l : List D} : (D.agg l).width = l.length := rfl
@[simp] theorem width_v {v : Value} : (D.v v).width = 1 := rfl
@[simp] theorem width_arr {z : Nat} {l : List D} : (D.arr z l).width = 1 := rfl
@[simp] theorem boxD_eq {n : Nat} {x : D} : boxD n x = if x.cells.length = n ∧ x.cells.all D.single = true then some (.agg x.cells) else none := rfl
@[simp] theorem stD_agg {n i f : Nat} {l : List D} {x : D} : stD n (.agg l) (.ref i f) x = if x.cells.length = n ∧ f + n ≤ l.length ∧ x.cells.all D.single = true then some (.agg (putCells l f x.cells)) else none := rfl
@[simp] theorem putCells_eq {l : List D} {f : Nat} {vs : List D} : putCells l f vs = l.take f ++ vs ++ l.drop (f + vs.length) := rfl
@[simp] theorem tupAt_tup {l : List D} {i : Nat} : tupAt (.tup l) i = match l[i]? with
    | some .bad => none
    | some (.tup _) => none
    | r => r := rfl
@[simp] theorem tupCut_tup {l : List D} {i : Nat} : tupCut (.tup l) i = .tup (l.set i .bad) := rfl
@[simp] theorem ref0_eq {x : D} : ref0 (.ref 0 0) x = some x := rfl
@[simp] theorem appD_eq {z eb : Nat} {l m : List D} : appD z eb (.arr z l) (.arr z m) = if (l.length + m.length) * eb ≤ 140737488355328 ∧ l.length + m.length ≤ 1152921504606846976 then some (.arr z (l ++ m)) else none := by simp [appD]

@[simp] theorem elemD_nat1 {z : Nat} {l : List D} {k : IntKind} {i : Nat} : elemD z (.arr z l) (.v (.int k ((i : Int) + 1))) = (l[i + 1]?).map D.cells := elemD_nat (i := i + 1)
@[simp] theorem elemD_zero {z : Nat} {l : List D} {k : IntKind} : elemD z (.arr z l) (.v (.int k 0)) = (l[0]?).map D.cells := elemD_nat (i := 0)
@[simp] theorem makD_nat {z eb : Nat} {x : D} {k k' : IntKind} {n m : Nat} : makD z eb x (.v (.int k (n : Int))) (.v (.int k' (m : Int))) = if n ≤ m ∧ m * eb ≤ 140737488355328 ∧ m ≤ 140737488355328 then some (.arr z (List.replicate n x)) else none := by
  have h : ((n : Int) ≤ m ∧ (m : Int) * (eb : Int) ≤ 140737488355328 ∧ (m : Int) ≤ 140737488355328) ↔ (n ≤ m ∧ m * eb ≤ 140737488355328 ∧ m ≤ 140737488355328) := by
    rw [← Int.natCast_mul]
    omega
  simp only [makD, Int.natCast_nonneg, true_and, h, Int.toNat_natCast]

/-- An element of an owned slice that is written whole. -/
theorem stD_arr {n z i : Nat} {L c v : List D} (h : L[i]? = some (.agg c)) (hc : c.length = n) (hv : v.length = n) (hs : v.all D.single = true) : stD n (.arr z L) (.ref i 0) (.agg v) = some (.arr z (L.set i (.agg v))) := by
  have e : (D.agg c).ofCells (putCells c 0 v) = .agg v := by
    simp only [D.ofCells, putCells, List.take_zero, List.nil_append, Nat.zero_add, hv, ← hc, List.drop_length, List.append_nil]
  have h2 : (D.agg v).cells = v := rfl
  simp only [stD, h, h2, e, width_agg, hc, hv, hs, Nat.zero_add, Nat.le_refl, and_self, if_true, D_cells_agg]
theorem stD_arr1 {z i : Nat} {L : List D} {v w : Value} (h : L[i]? = some (.v w)) : stD 1 (.arr z L) (.ref i 0) (.v v) = some (.arr z (L.set i (.v v))) := by
  simp [stD, h, D.ofCells]

/-- A list that is filled from the left. -/
def fillL {β : Type} (f : β → D) (z : D) (l : List β) (i : Nat) : List D := (l.take i).map f ++ List.replicate (l.length - i) z
section
variable {β : Type} {f : β → D} {z : D} {l : List β} {i : Nat}
theorem fillL_zero : List.replicate l.length z = fillL f z l 0 := by simp [fillL]
theorem fillL_full : fillL f z l l.length = l.map f := by simp [fillL]
@[simp] theorem fillL_length (h : i ≤ l.length) : (fillL f z l i).length = l.length := by simp [fillL]; omega
theorem fillL_get (h : i < l.length) : (fillL f z l i)[i]? = some z := by
  rw [fillL, List.getElem?_append_right (by simp; omega)]
  simp [List.getElem?_replicate]
  omega
theorem fillL_set {x : β} (h : l[i]? = some x) : (fillL f z l i).set i (f x) = fillL f z l (i + 1) := by
  have hi : i < l.length := (List.getElem?_eq_some_iff.1 h).1
  have hx : l[i] = x := (List.getElem?_eq_some_iff.1 h).2
  obtain ⟨m, hm⟩ : ∃ m, l.length - i = m + 1 := ⟨l.length - i - 1, by omega⟩
  rw [fillL, fillL, hm, show l.length - (i + 1) = m from by omega, List.replicate_succ, List.set_append_right _ _ (by simp; omega)]
  have : i - (List.map f (l.take i)).length = 0 := by simp; omega
  rw [this, List.set_cons_zero, List.take_succ_eq_append_getElem hi, List.map_append, hx]
  simp
end

/-- Some cells of an element of an owned slice are written. -/
theorem stD_part {z i f : Nat} {L c : List D} {v : Value} (h : L[i]? = some (.agg c)) (hf : f < c.length) : stD 1 (.arr z L) (.ref i f) (.v v) = some (.arr z (L.set i (.agg (putCells c f [.v v])))) := by
  have h2 : (D.v v).cells = [.v v] := rfl
  have h3 : f + 1 ≤ c.length := hf
  simp [stD, h, h2, h3, D.ofCells]

/-- A list that is marked from the left. -/
def markL {β : Type} (g : Nat → D) (f : β → D) (l : List β) (i : Nat) : List D := (List.range i).map g ++ (l.drop i).map f
section
variable {β : Type} {g : Nat → D} {f : β → D} {l : List β} {i : Nat}
theorem markL_zero : l.map f = markL g f l 0 := by simp [markL]
theorem markL_full : markL g f l l.length = (List.range l.length).map g := by simp [markL]
@[simp] theorem markL_length (h : i ≤ l.length) : (markL g f l i).length = l.length := by simp [markL]; omega
theorem markL_get (h : i < l.length) : (markL g f l i)[i]? = some (f l[i]) := by
  rw [markL, List.getElem?_append_right (by simp)]
  simp [h]
theorem markL_set (h : i < l.length) : (markL g f l i).set i (g i) = markL g f l (i + 1) := by
  rw [markL, markL, List.drop_eq_getElem_cons h, List.set_append_right _ _ (by simp), List.map_cons, List.length_map, List.length_range, Nat.sub_self, List.set_cons_zero, List.range_succ, List.map_append]
  simp
end

theorem mkArr_nil {z : Nat} : mkArr z [] = some (.arr z []) := rfl
@[simp] theorem chkA_map {β : Type} {z : Nat} {l : List β} {f : β → D} (h : ∀ x, (f x).isV = true) : chkA (.arr z (l.map f)) = some (.arr z (l.map f)) := by
  have : (l.map f).all D.isV = true := by simp [h]
  simp only [chkA, this, if_true]
theorem sliceD_nat {z i j : Nat} {l : List D} {k k' : IntKind} (h1 : i ≤ j) (h2 : j ≤ l.length) : sliceD false z (.arr z l) (.v (.int k (i : Int))) (.v (.int k' (j : Int))) = some (.arr z ((l.take j).drop i)) := by
  simp only [sliceD, Int.toNat_natCast, true_and]
  rw [if_pos]
  omega
theorem sliceHi_nat {z i : Nat} {l : List D} {k : IntKind} (h : i ≤ l.length) : sliceHi false z (.arr z l) (.v (.int k (i : Int))) = some (.arr z (l.drop i)) := by
  simp only [sliceHi, Int.toNat_natCast, true_and]
  rw [if_pos]
  omega
theorem wrap_neg {a b : Int} : IntKind.i64.wrap (a + IntKind.i64.wrap (-b)) = IntKind.i64.wrap (a - b) := by
  simp only [IntKind.wrap_i64]
  omega
@[simp] theorem ite_B {p : Prop} [Decidable p] {a b : Bool} : (if p then D.v (.bool a) else D.v (.bool b)) = D.v (.bool (if p then a else b)) := by split <;> rfl

/-! ### loops -/
theorem iter_mono {body : List D → Option Out} : ∀ (n : Nat) (s : List D) (o : Out), iter body n s = some o → ∀ m, n ≤ m → iter body m s = some o
  | 0, _, _, h, _, _ => by simp [iter] at h
  | n + 1, s, o, h, m, hm => by
    obtain ⟨m, rfl⟩ : ∃ q, m = q + 1 := ⟨m - 1, by omega⟩
    simp only [iter] at h ⊢
    split at h
    · rename_i s' hb
      exact iter_mono n s' o h m (by omega)
    · exact h

theorem loopC_of {body : List D → Option Out} {s : List D} {o : Out} (n : Nat) (h : iter body n s = some o) : loopC body s = some o := by
  have hex : ∃ n, (iter body n s).isSome = true := ⟨n, by rw [h]; rfl⟩
  unfold loopC
  rw [dif_pos hex]
  obtain ⟨o', ho⟩ := Option.isSome_iff_exists.1 (Classical.choose_spec hex)
  rw [ho]
  have h1 := iter_mono _ _ _ ho (max n (Classical.choose hex)) (by omega)
  have h2 := iter_mono _ _ _ h (max n (Classical.choose hex)) (by omega)
  rw [h1] at h2
  exact h2

/-- A loop that comes to an end in some number of rounds. -/
inductive Runs (body : List D → Option Out) : List D → Out → Prop where
  | ext {s : List D} {i : Nat} {δ : List D} : body s = some (.ext i δ) → Runs body s (.ext i δ)
  | ret {s : List D} {rs us : List D} : body s = some (.ret rs us) → Runs body s (.ret rs us)
  | nrm {s s' : List D} {o : Out} : body s = some (.nrm s') → Runs body s' o → Runs body s o

theorem Runs.iter {body : List D → Option Out} {s : List D} {o : Out} (h : Runs body s o) : ∃ n, V.iter body n s = some o := by
  induction h with
  | ext h => exact ⟨1, by simp [V.iter, h]⟩
  | ret h => exact ⟨1, by simp [V.iter, h]⟩
  | nrm h _ ih =>
    obtain ⟨n, hn⟩ := ih
    exact ⟨n + 1, by simp [V.iter, h, hn]⟩
theorem Runs.loop {body : List D → Option Out} {s : List D} {o : Out} (h : Runs body s o) : loopC body s = some o := by
  obtain ⟨n, hn⟩ := h.iter
  exact loopC_of n hn

/-- A loop over a list; the state is a function of the place and of what is gathered. -/
def goL {α β : Type} (g : Nat → β → α → α ⊕ Out) (fin : α → Out) : Nat → List β → α → Out
  | _, [], a => fin a
  | i, x :: l, a => match g i x a with
    | .inl a' => goL g fin (i + 1) l a'
    | .inr o => o
def Out.ends : Out → Bool
  | .nrm _ => false
  | _ => true
theorem Runs.one {body : List D → Option Out} {s : List D} {o : Out} (h : body s = some o) (ho : o.ends = true) : Runs body s o := by
  cases o with
  | nrm _ => simp [Out.ends] at ho
  | ext _ _ => exact .ext h
  | ret _ _ => exact .ret h

theorem Runs.list {α β : Type} {body : List D → Option Out} (l : List β) (st : Nat → α → List D) (Inv : Nat → α → Prop) (g : Nat → β → α → α ⊕ Out) (fin : α → Out)
    (hs : ∀ i x a, l[i]? = some x → Inv i a → match g i x a with
      | .inl a' => body (st i a) = some (.nrm (st (i + 1) a')) ∧ Inv (i + 1) a'
      | .inr o => body (st i a) = some o ∧ o.ends = true)
    (he : ∀ a, Inv l.length a → body (st l.length a) = some (fin a) ∧ (fin a).ends = true) (a : α) (h0 : Inv 0 a) : Runs body (st 0 a) (goL g fin 0 l a) := by
  have key : ∀ (n i : Nat) (a : α), i + n = l.length → Inv i a → Runs body (st i a) (goL g fin i (l.drop i) a) := by
    intro n
    induction n with
    | zero =>
      intro i a hi hI
      have : i = l.length := by omega
      subst this
      rw [List.drop_length]
      exact Runs.one (he a hI).1 (he a hI).2
    | succ n ih =>
      intro i a hi hI
      have hlt : i < l.length := by omega
      rw [List.drop_eq_getElem_cons hlt]
      have h := hs i l[i] a (List.getElem?_eq_getElem hlt) hI
      simp only [goL]
      split at h
      · exact .nrm h.1 (ih (i + 1) _ (by omega) h.2)
      · exact Runs.one h.1 h.2
  simpa using key l.length 0 a (by omega) h0

theorem loop_list {α β : Type} {body : List D → Option Out} (l : List β) (st : Nat → α → List D) (Inv : Nat → α → Prop) (g : Nat → β → α → α ⊕ Out) (fin : α → Out)
    (hs : ∀ i x a, l[i]? = some x → Inv i a → match g i x a with
      | .inl a' => body (st i a) = some (.nrm (st (i + 1) a')) ∧ Inv (i + 1) a'
      | .inr o => body (st i a) = some o ∧ o.ends = true)
    (he : ∀ a, Inv l.length a → body (st l.length a) = some (fin a) ∧ (fin a).ends = true) (a : α) (h0 : Inv 0 a) {s0 : List D} (h : s0 = st 0 a) : loopC body s0 = some (goL g fin 0 l a) := by
  rw [h]
  exact (Runs.list l st Inv g fin hs he a h0).loop

/-- A loop whose state at each round is known: n rounds, then the end. -/
theorem loop_for {body : List D → Option Out} (n : Nat) (st : Nat → List D) (o : Out) (hs : ∀ i, i < n → body (st i) = some (.nrm (st (i + 1)))) (he : body (st n) = some o) (ho : o.ends = true) {s0 : List D} (h : s0 = st 0) : loopC body s0 = some o := by
  rw [h]
  have key : ∀ (m i : Nat), i + m = n → Runs body (st i) o := by
    intro m
    induction m with
    | zero =>
      intro i hi
      have : i = n := by omega
      subst this
      exact Runs.one he ho
    | succ m ih => exact fun i hi => .nrm (hs i (by omega)) (ih (i + 1) (by omega))
  exact (key n 0 (by omega)).loop

/-- A loop that goes over a list as long as all is well. -/
def allI {β : Type} (p : Nat → β → Bool) : Nat → List β → Bool
  | _, [] => true
  | i, x :: l => p i x && allI p (i + 1) l
theorem loop_all {β : Type} {body : List D → Option Out} (l : List β) (st : Nat → List D) (p : Nat → β → Bool) (o1 o2 : Out) (hs : ∀ (i : Nat) (hi : i < l.length), body (st i) = some (if p i l[i] = true then .nrm (st (i + 1)) else o1)) (he : body (st l.length) = some o2)
    (h1 : o1.ends = true) (h2 : o2.ends = true) {s0 : List D} (h : s0 = st 0) : loopC body s0 = some (if allI p 0 l = true then o2 else o1) := by
  have e : ∀ (m : List β) (i : Nat), goL (fun i x (_ : Unit) => if p i x = true then .inl () else .inr o1) (fun _ => o2) i m () = if allI p i m = true then o2 else o1 := by
    intro m
    induction m with
    | nil => intro i; simp [goL, allI]
    | cons x m ih =>
      intro i
      simp only [goL, allI]
      by_cases hp : p i x = true
      · simp [hp, ih]
      · simp [hp]
  rw [← e]
  refine loop_list l (fun i _ => st i) (fun _ _ => True) _ _ (fun i x a hx _ => ?_) (fun _ _ => ⟨he, h2⟩) () trivial h
  have hi : i < l.length := (List.getElem?_eq_some_iff.1 hx).1
  have hxe : l[i] = x := (List.getElem?_eq_some_iff.1 hx).2
  have := hs i hi
  rw [hxe] at this
  by_cases hp : p i x = true
  · simpa [hp] using this
  · simpa [hp, h1] using this

/-- A loop that gathers over a list. -/
theorem loop_foldl {α β : Type} {body : List D → Option Out} (l : List β) (st : Nat → α → List D) (f : α → β → α) (fin : α → Out) (a : α) (hs : ∀ (i : Nat) (a : α) (hi : i < l.length), body (st i a) = some (.nrm (st (i + 1) (f a l[i])))) (he : ∀ a, body (st l.length a) = some (fin a))
    (h1 : ∀ a, (fin a).ends = true) {s0 : List D} (h : s0 = st 0 a) : loopC body s0 = some (fin (l.foldl f a)) := by
  have e : ∀ (m : List β) (i : Nat) (a : α), goL (fun _ x a => .inl (f a x)) fin i m a = fin (m.foldl f a) := by
    intro m
    induction m with
    | nil => intro i a; rfl
    | cons x m ih => intro i a; simp only [goL, List.foldl_cons]; exact ih (i + 1) (f a x)
  rw [← e l 0 a]
  exact loop_list l st (fun _ _ => True) (fun _ x a => .inl (f a x)) _ (fun i x a hx _ => ⟨by
    have hi : i < l.length := (List.getElem?_eq_some_iff.1 hx).1
    have hxe : l[i] = x := (List.getElem?_eq_some_iff.1 hx).2
    rw [← hxe]
    exact hs i a hi, trivial⟩) (fun a _ => ⟨he a, h1 a⟩) a trivial h

/-- A loop that gathers over a list, and looks at the place too. -/
def foldI {α β : Type} (f : Nat → α → β → α) : Nat → List β → α → α
  | _, [], a => a
  | i, x :: l, a => foldI f (i + 1) l (f i a x)
theorem loop_foldi {α β : Type} {body : List D → Option Out} (l : List β) (st : Nat → α → List D) (Inv : Nat → α → Prop) (f : Nat → α → β → α) (fin : α → Out) (a : α) (hs : ∀ (i : Nat) (a : α) (hi : i < l.length), Inv i a → body (st i a) = some (.nrm (st (i + 1) (f i a l[i]))) ∧ Inv (i + 1) (f i a l[i]))
    (he : ∀ a, Inv l.length a → body (st l.length a) = some (fin a)) (h1 : ∀ a, (fin a).ends = true) (h0 : Inv 0 a) {s0 : List D} (h : s0 = st 0 a) : loopC body s0 = some (fin (foldI f 0 l a)) := by
  have e : ∀ (m : List β) (i : Nat) (a : α), goL (fun i x a => .inl (f i a x)) fin i m a = fin (foldI f i m a) := by
    intro m
    induction m with
    | nil => intro i a; rfl
    | cons x m ih => intro i a; simp only [goL, foldI]; exact ih (i + 1) (f i a x)
  rw [← e l 0 a]
  refine loop_list l st Inv (fun i x a => .inl (f i a x)) _ (fun i x a hx hI => ?_) (fun a hI => ⟨he a hI, h1 a⟩) a h0 h
  have hi : i < l.length := (List.getElem?_eq_some_iff.1 hx).1
  have hxe : l[i] = x := (List.getElem?_eq_some_iff.1 hx).2
  rw [← hxe]
  exact hs i a hi hI

theorem loop_bind {body : List D → Option Out} {s0 : List D} {K : Out → Option Out} {r : Option Out} (o : Out) (h : loopC body s0 = some o) (hk : K o = r) : (loopC body s0).bind K = r := by
  rw [h]
  exact hk

/-- A loop whose measure falls. -/
theorem loop_wf {α : Type} {body : List D → Option Out} (st : α → List D) (Inv : α → Prop) (μ : α → Nat) (Q : α → Out → Prop)
    (hs : ∀ a, Inv a → (∃ a', body (st a) = some (.nrm (st a')) ∧ Inv a' ∧ μ a' < μ a ∧ ∀ o, Q a' o → Q a o) ∨ ∃ o, body (st a) = some o ∧ o.ends = true ∧ Q a o) (a : α) (h : Inv a) {s0 : List D} (h0 : s0 = st a) : ∃ o, loopC body s0 = some o ∧ Q a o := by
  rw [h0]
  have key : ∀ (n : Nat) (a : α), μ a < n → Inv a → ∃ o, Runs body (st a) o ∧ Q a o := by
    intro n
    induction n with
    | zero => exact fun a h => by omega
    | succ n ih =>
      intro a hn hI
      rcases hs a hI with ⟨a', h1, h2, h3, h4⟩ | ⟨o, h1, h2, h3⟩
      · obtain ⟨o, h5, h6⟩ := ih a' (by omega) h2
        exact ⟨o, .nrm h1 h5, h4 o h6⟩
      · exact ⟨o, Runs.one h1 h2, h3⟩
  obtain ⟨o, h1, h2⟩ := key (μ a + 1) a (by omega) h
  exact ⟨o, h1.loop, h2⟩

theorem loop_wf_bind {α : Type} {body : List D → Option Out} {K : Out → Option Out} (R : Option Out → Prop) (st : α → List D) (Inv : α → Prop) (μ : α → Nat) (Q : Out → Prop)
    (hs : ∀ a, Inv a → (∃ a', body (st a) = some (.nrm (st a')) ∧ Inv a' ∧ μ a' < μ a) ∨ ∃ o, body (st a) = some o ∧ o.ends = true ∧ Q o) (a : α) (h : Inv a) {s0 : List D} (h0 : s0 = st a) (hk : ∀ o, Q o → R (K o)) : R ((loopC body s0).bind K) := by
  obtain ⟨o, h1, h2⟩ := loop_wf st Inv μ (fun _ o => Q o) (fun a ha => by
    rcases hs a ha with ⟨a', g1, g2, g3⟩ | h
    · exact .inl ⟨a', g1, g2, g3, fun _ h => h⟩
    · exact .inr h) a h h0
  rw [h1]
  exact hk o h2

end Go.V
