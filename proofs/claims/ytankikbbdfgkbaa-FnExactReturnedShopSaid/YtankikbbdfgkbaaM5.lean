/-
  How the evaluated texts are reckoned: plain laws of the operations on data, and of loops.
-/
import Derived.Test.YtankikbbdfgkbaaRows
import Derived.Test.YtankikbbdfgkbaaM4
namespace Go.V

section
variable {k : IntKind} {a b : Int} {bl : Bool} {eq : List Nat}
@[simp] theorem bin_add : bin .add bl eq (.v (.int k a)) (.v (.int k b)) = some (.v (.int k (k.wrap (a + b)))) := by simp [bin, intBin]
@[simp] theorem bin_sub : bin .sub bl eq (.v (.int k a)) (.v (.int k b)) = some (.v (.int k (k.wrap (a - b)))) := by simp [bin, intBin]
@[simp] theorem bin_mul : bin .mul bl eq (.v (.int k a)) (.v (.int k b)) = some (.v (.int k (k.wrap (a * b)))) := by simp [bin, intBin]
@[simp] theorem bin_quo : bin .quo bl eq (.v (.int k a)) (.v (.int k b)) = if b = 0 then none else some (.v (.int k (k.wrap (a.tdiv b)))) := by simp [bin, intBin]
@[simp] theorem bin_rem : bin .rem bl eq (.v (.int k a)) (.v (.int k b)) = if b = 0 then none else some (.v (.int k (a.tmod b))) := by simp [bin, intBin]
@[simp] theorem bin_lss : bin .lss bl eq (.v (.int k a)) (.v (.int k b)) = some (B (decide (a < b))) := by simp [bin, intBin]
@[simp] theorem bin_leq : bin .leq bl eq (.v (.int k a)) (.v (.int k b)) = some (B (decide (a ≤ b))) := by simp [bin, intBin]
@[simp] theorem bin_gtr : bin .gtr bl eq (.v (.int k a)) (.v (.int k b)) = some (B (decide (b < a))) := by simp [bin, intBin]
@[simp] theorem bin_geq : bin .geq bl eq (.v (.int k a)) (.v (.int k b)) = some (B (decide (b ≤ a))) := by simp [bin, intBin]
@[simp] theorem bin_eql : bin .eql bl eq (.v (.int k a)) (.v (.int k b)) = some (B (decide (a = b))) := by
  have : (a == b) = decide (a = b) := rfl
  simp [bin, intBin, this]
@[simp] theorem bin_neq : bin .neq bl eq (.v (.int k a)) (.v (.int k b)) = some (B (!decide (a = b))) := by
  have : (a != b) = !decide (a = b) := rfl
  simp [bin, intBin, this]
@[simp] theorem bin_eqlB {a b : Bool} : bin .eql true eq (B a) (B b) = some (B (a == b)) := by simp [bin]
@[simp] theorem bin_neqB {a b : Bool} : bin .neq true eq (B a) (B b) = some (B !(a == b)) := by simp [bin]
@[simp] theorem bin_addS {a b : ByteArray} : bin .add bl eq (T a) (T b) = if a.size + b.size ≤ 1152921504606846976 then some (T (a ++ b)) else none := by simp [bin, strBin]
@[simp] theorem bin_eqlS {a b : ByteArray} : bin .eql bl eq (T a) (T b) = some (B (decide (a = b))) := by
  have : (a.toList == b.toList) = decide (a = b) := by
    rw [Bool.eq_iff_iff, beq_iff_eq, decide_eq_true_eq]
    constructor
    · intro h
      have h1 : ∀ s : ByteArray, s.toList = s.data.toList := fun s => by simp [ByteArray.toList_eq]
      rw [h1, h1] at h
      cases a; cases b
      simp at h
      simp [h]
    · rintro rfl; rfl
  simp [bin, strBin, this]
@[simp] theorem bin_neqS {a b : ByteArray} : bin .neq bl eq (T a) (T b) = some (B (!decide (a = b))) := by
  have h := bin_eqlS (a := a) (b := b) (bl := bl) (eq := eq)
  simp only [bin, strBin, Option.some.injEq, D.v.injEq, Value.bool.injEq] at h ⊢
  rw [h]
@[simp] theorem un_not {b : Bool} : un .not (B b) = some (B !b) := rfl
@[simp] theorem un_neg : un .neg (.v (.int k a)) = some (.v (.int k (k.wrap (-a)))) := by simp [un]

theorem wrap_id (h1 : -9223372036854775808 ≤ a) (h2 : a < 9223372036854775808) : IntKind.i64.wrap a = a := by
  simp [IntKind.wrap, IntKind.bits, IntKind.signed]
  split <;> omega
end

@[simp] theorem ifD_B {c : Bool} {t e : Option Out} : ifD (B c) t e = if c = true then t else e := by cases c <;> rfl
@[simp] theorem ifN_B {c : Bool} {t e : Option Out} : ifN c t e = if c = true then t else e := by cases c <;> rfl
@[simp] theorem gate_t {v : D} {c : Bool} {r : Option D} : gate v (B c) true r = if c = true then r else some v := by cases c <;> rfl
@[simp] theorem gate_f {v : D} {c : Bool} {r : Option D} : gate v (B c) false r = if c = true then some v else r := by cases c <;> rfl
@[simp] theorem gate_s {v : D} {p : Bool} {l : List D} {r : Option D} : gate v (.tup l) p r = some v := rfl
@[simp] theorem gateC_s {p : Bool} {l : List D} {r : Option Out} {alt : List D} {k : List D → Option Out} : gateC (.tup l) p r alt k = k alt := rfl
def nrmK (r : Option Out) (k : List D → Option Out) : Option Out :=
  match r with
  | some (.nrm l) => k l
  | _ => none
@[simp] theorem nrmK_some {l : List D} {k : List D → Option Out} : nrmK (some (.nrm l)) k = k l := rfl
@[simp] theorem gateC_t {c : Bool} {r : Option Out} {alt : List D} {k : List D → Option Out} : gateC (B c) true r alt k = if c = true then nrmK r k else k alt := by cases c <;> rfl
@[simp] theorem gateC_f {c : Bool} {r : Option Out} {alt : List D} {k : List D → Option Out} : gateC (B c) false r alt k = if c = true then k alt else nrmK r k := by cases c <;> rfl
@[simp] theorem pickD_B {c : Bool} {a b : D} : pickD (B c) a b = some (if c = true then a else b) := by cases c <;> rfl
@[simp] theorem callK_ret {rs us : List D} {k : List D → List D → Option Out} : callK (some (.ret rs us)) k = k rs us := rfl
@[simp] theorem outK_ext {i : Nat} {s : List D} {x : Nat → List D → Option Out} {r : List D → List D → Option Out} : outK (.ext i s) x r = x i s := rfl
@[simp] theorem outK_ret {a b : List D} {x : Nat → List D → Option Out} {r : List D → List D → Option Out} : outK (.ret a b) x r = r a b := rfl
@[simp] theorem liveD_v {v : Value} {x : D} : liveD (.v v) x = some x := rfl
@[simp] theorem liveD_arr {z : Nat} {l : List D} {x : D} : liveD (.arr z l) x = some x := rfl
@[simp] theorem liveD_agg {l : List D} {x : D} : liveD (.agg l) x = some x := rfl
@[simp] theorem liveD_ref {i f : Nat} {x : D} : liveD (.ref i f) x = some x := rfl
@[simp] theorem liveD_tup {l : List D} {x : D} : liveD (.tup l) x = some x := rfl
@[simp] theorem lenD_arr {z : Nat} {l : List D} : lenD false (.arr z l) = some (I l.length) := rfl
@[simp] theorem lenD_str {s : ByteArray} : lenD true (T s) = some (I s.size) := rfl
@[simp] theorem sl_zero {a : D} {l : List D} : sl (a :: l) 0 = a := rfl
@[simp] theorem sl_succ {a : D} {l : List D} {n : Nat} : sl (a :: l) (n + 1) = sl l n := rfl
@[simp] theorem fldD_agg {ag : Bool} {n off : Nat} {l : List D} : fldD ag n off (.agg l) = takeD ag n (l.drop off) := rfl
@[simp] theorem ldD_ptr {ag : Bool} {n : Nat} {l : List D} : ldD ag n (.ptr l) = takeD ag n l := rfl
@[simp] theorem offD_ptr {off : Nat} {l : List D} : offD off (.ptr l) = some (.ptr (l.drop off)) := rfl
@[simp] theorem takeD_t {n : Nat} {l : List D} : takeD true n l = if n ≤ l.length then some (.agg (l.take n)) else none := rfl
@[simp] theorem takeD_f {n : Nat} {a : D} {l : List D} : takeD false n (a :: l) = some a := rfl
@[simp] theorem atD_agg {l : List D} {i f : Nat} : atD (.agg l) (.ref i f) = some (l.drop f) := rfl
@[simp] theorem atD_arr {z : Nat} {l : List D} {i f : Nat} : atD (.arr z l) (.ref i f) = (l[i]?).map fun d => d.cells.drop f := rfl
@[simp] theorem refAdd_ref {off i f : Nat} : refAdd off (.ref i f) = some (.ref i (f + off)) := rfl
@[simp] theorem elemD_nat {z : Nat} {l : List D} {k : IntKind} {i : Nat} : elemD z (.arr z l) (.v (.int k (i : Int))) = (l[i]?).map D.cells := by simp [elemD]
theorem elemD_int {z : Nat} {l : List D} {k : IntKind} {n : Int} (h : 0 ≤ n) : elemD z (.arr z l) (.v (.int k n)) = (l[n.toNat]?).map D.cells := by simp [elemD, h]
@[simp] theorem refI_nat {z : Nat} {l : List D} {k : IntKind} {i : Nat} : refI z (.arr z l) (.v (.int k (i : Int))) = if i < l.length then some (.ref i 0) else none := by simp [refI]
@[simp] theorem D_cells_agg {l : List D} : (D.agg l).cells = l := rfl
@[simp] theorem D_cells_v {v : Value} : (D.v v).cells = [.v v] := rfl
@[simp] theorem D_cells_arr {z : Nat} {l : List D} : (D.arr z l).cells = [.arr z l] := rfl
@[simp] theorem chkV_v {v : Value} : chkV (.v v) = some (.v v) := rfl
@[simp] theorem chkV_agg {l : List D} : chkV (.agg l) = if l.all isVs = true then some (.agg l) else none := by
  have : (D.agg l).isV = l.all isVs := by
    simp only [D.isV]
    congr 1
  simp [chkV, this]
@[simp] theorem isVs_v {v : Value} : isVs (.v v) = true := rfl
@[simp] theorem isVs_arr {z : Nat} {l : List D} : isVs (.arr z l) = false := rfl
@[simp] theorem single_v {v : Value} : (D.v v).single = true := rfl
@[simp] theorem single_arr {z : Nat} {l : List D} : (D.arr z l).single = true := rfl
@[simp] theorem width_agg {l : List D} : (D.agg l).width = l.length := rfl
@[simp] theorem width_v {v : Value} : (D.v v).width = 1 := rfl
@[simp] theorem width_arr {z : Nat} {l : List D} : (D.arr z l).width = 1 := rfl
@[simp] theorem boxD_eq {n : Nat} {x : D} : boxD n x = if x.cells.length = n ∧ x.cells.all D.single = true then some (.agg x.cells) else none := rfl
@[simp] theorem stD_agg {n i f : Nat} {l : List D} {x : D} : stD n (.agg l) (.ref i f) x = if x.cells.length = n ∧ f + n ≤ l.length ∧ x.cells.all D.single = true then some (.agg (putCells l f x.cells)) else none := rfl
@[simp] theorem putCells_eq {l : List D} {f : Nat} {vs : List D} : putCells l f vs = l.take f ++ vs ++ l.drop (f + vs.length) := rfl
@[simp] theorem tupAt_tup {l : List D} {i : Nat} : tupAt (.tup l) i = match l[i]? with
    | some .bad => none
    | some (.tup _) => none
    | r => r := rfl
@[simp] theorem tupCut_tup {l : List D} {i : Nat} : tupCut (.tup l) i = .tup (l.set i .bad) := rfl
@[simp] theorem ref0_eq {x : D} : ref0 (.ref 0 0) x = some x := rfl
@[simp] theorem appD_eq {z eb : Nat} {l m : List D} : appD z eb (.arr z l) (.arr z m) = if (l.length + m.length) * eb ≤ 140737488355328 ∧ l.length + m.length ≤ 1152921504606846976 then some (.arr z (l ++ m)) else none := by simp [appD]

@[simp] theorem elemD_nat1 {z : Nat} {l : List D} {k : IntKind} {i : Nat} : elemD z (.arr z l) (.v (.int k ((i : Int) + 1))) = (l[i + 1]?).map D.cells := elemD_nat (i := i + 1)
@[simp] theorem elemD_zero {z : Nat} {l : List D} {k : IntKind} : elemD z (.arr z l) (.v (.int k 0)) = (l[0]?).map D.cells := elemD_nat (i := 0)
@[simp] theorem makD_nat {z eb : Nat} {x : D} {k k' : IntKind} {n m : Nat} : makD z eb x (.v (.int k (n : Int))) (.v (.int k' (m : Int))) = if n ≤ m ∧ m * eb ≤ 140737488355328 ∧ m ≤ 140737488355328 then some (.arr z (List.replicate n x)) else none := by
  have h : ((n : Int) ≤ m ∧ (m : Int) * (eb : Int) ≤ 140737488355328 ∧ (m : Int) ≤ 140737488355328) ↔ (n ≤ m ∧ m * eb ≤ 140737488355328 ∧ m ≤ 140737488355328) := by
    rw [← Int.natCast_mul]
    omega
  simp only [makD, Int.natCast_nonneg, true_and, h, Int.toNat_natCast]

/-- An element of an owned slice that is written whole. -/
theorem stD_arr {n z i : Nat} {L c v : List D} (h : L[i]? = some (.agg c)) (hc : c.length = n) (hv : v.length = n) (hs : v.all D.single = true) : stD n (.arr z L) (.ref i 0) (.agg v) = some (.arr z (L.set i (.agg v))) := by
  have e : (D.agg c).ofCells (putCells c 0 v) = .agg v := by
    simp only [D.ofCells, putCells, List.take_zero, List.nil_append, Nat.zero_add, hv, ← hc, List.drop_length, List.append_nil]
  have h2 : (D.agg v).cells = v := rfl
  simp only [stD, h, h2, e, width_agg, hc, hv, hs, Nat.zero_add, Nat.le_refl, and_self, if_true, D_cells_agg]
theorem stD_arr1 {z i : Nat} {L : List D} {v w : Value} (h : L[i]? = some (.v w)) : stD 1 (.arr z L) (.ref i 0) (.v v) = some (.arr z (L.set i (.v v))) := by
  simp [stD, h, D.ofCells]

/-- A list that is filled from the left. -/
def fillL {β : Type} (f : β → D) (z : D) (l : List β) (i : Nat) : List D := (l.take i).map f ++ List.replicate (l.length - i) z
section
variable {β : Type} {f : β → D} {z : D} {l : List β} {i : Nat}
theorem fillL_zero : List.replicate l.length z = fillL f z l 0 := by simp [fillL]
theorem fillL_full : fillL f z l l.length = l.map f := by simp [fillL]
@[simp] theorem fillL_length (h : i ≤ l.length) : (fillL f z l i).length = l.length := by simp [fillL]; omega
theorem fillL_get (h : i < l.length) : (fillL f z l i)[i]? = some z := by
  rw [fillL, List.getElem?_append_right (by simp; omega)]
  simp [List.getElem?_replicate]
  omega
theorem fillL_set {x : β} (h : l[i]? = some x) : (fillL f z l i).set i (f x) = fillL f z l (i + 1) := by
  have hi : i < l.length := (List.getElem?_eq_some_iff.1 h).1
  have hx : l[i] = x := (List.getElem?_eq_some_iff.1 h).2
  obtain ⟨m, hm⟩ : ∃ m, l.length - i = m + 1 := ⟨l.length - i - 1, by omega⟩
  rw [fillL, fillL, hm, show l.length - (i + 1) = m from by omega, List.replicate_succ, List.set_append_right _ _ (by simp; omega)]
  have : i - (List.map f (l.take i)).length = 0 := by simp; omega
  rw [this, List.set_cons_zero, List.take_succ_eq_append_getElem hi, List.map_append, hx]
  simp
end

/-- Some cells of an element of an owned slice are written. -/
theorem stD_part {z i f : Nat} {L c : List D} {v : Value} (h : L[i]? = some (.agg c)) (hf : f < c.length) : stD 1 (.arr z L) (.ref i f) (.v v) = some (.arr z (L.set i (.agg (putCells c f [.v v])))) := by
  have h2 : (D.v v).cells = [.v v] := rfl
  have h3 : f + 1 ≤ c.length := hf
  simp [stD, h, h2, h3, D.ofCells]

/-- A list that is marked from the left. -/
def markL {β : Type} (g : Nat → D) (f : β → D) (l : List β) (i : Nat) : List D := (List.range i).map g ++ (l.drop i).map f
section
variable {β : Type} {g : Nat → D} {f : β → D} {l : List β} {i : Nat}
theorem markL_zero : l.map f = markL g f l 0 := by simp [markL]
theorem markL_full : markL g f l l.length = (List.range l.length).map g := by simp [markL]
@[simp] theorem markL_length (h : i ≤ l.length) : (markL g f l i).length = l.length := by simp [markL]; omega
theorem markL_get (h : i < l.length) : (markL g f l i)[i]? = some (f l[i]) := by
  rw [markL, List.getElem?_append_right (by simp)]
  simp [h]
theorem markL_set (h : i < l.length) : (markL g f l i).set i (g i) = markL g f l (i + 1) := by
  rw [markL, markL, List.drop_eq_getElem_cons h, List.set_append_right _ _ (by simp), List.map_cons, List.length_map, List.length_range, Nat.sub_self, List.set_cons_zero, List.range_succ, List.map_append]
  simp
end

theorem mkArr_nil {z : Nat} : mkArr z [] = some (.arr z []) := rfl
@[simp] theorem chkA_map {β : Type} {z : Nat} {l : List β} {f : β → D} (h : ∀ x, (f x).isV = true) : chkA (.arr z (l.map f)) = some (.arr z (l.map f)) := by
  have : (l.map f).all D.isV = true := by simp [h]
  simp only [chkA, this, if_true]
theorem sliceD_nat {z i j : Nat} {l : List D} {k k' : IntKind} (h1 : i ≤ j) (h2 : j ≤ l.length) : sliceD false z (.arr z l) (.v (.int k (i : Int))) (.v (.int k' (j : Int))) = some (.arr z ((l.take j).drop i)) := by
  simp only [sliceD, Int.toNat_natCast, true_and]
  rw [if_pos]
  omega
theorem sliceHi_nat {z i : Nat} {l : List D} {k : IntKind} (h : i ≤ l.length) : sliceHi false z (.arr z l) (.v (.int k (i : Int))) = some (.arr z (l.drop i)) := by
  simp only [sliceHi, Int.toNat_natCast, true_and]
  rw [if_pos]
  omega
theorem wrap_neg {a b : Int} : IntKind.i64.wrap (a + IntKind.i64.wrap (-b)) = IntKind.i64.wrap (a - b) := by
  simp only [IntKind.wrap_i64]
  omega
@[simp] theorem ite_B {p : Prop} [Decidable p] {a b : Bool} : (if p then D.v (.bool a) else D.v (.bool b)) = D.v (.bool (if p then a else b)) := by split <;> rfl

/-! ### loops -/
theorem iter_mono {body : List D → Option Out} : ∀ (n : Nat) (s : List D) (o : Out), iter body n s = some o → ∀ m, n ≤ m → iter body m s = some o
  | 0, _, _, h, _, _ => by simp [iter] at h
  | n + 1, s, o, h, m, hm => by
    obtain ⟨m, rfl⟩ : ∃ q, m = q + 1 := ⟨m - 1, by omega⟩
    simp only [iter] at h ⊢
    split at h
    · rename_i s' hb
      exact iter_mono n s' o h m (by omega)
    · exact h

theorem loopC_of {body : List D → Option Out} {s : List D} {o : Out} (n : Nat) (h : iter body n s = some o) : loopC body s = some o := by
  have hex : ∃ n, (iter body n s).isSome = true := ⟨n, by rw [h]; rfl⟩
  unfold loopC
  rw [dif_pos hex]
  obtain ⟨o', ho⟩ := Option.isSome_iff_exists.1 (Classical.choose_spec hex)
  rw [ho]
  have h1 := iter_mono _ _ _ ho (max n (Classical.choose hex)) (by omega)
  have h2 := iter_mono _ _ _ h (max n (Classical.choose hex)) (by omega)
  rw [h1] at h2
  exact h2

/-- A loop that comes to an end in some number of rounds. -/
inductive Runs (body : List D → Option Out) : List D → Out → Prop where
  | ext {s : List D} {i : Nat} {δ : List D} : body s = some (.ext i δ) → Runs body s (.ext i δ)
  | ret {s : List D} {rs us : List D} : body s = some (.ret rs us) → Runs body s (.ret rs us)
  | nrm {s s' : List D} {o : Out} : body s = some (.nrm s') → Runs body s' o → Runs body s o

theorem Runs.iter {body : List D → Option Out} {s : List D} {o : Out} (h : Runs body s o) : ∃ n, V.iter body n s = some o := by
  induction h with
  | ext h => exact ⟨1, by simp [V.iter, h]⟩
  | ret h => exact ⟨1, by simp [V.iter, h]⟩
  | nrm h _ ih =>
    obtain ⟨n, hn⟩ := ih
    exact ⟨n + 1, by simp [V.iter, h, hn]⟩
theorem Runs.loop {body : List D → Option Out} {s : List D} {o : Out} (h : Runs body s o) : loopC body s = some o := by
  obtain ⟨n, hn⟩ := h.iter
  exact loopC_of n hn

/-- A loop over a list; the state is a function of the place and of what is gathered. -/
def goL {α β : Type} (g : Nat → β → α → α ⊕ Out) (fin : α → Out) : Nat → List β → α → Out
  | _, [], a => fin a
  | i, x :: l, a => match g i x a with
    | .inl a' => goL g fin (i + 1) l a'
    | .inr o => o
def Out.ends : Out → Bool
  | .nrm _ => false
  | _ => true
theorem Runs.one {body : List D → Option Out} {s : List D} {o : Out} (h : body s = some o) (ho : o.ends = true) : Runs body s o := by
  cases o with
  | nrm _ => simp [Out.ends] at ho
  | ext _ _ => exact .ext h
  | ret _ _ => exact .ret h

theorem Runs.list {α β : Type} {body : List D → Option Out} (l : List β) (st : Nat → α → List D) (Inv : Nat → α → Prop) (g : Nat → β → α → α ⊕ Out) (fin : α → Out)
    (hs : ∀ i x a, l[i]? = some x → Inv i a → match g i x a with
      | .inl a' => body (st i a) = some (.nrm (st (i + 1) a')) ∧ Inv (i + 1) a'
      | .inr o => body (st i a) = some o ∧ o.ends = true)
    (he : ∀ a, Inv l.length a → body (st l.length a) = some (fin a) ∧ (fin a).ends = true) (a : α) (h0 : Inv 0 a) : Runs body (st 0 a) (goL g fin 0 l a) := by
  have key : ∀ (n i : Nat) (a : α), i + n = l.length → Inv i a → Runs body (st i a) (goL g fin i (l.drop i) a) := by
    intro n
    induction n with
    | zero =>
      intro i a hi hI
      have : i = l.length := by omega
      subst this
      rw [List.drop_length]
      exact Runs.one (he a hI).1 (he a hI).2
    | succ n ih =>
      intro i a hi hI
      have hlt : i < l.length := by omega
      rw [List.drop_eq_getElem_cons hlt]
      have h := hs i l[i] a (List.getElem?_eq_getElem hlt) hI
      simp only [goL]
      split at h
      · exact .nrm h.1 (ih (i + 1) _ (by omega) h.2)
      · exact Runs.one h.1 h.2
  simpa using key l.length 0 a (by omega) h0

theorem loop_list {α β : Type} {body : List D → Option Out} (l : List β) (st : Nat → α → List D) (Inv : Nat → α → Prop) (g : Nat → β → α → α ⊕ Out) (fin : α → Out)
    (hs : ∀ i x a, l[i]? = some x → Inv i a → match g i x a with
      | .inl a' => body (st i a) = some (.nrm (st (i + 1) a')) ∧ Inv (i + 1) a'
      | .inr o => body (st i a) = some o ∧ o.ends = true)
    (he : ∀ a, Inv l.length a → body (st l.length a) = some (fin a) ∧ (fin a).ends = true) (a : α) (h0 : Inv 0 a) {s0 : List D} (h : s0 = st 0 a) : loopC body s0 = some (goL g fin 0 l a) := by
  rw [h]
  exact (Runs.list l st Inv g fin hs he a h0).loop

/-- A loop whose state at each round is known: n rounds, then the end. -/
theorem loop_for {body : List D → Option Out} (n : Nat) (st : Nat → List D) (o : Out) (hs : ∀ i, i < n → body (st i) = some (.nrm (st (i + 1)))) (he : body (st n) = some o) (ho : o.ends = true) {s0 : List D} (h : s0 = st 0) : loopC body s0 = some o := by
  rw [h]
  have key : ∀ (m i : Nat), i + m = n → Runs body (st i) o := by
    intro m
    induction m with
    | zero =>
      intro i hi
      have : i = n := by omega
      subst this
      exact Runs.one he ho
    | succ m ih => exact fun i hi => .nrm (hs i (by omega)) (ih (i + 1) (by omega))
  exact (key n 0 (by omega)).loop

/-- A loop that goes over a list as long as all is well. -/
def allI {β : Type} (p : Nat → β → Bool) : Nat → List β → Bool
  | _, [] => true
  | i, x :: l => p i x && allI p (i + 1) l
theorem loop_all {β : Type} {body : List D → Option Out} (l : List β) (st : Nat → List D) (p : Nat → β → Bool) (o1 o2 : Out) (hs : ∀ (i : Nat) (hi : i < l.length), body (st i) = some (if p i l[i] = true then .nrm (st (i + 1)) else o1)) (he : body (st l.length) = some o2)
    (h1 : o1.ends = true) (h2 : o2.ends = true) {s0 : List D} (h : s0 = st 0) : loopC body s0 = some (if allI p 0 l = true then o2 else o1) := by
  have e : ∀ (m : List β) (i : Nat), goL (fun i x (_ : Unit) => if p i x = true then .inl () else .inr o1) (fun _ => o2) i m () = if allI p i m = true then o2 else o1 := by
    intro m
    induction m with
    | nil => intro i; simp [goL, allI]
    | cons x m ih =>
      intro i
      simp only [goL, allI]
      by_cases hp : p i x = true
      · simp [hp, ih]
      · simp [hp]
  rw [← e]
  refine loop_list l (fun i _ => st i) (fun _ _ => True) _ _ (fun i x a hx _ => ?_) (fun _ _ => ⟨he, h2⟩) () trivial h
  have hi : i < l.length := (List.getElem?_eq_some_iff.1 hx).1
  have hxe : l[i] = x := (List.getElem?_eq_some_iff.1 hx).2
  have := hs i hi
  rw [hxe] at this
  by_cases hp : p i x = true
  · simpa [hp] using this
  · simpa [hp, h1] using this

/-- A loop that gathers over a list. -/
theorem loop_foldl {α β : Type} {body : List D → Option Out} (l : List β) (st : Nat → α → List D) (f : α → β → α) (fin : α → Out) (a : α) (hs : ∀ (i : Nat) (a : α) (hi : i < l.length), body (st i a) = some (.nrm (st (i + 1) (f a l[i])))) (he : ∀ a, body (st l.length a) = some (fin a))
    (h1 : ∀ a, (fin a).ends = true) {s0 : List D} (h : s0 = st 0 a) : loopC body s0 = some (fin (l.foldl f a)) := by
  have e : ∀ (m : List β) (i : Nat) (a : α), goL (fun _ x a => .inl (f a x)) fin i m a = fin (m.foldl f a) := by
    intro m
    induction m with
    | nil => intro i a; rfl
    | cons x m ih => intro i a; simp only [goL, List.foldl_cons]; exact ih (i + 1) (f a x)
  rw [← e l 0 a]
  exact loop_list l st (fun _ _ => True) (fun _ x a => .inl (f a x)) _ (fun i x a hx _ => ⟨by
    have hi : i < l.length := (List.getElem?_eq_some_iff.1 hx).1
    have hxe : l[i] = x := (List.getElem?_eq_some_iff.1 hx).2
    rw [← hxe]
    exact hs i a hi, trivial⟩) (fun a _ => ⟨he a, h1 a⟩) a trivial h

/-- A loop that gathers over a list, and looks at the place too. -/
def foldI {α β : Type} (f : Nat → α → β → α) : Nat → List β → α → α
  | _, [], a => a
  | i, x :: l, a => foldI f (i + 1) l (f i a x)
theorem loop_foldi {α β : Type} {body : List D → Option Out} (l : List β) (st : Nat → α → List D) (Inv : Nat → α → Prop) (f : Nat → α → β → α) (fin : α → Out) (a : α) (hs : ∀ (i : Nat) (a : α) (hi : i < l.length), Inv i a → body (st i a) = some (.nrm (st (i + 1) (f i a l[i]))) ∧ Inv (i + 1) (f i a l[i]))
    (he : ∀ a, Inv l.length a → body (st l.length a) = some (fin a)) (h1 : ∀ a, (fin a).ends = true) (h0 : Inv 0 a) {s0 : List D} (h : s0 = st 0 a) : loopC body s0 = some (fin (foldI f 0 l a)) := by
  have e : ∀ (m : List β) (i : Nat) (a : α), goL (fun i x a => .inl (f i a x)) fin i m a = fin (foldI f i m a) := by
    intro m
    induction m with
    | nil => intro i a; rfl
    | cons x m ih => intro i a; simp only [goL, foldI]; exact ih (i + 1) (f i a x)
  rw [← e l 0 a]
  refine loop_list l st Inv (fun i x a => .inl (f i a x)) _ (fun i x a hx hI => ?_) (fun a hI => ⟨he a hI, h1 a⟩) a h0 h
  have hi : i < l.length := (List.getElem?_eq_some_iff.1 hx).1
  have hxe : l[i] = x := (List.getElem?_eq_some_iff.1 hx).2
  rw [← hxe]
  exact hs i a hi hI

theorem loop_bind {body : List D → Option Out} {s0 : List D} {K : Out → Option Out} {r : Option Out} (o : Out) (h : loopC body s0 = some o) (hk : K o = r) : (loopC body s0).bind K = r := by
  rw [h]
  exact hk

/-- A loop whose measure falls. -/
theorem loop_wf {α : Type} {body : List D → Option Out} (st : α → List D) (Inv : α → Prop) (μ : α → Nat) (Q : α → Out → Prop)
    (hs : ∀ a, Inv a → (∃ a', body (st a) = some (.nrm (st a')) ∧ Inv a' ∧ μ a' < μ a ∧ ∀ o, Q a' o → Q a o) ∨ ∃ o, body (st a) = some o ∧ o.ends = true ∧ Q a o) (a : α) (h : Inv a) {s0 : List D} (h0 : s0 = st a) : ∃ o, loopC body s0 = some o ∧ Q a o := by
  rw [h0]
  have key : ∀ (n : Nat) (a : α), μ a < n → Inv a → ∃ o, Runs body (st a) o ∧ Q a o := by
    intro n
    induction n with
    | zero => exact fun a h => by omega
    | succ n ih =>
      intro a hn hI
      rcases hs a hI with ⟨a', h1, h2, h3, h4⟩ | ⟨o, h1, h2, h3⟩
      · obtain ⟨o, h5, h6⟩ := ih a' (by omega) h2
        exact ⟨o, .nrm h1 h5, h4 o h6⟩
      · exact ⟨o, Runs.one h1 h2, h3⟩
  obtain ⟨o, h1, h2⟩ := key (μ a + 1) a (by omega) h
  exact ⟨o, h1.loop, h2⟩

theorem loop_wf_bind {α : Type} {body : List D → Option Out} {K : Out → Option Out} (R : Option Out → Prop) (st : α → List D) (Inv : α → Prop) (μ : α → Nat) (Q : Out → Prop)
    (hs : ∀ a, Inv a → (∃ a', body (st a) = some (.nrm (st a')) ∧ Inv a' ∧ μ a' < μ a) ∨ ∃ o, body (st a) = some o ∧ o.ends = true ∧ Q o) (a : α) (h : Inv a) {s0 : List D} (h0 : s0 = st a) (hk : ∀ o, Q o → R (K o)) : R ((loopC body s0).bind K) := by
  obtain ⟨o, h1, h2⟩ := loop_wf st Inv μ (fun _ o => Q o) (fun a ha => by
    rcases hs a ha with ⟨a', g1, g2, g3⟩ | h
    · exact .inl ⟨a', g1, g2, g3, fun _ h => h⟩
    · exact .inr h) a h h0
  rw [h1]
  exact hk o h2

end Go.V
/-
  The evaluator with joins: what stands behind a choice is evaluated once.
-/
namespace Go.V
open Go.RowKit

/-- What stands behind a choice, said once (not unfolded). -/
def joinC (f : (List D → Option Out) → Option Out) (k : List D → Option Out) : Option Out := f k

@[reducible] noncomputable def denJ (c : Cx) (J : List (Nat × List Nat)) : Nat → Nat → Code → List D → (Out → Option Out) → Option Out
  | _, _, .skip, δ, k => k (.nrm δ)
  | _, _, .region _ ops _, δ, k => runOps c ops.toList ops.toList δ fun δ' => k (.nrm δ')
  | p, bid, .seq a b, δ, k => match look J p with
    | none => denJ c J (Nat.mul 2 p) bid a δ fun o => seqK o (fun δ' => denJ c J (Nat.add (Nat.mul 2 p) 1) bid b δ' k) k
    | some hl => joinC (fun j => denJ c J (Nat.mul 2 p) bid a δ fun o => seqK o (fun δ' => getC δ' hl fun s => j s) k) (fun s => expandC (lenN c.K) hl s fun δ' => denJ c J (Nat.add (Nat.mul 2 p) 1) bid b δ' k)
  | p, bid, .cond x t e, δ, k => opC δ x fun q => ifD q (denJ c J (Nat.mul 2 p) bid t δ k) (denJ c J (Nat.add (Nat.mul 2 p) 1) bid e δ k)
  | p, _, .block id b, δ, k => denJ c J (Nat.mul 2 p) id b δ fun o => blkK id o k
  | p, bid, .loop b, δ, k => match look c.H bid with
    | none => none
    | some (hl, xl) =>
      getC δ hl fun s => (loopC (fun s => expandC (lenN c.K) hl s fun δ => denJ c J (Nat.mul 2 p) bid b δ (shrinkK hl xl)) s).bind fun o =>
        outK o (fun i s => expandC (lenN c.K) xl s fun δ => k (.ext i δ)) (fun a b => k (.ret a b))
  | _, _, .exit id, δ, k => k (.ext id δ)
  | _, _, .ret, δ, k => resC c δ c.res fun rs => getC δ c.ios fun us => usK us (k (.ret rs us))
  | _, _, _, _, _ => none

/-- A whole function. -/
@[reducible] noncomputable def denFJ (c : Cx) (J : List (Nat × List Nat)) (fn : Func) (ds : List D) : Option Out :=
  match fn.body with
  | none => none
  | some b => denJ c J 1 0 b (padTo fn.ntmps ds) fun o => match o with
    | .nrm δ => resC c δ c.res fun rs => getC δ c.ios fun us => usK us (some (.ret rs us))
    | .ext _ _ => none
    | .ret rs us => some (.ret rs us)

def okJ (c : Cx) (J : List (Nat × List Nat)) : Bool := J.all fun p => okLive c.K p.2
theorem okJ_at {c : Cx} : ∀ {J : List (Nat × List Nat)} {p : Nat} {hl : List Nat}, okJ c J = true → look J p = some hl → okLive c.K hl = true
  | [], _, _, _, h => by cases h
  | (q, l) :: J, p, hl, hJ, h => by
    unfold okJ at hJ
    rw [List.all_cons, Bool.and_eq_true] at hJ
    simp only [look] at h
    split at h
    · cases h
      exact hJ.1
    · exact okJ_at (J := J) hJ.2 h

section
variable {P : Program} {c : Cx} {B : Nat} {X : Nat → Prop} {w0 : World} {F0 F : Nat → Prop} {O : Nat → Option (Nat × Nat)} {a : Act} {w : World} {δ : List D}

theorem loop_roundsJ {V : Nat → Value} {J : List (Nat × List Nat)} {p : Nat} {b : Code} {bid : Nat} {hl xl : List Nat} (h1 : okLive c.K hl = true) (h2 : okLive c.K xl = true)
    (ih : ∀ (F : Nat → Prop) (O : Nat → Option (Nat × Nat)) (a : Act) (w : World) (δ : List D), Inv c B X w0 F0 F O a w δ → IoV c V a → ∀ (k : Out → Option Out) (r : Out), denJ c J p bid b δ k = some r → ∀ Q, (∀ e a w, Post c B X w0 F0 V k r e a w → Q e a w) → b.wp P Q a w)
    {k : Out → Option Out} {r : Out} {Q : Exit → Act → World → Prop} (hQ : ∀ e a w, Post c B X w0 F0 V k r e a w → Q e a w) {o : Out}
    (ho : outK o (fun i s => expandC (lenN c.K) xl s fun δ => k (.ext i δ)) (fun x y => k (.ret x y)) = some r) : ∀ (n : Nat) (F : Nat → Prop) (O : Nat → Option (Nat × Nat)) (a : Act) (w : World) (δ : List D), Inv c B X w0 F0 F O a w δ → IoV c V a →
    iter (fun s => expandC (lenN c.K) hl s fun δ => denJ c J p bid b δ (shrinkK hl xl)) n (getAll δ hl) = some o → Code.rounds P b Q n a w
  | 0, _, _, _, _, _, _, _, h => by cases h
  | n + 1, F, O, a, w, δ, hI, hV, h => by
    simp only [iter, expandC_eq] at h
    rw [rounds_succ]
    have hI' := hI.carry h1
    cases hb : denJ c J p bid b (carry (lenN c.K) hl δ) (shrinkK hl xl) with
    | none => rw [hb] at h; cases h
    | some ob =>
      rw [hb] at h
      refine ih F O a w _ hI' hV _ ob hb _ (fun e a' w' hp => ?_)
      cases ob with
      | nrm s' =>
        simp only at h
        cases e with
        | normal =>
          obtain ⟨⟨F', O', δ', g1, g2⟩, g3⟩ := hp
          simp only [shrinkK, getC_eq, Option.some.injEq, Out.nrm.injEq] at g2
          rw [← g2] at h
          exact loop_roundsJ h1 h2 ih hQ ho n F' O' a' w' δ' g1 g3 h
        | exit i =>
          obtain ⟨⟨F', O', δ', g1, g2⟩, g3⟩ := hp
          simp [shrinkK, getC_eq] at g2
        | ret =>
          obtain ⟨⟨F', O', δ', g1, g2⟩, g3⟩ := hp
          obtain ⟨rs, _, _, g4⟩ := retK_is g2
          simp [shrinkK] at g4
        | _ => exact hp.elim
      | ext i l =>
        simp only [Option.some.injEq] at h
        subst h
        cases e with
        | normal =>
          obtain ⟨⟨F', O', δ', g1, g2⟩, g3⟩ := hp
          simp [shrinkK, getC_eq] at g2
        | exit j =>
          obtain ⟨⟨F', O', δ', g1, g2⟩, g3⟩ := hp
          simp only [shrinkK, getC_eq, Option.some.injEq, Out.ext.injEq] at g2
          obtain ⟨rfl, rfl⟩ := g2
          simp only [outK, expandC_eq] at ho
          exact hQ (.exit j) _ _ ⟨⟨F', O', _, g1.carry h2, ho⟩, g3⟩
        | ret =>
          obtain ⟨⟨F', O', δ', g1, g2⟩, g3⟩ := hp
          obtain ⟨rs, _, _, g4⟩ := retK_is g2
          simp [shrinkK] at g4
        | _ => exact hp.elim
      | ret x y =>
        simp only [Option.some.injEq] at h
        subst h
        cases e with
        | normal =>
          obtain ⟨⟨F', O', δ', g1, g2⟩, g3⟩ := hp
          simp [shrinkK, getC_eq] at g2
        | exit j =>
          obtain ⟨⟨F', O', δ', g1, g2⟩, g3⟩ := hp
          simp [shrinkK, getC_eq] at g2
        | ret =>
          obtain ⟨⟨F', O', δ', g1, g2⟩, g3⟩ := hp
          obtain ⟨rs, g5, g6, g4⟩ := retK_is g2
          simp only [shrinkK, Option.some.injEq, Out.ret.injEq] at g4
          obtain ⟨rfl, rfl⟩ := g4
          exact hQ .ret _ _ ⟨⟨F', O', δ', g1, retK_of g5 g6 ho⟩, g3⟩
        | _ => exact hp.elim

theorem denJ_sound (hT : okT P c.T = true) (hS : ∀ f S, look c.S f = some S → Meets c.G P f S) (hm : P.follows .mixedOrders = true) {V : Nat → Value} {J : List (Nat × List Nat)} (hJ : okJ c J = true) : ∀ (b : Code) (p bid : Nat), okCode c bid b = true → ∀ (F : Nat → Prop) (O : Nat → Option (Nat × Nat)) (a : Act) (w : World) (δ : List D),
    Inv c B X w0 F0 F O a w δ → IoV c V a → ∀ (k : Out → Option Out) (r : Out), denJ c J p bid b δ k = some r → ∀ Q, (∀ e a w, Post c B X w0 F0 V k r e a w → Q e a w) → b.wp P Q a w
  | .skip, p, bid, _, F, O, a, w, δ, hI, hV, k, r, hg, Q, hQ => wp_skip (hQ _ _ _ ⟨⟨F, O, δ, hI, hg⟩, hV⟩)
  | .region id ops d, p, bid, hok, F, O, a, w, δ, hI, hV, k, r, hg, Q, hQ => by
    simp only [okCode, Bool.and_eq_true, List.all_eq_true] at hok
    have hq : ∀ a w, NextV c B X w0 F0 V (fun δ => k (.nrm δ)) r a w → Q .normal a w := fun a w h => hQ _ _ _ h
    cases d
    · exact wp_region_list (list_sound hT hS hq ops.toList hok.1 F O a w δ hI hV hg)
    · exact any_sound hT hS (by simpa using hok.2) hm hq hok.1 hI hV hg id
  | .seq x y, p, bid, hok, F, O, a, w, δ, hI, hV, k, r, hg, Q, hQ => by
    simp only [okCode, Bool.and_eq_true] at hok
    simp only [denJ] at hg
    cases hH : look J p with
    | none =>
      rw [hH] at hg
      refine wp_seq (denJ_sound hT hS hm hJ x _ bid hok.1 F O a w δ hI hV _ r hg _ (fun e a' w' hp => ?_))
      cases e with
      | normal =>
        obtain ⟨⟨F', O', δ', hI', hk'⟩, hV'⟩ := hp
        exact denJ_sound hT hS hm hJ y _ bid hok.2 F' O' a' w' δ' hI' hV' k r hk' Q hQ
      | exit id => exact hQ _ _ _ hp
      | ret => exact hQ _ _ _ hp
      | _ => exact hp.elim
    | some hl =>
      rw [hH] at hg
      simp only [joinC] at hg
      have hlive := okJ_at hJ hH
      refine wp_seq (denJ_sound hT hS hm hJ x _ bid hok.1 F O a w δ hI hV _ r hg _ (fun e a' w' hp => ?_))
      cases e with
      | normal =>
        obtain ⟨⟨F', O', δ', hI', hk'⟩, hV'⟩ := hp
        simp only [seqK, getC_eq, expandC_eq] at hk'
        exact denJ_sound hT hS hm hJ y _ bid hok.2 F' O' a' w' _ (hI'.carry hlive) hV' k r hk' Q hQ
      | exit id => exact hQ _ _ _ hp
      | ret => exact hQ _ _ _ hp
      | _ => exact hp.elim
  | .cond x t e, p, bid, hok, F, O, a, w, δ, hI, hV, k, r, hg, Q, hQ => by
    simp only [okCode, Bool.and_eq_true] at hok
    obtain ⟨⟨hlv, hok1⟩, hok2⟩ := hok
    have hop := hI.opd (ble_iff.1 hlv)
    have key : ifD (opD δ x) (denJ c J (Nat.mul 2 p) bid t δ k) (denJ c J (Nat.add (Nat.mul 2 p) 1) bid e δ k) = some r := by
      simp only [denJ] at hg
      cases x with
      | tmp s => simpa only [opC, nthC_eq, opD] using hg
      | const v => simpa only [opC, opD] using hg
      | func f => simpa only [opC, opD] using hg
      | global g => simp [opC] at hg
    unfold ifD at key
    split at key
    · rename_i hd
      rw [hd] at hop
      exact wp_cond_true (RepB_v hop).1 (denJ_sound hT hS hm hJ t _ bid hok1 F O a w δ hI hV k r key Q hQ)
    · rename_i hd
      rw [hd] at hop
      exact wp_cond_false (RepB_v hop).1 (denJ_sound hT hS hm hJ e _ bid hok2 F O a w δ hI hV k r key Q hQ)
    · cases key
  | .block id b, p, bid, hok, F, O, a, w, δ, hI, hV, k, r, hg, Q, hQ => by
    simp only [okCode] at hok
    refine wp_block (denJ_sound hT hS hm hJ b _ id hok F O a w δ hI hV _ r hg _ (fun e a' w' hp => ?_))
    cases e with
    | normal => exact hQ .normal _ _ hp
    | exit i =>
      simp only [Exit.inBlock]
      have hp' : NextV c B X w0 F0 V (fun δ => blkK id (.ext i δ) k) r a' w' := hp
      split
      · rename_i hi
        refine hQ .normal _ _ (NextV_mono hp' fun δ F O _ h => ?_)
        simp only [blkK] at h
        rw [beq_iff.2 (by simpa using hi)] at h
        exact h
      · rename_i hi
        refine hQ (.exit i) _ _ (NextV_mono hp' fun δ F O _ h => ?_)
        simp only [blkK] at h
        cases hb : Nat.beq i id
        · rw [hb] at h; exact h
        · exact absurd (by simpa using beq_iff.1 hb) hi
    | ret => exact hQ .ret _ _ hp
    | _ => exact hp.elim
  | .loop b, p, bid, hok, F, O, a, w, δ, hI, hV, k, r, hg, Q, hQ => by
    simp only [okCode, Bool.and_eq_true] at hok
    obtain ⟨hok1, hok2⟩ := hok
    simp only [denJ] at hg
    cases hH : look c.H bid with
    | none => rw [hH] at hg; cases hg
    | some hx =>
      obtain ⟨hl, xl⟩ := hx
      rw [hH] at hg hok2
      simp only [Bool.and_eq_true] at hok2
      simp only [getC_eq] at hg
      obtain ⟨o', h1, h2⟩ := Option.bind_eq_some_iff.1 hg
      unfold loopC at h1
      split at h1
      case isFalse => cases h1
      rename_i hex
      refine wp_loop_rounds (Classical.choose hex) ?_
      refine loop_roundsJ (hl := hl) (xl := xl) hok2.1 hok2.2 (fun F O a w δ hI hV k r hg Q hQ => denJ_sound hT hS hm hJ b _ bid hok1 F O a w δ hI hV k r hg Q hQ) hQ h2 _ F O a w δ hI hV h1
  | .exit id, p, bid, _, F, O, a, w, δ, hI, hV, k, r, hg, Q, hQ => wp_exit (hQ _ _ _ ⟨⟨F, O, δ, hI, hg⟩, hV⟩)
  | .ret, p, bid, _, F, O, a, w, δ, hI, hV, k, r, hg, Q, hQ => wp_ret (hQ _ _ _ ⟨⟨F, O, δ, hI, hg⟩, hV⟩)
  | .label _, _, _, hok, _, _, _, _, _, _, _, _, _, _, _, _ => by simp [okCode] at hok
  | .goto _, _, _, hok, _, _, _, _, _, _, _, _, _, _, _, _ => by simp [okCode] at hok
  | .scope _, _, _, hok, _, _, _, _, _, _, _, _, _, _, _, _ => by simp [okCode] at hok


theorem fn_callsJ (hT : okT P c.T = true) (hS : ∀ f S, look c.S f = some S → Meets c.G P f S) (hm : P.follows .mixedOrders = true) {J : List (Nat × List Nat)} (hJ : okJ c J = true) {f : FuncId} {fn : Func} (hf : P.funcs[f]? = some fn) {pm rm : List Kd} (hok : okFn c fn pm rm = true) (hres : c.res = fn.results.toList)
    {ds rs us : List D} (hd : denFJ c J fn ds = some (.ret rs us)) {args : Array Value} {w : World} {F : Nat → Prop} {ow : Nat → Option Nat} (hgl : gOk c.G w F) (ha : ArgsOk w F ow 0 pm ds args.toList) (hF : ∀ b, F b → b < w.heap.size ∧ ow b = none) (hO : ∀ b i, ow b = some i → b < w.heap.size) :
    Calls P f args w fun e w' => ∃ v, e = .returned v ∧ ∃ F' R vs, v = resV vs ∧ CallPost { pm := pm, rm := rm, f := denFJ c J fn } args rs us w F ow F' R vs w' := by
  unfold okFn at hok
  simp only [Bool.and_eq_true, decide_eq_true_eq] at hok
  obtain ⟨⟨⟨⟨⟨hcode, hlenK⟩, hpre⟩, hpm⟩, hokr⟩, hios⟩ := hok
  rw [beq_iff, lenN_eq] at hlenK
  obtain ⟨hpl, hpn⟩ := prefK_nth hpre
  obtain ⟨hdl, hal, hargs⟩ := ArgsOk_at pm ds args.toList 0 ha
  have hasz : args.size = pm.length := by simpa using hal
  unfold denFJ at hd
  cases hb : fn.body with
  | none => rw [hb] at hd; cases hd
  | some b =>
    rw [hb] at hd hcode
    simp only at hd hcode
    refine calls_of_wp hf hb ?_
    have hav : ∀ s, s < pm.length → av ({ tmps := args ++ Array.replicate (fn.ntmps - args.size) undef, defers := [] } : Act) s = args.toList.getD s undef := fun s hs => by
      have h1 : s < args.size := by omega
      simp only [av, Array.getD_eq_getD_getElem?, List.getD_eq_getElem?_getD, Array.getElem?_toList]
      rw [Array.getElem?_append_left h1]
    have hinit : Inv c w.heap.size (fun b => ow b ≠ none) w F F (fun b => (ow b).map fun i => (i, 0)) { tmps := args ++ Array.replicate (fn.ntmps - args.size) undef, defers := [] } w (padTo fn.ntmps ds) := by
      refine ⟨by simp; omega, by rw [padTo_len, hlenK], rfl, fun s => ?_, fun b hb => ⟨(hF b hb).1, by simp [(hF b hb).2]⟩, fun b p hp => ?_, fun _ h => h, fun _ h => .inl h, Nat.le_refl _, rfl, rfl, rfl, fun _ _ _ => rfl, hgl⟩
      · unfold SlotOk
        rw [padTo_nth _ _ _ (by rw [hdl]; omega)]
        by_cases hs : s < pm.length
        · rw [hpn s hs, hav s hs]
          rcases hargs s hs with hbad | harg
          · exact .inl hbad
          refine .inr ?_
          have hlv : ∀ lv, lv ≠ 1 → ∀ b, FB F 0 lv b → FB F w.heap.size lv b := fun lv h1 b hb => by
            match lv, h1 with
            | 0, _ => exact hb
            | _ + 2, _ => exact hb
          rcases okPm_at hpm s hs with ⟨lv, hk, h1⟩ | ⟨z, lv, hk, h1⟩ | ⟨n, lv, hk, h1⟩
          · rw [hk] at harg ⊢
            exact .inr (RepV_mono (hlv lv h1) (fun _ _ => rfl) harg)
          · rw [hk] at harg ⊢
            exact .inr (OwnV_mono' (hlv lv h1) (fun _ _ => rfl) (fun g _ hg => ⟨⟨by simp only [Nat.zero_add] at hg; simp [hg], fun h => by cases h⟩, rfl⟩) harg)
          · rw [hk] at harg ⊢
            exact .inr (BoxV_mono' (hlv lv h1) (fun _ _ => rfl) (fun g _ hg => ⟨⟨by simp only [Nat.zero_add] at hg; simp [hg], fun h => by cases h⟩, rfl⟩) harg)
        · refine .inl ?_
          rw [nth_eq, List.getD_eq_getElem?_getD, List.getElem?_eq_none (by omega)]
          rfl
      · obtain ⟨i, hi, rfl⟩ := Option.map_eq_some_iff.1 hp
        exact ⟨hO b i hi, .inr (by rw [hi]; simp)⟩
    refine denJ_sound hT hS hm hJ b 1 0 hcode F _ _ w _ hinit (V := av { tmps := args ++ Array.replicate (fn.ntmps - args.size) undef, defers := [] }) (fun _ _ => rfl) _ _ hd _ (fun e a' w' hp => ?_)
    have fin : NextV c w.heap.size (fun b => ow b ≠ none) w F (av { tmps := args ++ Array.replicate (fn.ntmps - args.size) undef, defers := [] }) (fun δ => retK c δ some) (.ret rs us) a' w' → a'.defers = [] ∧ ∃ v, (results fn a'.tmps).run P w' = .ok v w' ∧ ∃ v', Ending.returned v = .returned v' ∧ ∃ F' R vs, v' = resV vs ∧ CallPost { pm := pm, rm := rm, f := denFJ c J fn } args rs us w F ow F' R vs w' := by
      rintro ⟨⟨F', O', δ', hI', hk⟩, hV'⟩
      obtain ⟨rs', h1, h2, h3⟩ := retK_is hk
      simp only [Option.some.injEq, Out.ret.injEq] at h3
      obtain ⟨rfl, rfl⟩ := h3
      obtain ⟨vs, g1, g2, g3, g4⟩ := res_run (P := P) hT hI' c.res rm rs' hokr h1
      refine ⟨hI'.df, resV vs, ?_, _, rfl, F', fun b => if w.heap.size ≤ b then (match O' b with
        | some (t, 0) => resIx c.res t 0
        | _ => none) else none, vs, rfl, ?_⟩
      · have hrun : (fn.results.mapM (getRes a'.tmps)).run P w' = .ok vs.toArray w' := by
          rw [Array.mapM_eq_mapM_toList, ← hres]
          simp [g1]
        have hrw : results fn a'.tmps = (do
            let vs ← fn.results.mapM (getRes a'.tmps)
            pure (if h : vs.size = 1 then vs[0] else .tuple vs)) := by
          unfold results
          congr 1
        rw [hrw]
        simp only [Sem.run_bind, hrun, Result.andThen_ok, Sem.run_pure]
        congr 1
        rcases vs with _ | ⟨y, _ | ⟨y', vs⟩⟩
        · simp [resV]
        · simp [resV]
        · simp [resV]
      · refine ⟨hI'.os, hI'.tape, hI'.output, hI'.bb, fun b hb ho => hI'.keep b hb (by simp [ho]), hI'.f0, fun b hb => ⟨hI'.fn b hb, (hI'.fl b hb).1, by simp only [(hI'.fl b hb).2]; split <;> rfl⟩, fun b j hj => ?_, g2, g3, fun j => ?_, ?_⟩
        · split at hj
          case isFalse => cases hj
          rename_i hB
          refine ⟨hB, ?_⟩
          split at hj
          · rename_i t he; exact (hI'.ol b _ he).1
          · cases hj
        · refine ResOk_mono (fun hk g hg => ?_) (g4 j)
          obtain ⟨z, lv, hk⟩ := hk
          obtain ⟨e1, t, e2, e3⟩ := hg
          rw [if_pos e1]
          simp only [e3]
          have := (resIx_own c.res rm hokr j t 0 z lv hk e2).1
          simpa using this
        · rw [hios]
          refine UsOk_of pm args.toList 0 hal (fun j hj hio => ?_)
          rw [Nat.zero_add]
          have hkj := hpn j hj
          have hbj : nth δ' j ≠ .bad := by
            refine h2 _ ?_
            rw [hios, getAll_map]
            exact List.mem_map_of_mem (by simpa using ioIdx_mem pm 0 j hj hio)
          have havj : av a' j = args.toList.getD j undef := (hV' j (by rw [hkj]; exact hio)).trans (hav j hj)
          have hlv : ∀ lv, lv ≠ 1 → ∀ b, FB F' w.heap.size lv b → FB F' 0 lv b := fun lv h1 b hb => by
            match lv, h1 with
            | 0, _ => exact hb
            | _ + 2, _ => exact hb
          refine ⟨hbj, .inr ?_⟩
          rcases okPm_at hpm j hj with ⟨lv, hk, h1⟩ | ⟨z, lv, hk, h1⟩ | ⟨n, lv, hk, h1⟩
          · rw [hk] at hio; cases hio
          · have h5 := hI'.own (hkj.trans hk) hbj
            rw [havj] at h5
            rw [hk]
            exact OwnV_mono' (hlv lv h1) (fun _ _ => rfl) (fun _ _ _ => ⟨trivial, rfl⟩) h5
          · have h5 := hI'.box (hkj.trans hk) hbj
            rw [havj] at h5
            rw [hk]
            exact BoxV_mono' (hlv lv h1) (fun _ _ => rfl) (fun _ _ _ => ⟨trivial, rfl⟩) h5
    cases e with
    | normal => exact fin hp
    | exit i =>
      obtain ⟨⟨_, _, _, _, h⟩, _⟩ := hp
      cases h
    | ret =>
      refine fin (NextV_mono hp fun δ F O _ h => ?_)
      obtain ⟨rs', h1, h2, h3⟩ := retK_is h
      exact retK_of h1 h2 h3
    | _ => exact hp.elim

theorem meets_ofJ (hT : okT P c.T = true) (hS : ∀ f S, look c.S f = some S → Meets c.G P f S) (hm : P.follows .mixedOrders = true) {J : List (Nat × List Nat)} (hJ : okJ c J = true) {f : FuncId} {fn : Func} (hf : P.funcs[f]? = some fn) (hname : (fn.name == "runtime.NumGoroutine") = false) {pm rm : List Kd} (hok : okFn c fn pm rm = true) (hres : c.res = fn.results.toList) :
    Meets c.G P f { pm := pm, rm := rm, f := denFJ c J fn } := by
  intro ds rs us hd args w F ow hgl ha hF hO o a next Q hn
  have hbody : ∃ b, fn.body = some b := by
    have hd' : denFJ c J fn ds = some (.ret rs us) := hd
    unfold denFJ at hd'
    cases hb : fn.body with
    | none => rw [hb] at hd'; cases hd'
    | some b => exact ⟨b, rfl⟩
  obtain ⟨b, hb⟩ := hbody
  have hrun : (callFunc f args).run P w = .ok (.enter f args) w := by
    have h1 : ¬ fn.name = "runtime.NumGoroutine" := by simpa using hname
    simp [callFunc, hf, h1, hb]
  rw [hrun, Oper.upon_enter]
  refine Calls.mono (fn_callsJ hT hS hm hJ hf hok hres hd hgl ha hF hO) (fun e w' he => ?_)
  obtain ⟨v, rfl, F', R, vs, h1, h2⟩ := he
  exact hn v w' ⟨F', R, vs, h1, h2⟩


end

/-- A join: what is so of all that comes to it is so of the whole. -/
theorem joinC_of {f : (List D → Option Out) → Option Out} {k : List D → Option Out} {r : Option Out} (p : List D → Prop) (hk : ∀ s, p s → k s = r) (hf : ∀ j : List D → Option Out, (∀ s, p s → j s = r) → f j = r) : joinC f k = r := hf k hk
end Go.V
/-
  No facts of the world are asked at a seat whose rows list no variable.
-/
namespace Go.Proofs.Ytankikbbdfgkbaa
open Go Go.V
abbrev gl0 : List (Nat × (Obj → Prop)) := []
end Go.Proofs.Ytankikbbdfgkbaa
/-
  Contexts and contracts of functions, printed by gen.py.
-/
namespace Go.Proofs.Ytankikbbdfgkbaa
open Go.V
set_option maxRecDepth 100000
theorem follows_mixed : Try.prog.follows .mixedOrders = true := by kernel_rfl
@[reducible] def ty3 : TI := { n := 1, zero := [.v (.int .i64 0)], ik := some .i64 }
@[reducible] def ty4 : TI := { n := 1, zero := [.v (.bool false)], bl := true }
@[reducible] def ty5 : TI := { n := 1, zero := [.v (.int .u8 0)], ik := some .u8 }
@[reducible] def ty9 : TI := { n := 1, zero := [.v (.string ⟨#[]⟩)], str := true }
@[reducible] def ty22 : TI := { n := 1, zero := [.arr 4 []], elem := 79, ez := 4, eb := 40 }
@[reducible] def ty23 : TI := { n := 1, zero := [.arr 4 []], elem := 81, ez := 4, eb := 48 }
@[reducible] def ty25 : TI := { agg := true, n := 4, zero := [.arr 4 [], .arr 4 [], .v (.int .i64 0), .v (.int .i64 0)], fs := [(0, 22), (1, 23), (2, 3), (3, 3)] }
@[reducible] def ty27 : TI := { n := 1, zero := [.arr 1 []], elem := 3, ez := 1, eb := 8 }
@[reducible] def ty30 : TI := { n := 1, zero := [.arr 4 []], elem := 85, ez := 4, eb := 40 }
@[reducible] def ty31 : TI := { n := 1, zero := [.arr 4 []], elem := 63, ez := 4, eb := 48 }
@[reducible] def ty33 : TI := { agg := true, n := 4, zero := [.arr 4 [], .arr 4 [], .v (.int .i64 0), .v (.int .i64 0)], fs := [(0, 30), (1, 31), (2, 3), (3, 3)] }
@[reducible] def ty61 : TI := { n := 1, zero := [.arr 1 []], elem := 9, ez := 1, eb := 16 }
@[reducible] def ty63 : TI := { agg := true, n := 4, zero := [.v (.int .i64 0), .arr 1 [], .v (.bool false), .v (.int .i64 0)], fs := [(0, 3), (1, 61), (2, 4), (3, 3)] }
@[reducible] def ty79 : TI := { agg := true, n := 4, zero := [.v (.string ⟨#[]⟩), .v (.int .i64 0), .v (.int .i64 0), .v (.int .i64 0)], fs := [(0, 9), (1, 3), (2, 3), (3, 3)], eq := [3, 1, 1, 1] }
@[reducible] def ty81 : TI := { agg := true, n := 4, zero := [.v (.int .i64 0), .arr 1 [], .v (.bool false), .v (.int .i64 0)], fs := [(0, 3), (1, 61), (2, 4), (3, 3)] }
@[reducible] def ty85 : TI := { agg := true, n := 4, zero := [.v (.string ⟨#[]⟩), .v (.int .i64 0), .v (.int .i64 0), .v (.int .i64 0)], fs := [(0, 9), (1, 3), (2, 3), (3, 3)], eq := [3, 1, 1, 1] }
@[reducible] def ty100 : TI := { n := 1, zero := [.arr 1 []], elem := 5, ez := 1, eb := 1 }
/-- loop.example/g01054/laws.szBox -/
@[reducible] noncomputable def c_laws_szBox : Cx := { K := [.dat 0, .dat 0, .box 4 0 false, .no, .dat 0, .dat 0, .ref 2, .dat 0, .dat 0, .dat 0, .dat 0, .dat 0, .dat 0], T := [(3, ty3), (9, ty9), (79, ty79)], S := [], H := [], res := [.tmp 4], ios := [], G := gl0 }
noncomputable def F_laws_szBox : List D → Option Out := denF c_laws_szBox Try.f50
@[reducible] noncomputable def S_laws_szBox : FS := { pm := [.dat 0, .dat 0], rm := [.dat 0], f := F_laws_szBox }
theorem M_laws_szBox : Meets gl0 Try.prog 50 S_laws_szBox := meets_of (P := Try.prog) (c := c_laws_szBox) (fn := Try.f50) (pm := S_laws_szBox.pm) (rm := S_laws_szBox.rm) (by kernel_rfl) lookNil follows_mixed Try.func50 (by kernel_rfl) (by kernel_rfl) rfl
/-- loop.example/g01054/laws.szBoxS -/
@[reducible] noncomputable def c_laws_szBoxS : Cx := { K := [.dat 2, .dat 0, .no, .no, .dat 0, .dat 0, .dat 0, .dat 2, .dat 0, .dat 0, .dat 0, .dat 0, .dat 0, .dat 2, .dat 0, .dat 0, .dat 0, .dat 0, .dat 2, .dat 0, .dat 2, .dat 0, .dat 0, .dat 0, .dat 0, .dat 0, .dat 0], T := [(3, ty3), (9, ty9), (22, ty22), (79, ty79)], S := [(50, S_laws_szBox)], H := [(0, ([0, 1, 5], [1]))], res := [.tmp 4], ios := [], G := gl0 }
noncomputable def F_laws_szBoxS : List D → Option Out := denF c_laws_szBoxS Try.f29
@[reducible] noncomputable def S_laws_szBoxS : FS := { pm := [.dat 2, .dat 0], rm := [.dat 0], f := F_laws_szBoxS }
theorem M_laws_szBoxS : Meets gl0 Try.prog 29 S_laws_szBoxS := meets_of (P := Try.prog) (c := c_laws_szBoxS) (fn := Try.f29) (pm := S_laws_szBoxS.pm) (rm := S_laws_szBoxS.rm) (by kernel_rfl) (lookCons M_laws_szBox lookNil) follows_mixed Try.func29 (by kernel_rfl) (by kernel_rfl) rfl
/-- loop.example/g01054/laws.szStringS -/
@[reducible] noncomputable def c_laws_szStringS : Cx := { K := [.dat 2, .dat 0, .no, .no, .dat 0, .dat 0, .dat 0, .dat 2, .dat 0, .dat 0, .dat 0, .dat 0, .dat 0, .dat 2, .dat 0, .dat 0, .dat 0, .dat 0, .dat 0, .dat 2, .dat 0, .dat 2, .dat 0, .dat 0, .dat 0, .dat 0, .dat 0, .dat 0], T := [(3, ty3), (9, ty9), (61, ty61)], S := [], H := [(0, ([0, 1, 5], [1]))], res := [.tmp 4], ios := [], G := gl0 }
noncomputable def F_laws_szStringS : List D → Option Out := denF c_laws_szStringS Try.f74
@[reducible] noncomputable def S_laws_szStringS : FS := { pm := [.dat 2, .dat 0], rm := [.dat 0], f := F_laws_szStringS }
theorem M_laws_szStringS : Meets gl0 Try.prog 74 S_laws_szStringS := meets_of (P := Try.prog) (c := c_laws_szStringS) (fn := Try.f74) (pm := S_laws_szStringS.pm) (rm := S_laws_szStringS.rm) (by kernel_rfl) lookNil follows_mixed Try.func74 (by kernel_rfl) (by kernel_rfl) rfl
/-- loop.example/g01054/laws.szForme -/
@[reducible] noncomputable def c_laws_szForme : Cx := { K := [.dat 2, .dat 0, .box 4 2 false, .no, .dat 0, .ref 2, .dat 2, .dat 0, .dat 0, .dat 0, .dat 0, .dat 0], T := [(3, ty3), (4, ty4), (9, ty9), (61, ty61), (81, ty81)], S := [(74, S_laws_szStringS)], H := [], res := [.tmp 4], ios := [], G := gl0 }
noncomputable def F_laws_szForme : List D → Option Out := denF c_laws_szForme Try.f51
@[reducible] noncomputable def S_laws_szForme : FS := { pm := [.dat 2, .dat 0], rm := [.dat 0], f := F_laws_szForme }
theorem M_laws_szForme : Meets gl0 Try.prog 51 S_laws_szForme := meets_of (P := Try.prog) (c := c_laws_szForme) (fn := Try.f51) (pm := S_laws_szForme.pm) (rm := S_laws_szForme.rm) (by kernel_rfl) (lookCons M_laws_szStringS lookNil) follows_mixed Try.func51 (by kernel_rfl) (by kernel_rfl) rfl
/-- loop.example/g01054/laws.szFormeS -/
@[reducible] noncomputable def c_laws_szFormeS : Cx := { K := [.dat 2, .dat 0, .no, .no, .dat 0, .dat 0, .dat 0, .dat 2, .dat 0, .dat 0, .dat 0, .dat 0, .dat 0, .dat 2, .dat 0, .dat 0, .dat 0, .dat 0, .dat 2, .dat 0, .dat 2, .dat 2, .dat 0, .dat 0, .dat 0, .dat 0, .dat 0], T := [(3, ty3), (4, ty4), (23, ty23), (61, ty61), (81, ty81)], S := [(51, S_laws_szForme)], H := [(0, ([0, 1, 5], [1]))], res := [.tmp 4], ios := [], G := gl0 }
noncomputable def F_laws_szFormeS : List D → Option Out := denF c_laws_szFormeS Try.f30
@[reducible] noncomputable def S_laws_szFormeS : FS := { pm := [.dat 2, .dat 0], rm := [.dat 0], f := F_laws_szFormeS }
theorem M_laws_szFormeS : Meets gl0 Try.prog 30 S_laws_szFormeS := meets_of (P := Try.prog) (c := c_laws_szFormeS) (fn := Try.f30) (pm := S_laws_szFormeS.pm) (rm := S_laws_szFormeS.rm) (by kernel_rfl) (lookCons M_laws_szForme lookNil) follows_mixed Try.func30 (by kernel_rfl) (by kernel_rfl) rfl
/-- loop.example/g01054/laws.szShop -/
@[reducible] noncomputable def c_laws_szShop : Cx := { K := [.dat 2, .dat 0, .box 4 2 false, .no, .dat 0, .ref 2, .dat 2, .dat 0, .dat 0, .dat 0, .dat 0, .ref 2, .dat 2, .dat 0, .dat 0, .dat 0, .dat 0, .dat 0], T := [(3, ty3), (22, ty22), (23, ty23), (25, ty25), (79, ty79), (81, ty81)], S := [(29, S_laws_szBoxS), (30, S_laws_szFormeS)], H := [], res := [.tmp 4], ios := [], G := gl0 }
noncomputable def F_laws_szShop : List D → Option Out := denF c_laws_szShop Try.f7
@[reducible] noncomputable def S_laws_szShop : FS := { pm := [.dat 2, .dat 0], rm := [.dat 0], f := F_laws_szShop }
theorem M_laws_szShop : Meets gl0 Try.prog 7 S_laws_szShop := meets_of (P := Try.prog) (c := c_laws_szShop) (fn := Try.f7) (pm := S_laws_szShop.pm) (rm := S_laws_szShop.rm) (by kernel_rfl) (lookCons M_laws_szBoxS (lookCons M_laws_szFormeS lookNil)) follows_mixed Try.func7 (by kernel_rfl) (by kernel_rfl) rfl
/-- loop.example/g01054/laws.toBox -/
@[reducible] noncomputable def c_laws_toBox : Cx := { K := [.dat 0, .box 4 0 false, .box 4 0 false, .box 4 0 false, .ref 1, .dat 0, .ref 3, .ref 1, .dat 0, .ref 3, .ref 1, .dat 0, .ref 3, .ref 1, .dat 0, .ref 3, .dat 0], T := [(3, ty3), (9, ty9), (79, ty79), (85, ty85)], S := [], H := [], res := [.cell 2 85], ios := [], G := gl0 }
noncomputable def F_laws_toBox : List D → Option Out := denF c_laws_toBox Try.f55
@[reducible] noncomputable def S_laws_toBox : FS := { pm := [.dat 0], rm := [.dat 0], f := F_laws_toBox }
theorem M_laws_toBox : Meets gl0 Try.prog 55 S_laws_toBox := meets_of (P := Try.prog) (c := c_laws_toBox) (fn := Try.f55) (pm := S_laws_toBox.pm) (rm := S_laws_toBox.rm) (by kernel_rfl) lookNil follows_mixed Try.func55 (by kernel_rfl) (by kernel_rfl) rfl
/-- loop.example/g01054/laws.toBoxS -/
@[reducible] noncomputable def c_laws_toBoxS : Cx := { K := [.dat 2, .no, .own 4 0 false, .own 4 0 false, .dat 0, .dat 2, .dat 0, .own 4 0 false, .dat 0, .dat 2, .dat 0, .dat 0, .dat 0, .dat 0, .via 3, .dat 0, .dat 2, .dat 0, .dat 2, .dat 0, .dat 0, .ref 3, .own 4 0 false], T := [(3, ty3), (9, ty9), (22, ty22), (30, ty30), (79, ty79), (85, ty85)], S := [(55, S_laws_toBox)], H := [(0, ([0, 3, 4], [3]))], res := [.tmp 2], ios := [], G := gl0 }
noncomputable def F_laws_toBoxS : List D → Option Out := denF c_laws_toBoxS Try.f32
@[reducible] noncomputable def S_laws_toBoxS : FS := { pm := [.dat 2], rm := [.own 4 0 false], f := F_laws_toBoxS }
theorem M_laws_toBoxS : Meets gl0 Try.prog 32 S_laws_toBoxS := meets_of (P := Try.prog) (c := c_laws_toBoxS) (fn := Try.f32) (pm := S_laws_toBoxS.pm) (rm := S_laws_toBoxS.rm) (by kernel_rfl) (lookCons M_laws_toBox lookNil) follows_mixed Try.func32 (by kernel_rfl) (by kernel_rfl) rfl
/-- loop.example/g01054/laws.toStringS -/
@[reducible] noncomputable def c_laws_toStringS : Cx := { K := [.dat 2, .no, .own 1 0 false, .own 1 0 false, .dat 0, .dat 2, .dat 0, .own 1 0 false, .dat 0, .dat 2, .dat 0, .dat 0, .dat 0, .dat 0, .via 3, .dat 0, .dat 2, .dat 0, .dat 2, .dat 0, .ref 3, .own 1 0 false], T := [(3, ty3), (9, ty9), (61, ty61)], S := [], H := [(0, ([0, 3, 4], [3]))], res := [.tmp 2], ios := [], G := gl0 }
noncomputable def F_laws_toStringS : List D → Option Out := denF c_laws_toStringS Try.f76
@[reducible] noncomputable def S_laws_toStringS : FS := { pm := [.dat 2], rm := [.own 1 0 false], f := F_laws_toStringS }
theorem M_laws_toStringS : Meets gl0 Try.prog 76 S_laws_toStringS := meets_of (P := Try.prog) (c := c_laws_toStringS) (fn := Try.f76) (pm := S_laws_toStringS.pm) (rm := S_laws_toStringS.rm) (by kernel_rfl) lookNil follows_mixed Try.func76 (by kernel_rfl) (by kernel_rfl) rfl
/-- loop.example/g01054/laws.toForme -/
@[reducible] noncomputable def c_laws_toForme : Cx := { K := [.dat 2, .box 4 2 false, .box 4 1 false, .box 4 1 false, .ref 1, .dat 0, .ref 3, .ref 1, .dat 2, .dat 1, .ref 3, .ref 1, .dat 0, .ref 3, .ref 1, .dat 0, .ref 3, .dat 1], T := [(3, ty3), (4, ty4), (9, ty9), (61, ty61), (63, ty63), (81, ty81)], S := [(76, S_laws_toStringS)], H := [], res := [.cell 2 63], ios := [], G := gl0 }
noncomputable def F_laws_toForme : List D → Option Out := denF c_laws_toForme Try.f56
@[reducible] noncomputable def S_laws_toForme : FS := { pm := [.dat 2], rm := [.dat 1], f := F_laws_toForme }
theorem M_laws_toForme : Meets gl0 Try.prog 56 S_laws_toForme := meets_of (P := Try.prog) (c := c_laws_toForme) (fn := Try.f56) (pm := S_laws_toForme.pm) (rm := S_laws_toForme.rm) (by kernel_rfl) (lookCons M_laws_toStringS lookNil) follows_mixed Try.func56 (by kernel_rfl) (by kernel_rfl) rfl
/-- loop.example/g01054/laws.toFormeS -/
@[reducible] noncomputable def c_laws_toFormeS : Cx := { K := [.dat 2, .no, .own 4 1 false, .own 4 1 false, .dat 0, .dat 2, .dat 0, .own 4 1 false, .dat 0, .dat 2, .dat 0, .dat 0, .dat 0, .dat 0, .via 3, .dat 0, .dat 2, .dat 0, .dat 2, .dat 2, .dat 1, .ref 3, .own 4 1 false], T := [(3, ty3), (4, ty4), (23, ty23), (31, ty31), (61, ty61), (63, ty63), (81, ty81)], S := [(56, S_laws_toForme)], H := [(0, ([0, 3, 4], [3]))], res := [.tmp 2], ios := [], G := gl0 }
noncomputable def F_laws_toFormeS : List D → Option Out := denF c_laws_toFormeS Try.f33
@[reducible] noncomputable def S_laws_toFormeS : FS := { pm := [.dat 2], rm := [.own 4 1 false], f := F_laws_toFormeS }
theorem M_laws_toFormeS : Meets gl0 Try.prog 33 S_laws_toFormeS := meets_of (P := Try.prog) (c := c_laws_toFormeS) (fn := Try.f33) (pm := S_laws_toFormeS.pm) (rm := S_laws_toFormeS.rm) (by kernel_rfl) (lookCons M_laws_toForme lookNil) follows_mixed Try.func33 (by kernel_rfl) (by kernel_rfl) rfl
/-- loop.example/g01054/laws.toShop -/
@[reducible] noncomputable def c_laws_toShop : Cx := { K := [.dat 2, .box 4 2 false, .box 4 1 false, .box 4 1 false, .ref 1, .dat 2, .dat 1, .ref 3, .ref 1, .dat 2, .dat 1, .ref 3, .ref 1, .dat 0, .ref 3, .ref 1, .dat 0, .ref 3, .dat 1], T := [(3, ty3), (22, ty22), (23, ty23), (25, ty25), (30, ty30), (31, ty31), (33, ty33), (63, ty63), (79, ty79), (81, ty81), (85, ty85)], S := [(32, S_laws_toBoxS), (33, S_laws_toFormeS)], H := [], res := [.cell 2 33], ios := [], G := gl0 }
noncomputable def F_laws_toShop : List D → Option Out := denF c_laws_toShop Try.f9
@[reducible] noncomputable def S_laws_toShop : FS := { pm := [.dat 2], rm := [.dat 1], f := F_laws_toShop }
theorem M_laws_toShop : Meets gl0 Try.prog 9 S_laws_toShop := meets_of (P := Try.prog) (c := c_laws_toShop) (fn := Try.f9) (pm := S_laws_toShop.pm) (rm := S_laws_toShop.rm) (by kernel_rfl) (lookCons M_laws_toBoxS (lookCons M_laws_toFormeS lookNil)) follows_mixed Try.func9 (by kernel_rfl) (by kernel_rfl) rfl
/-- loop.example/g01054/laws.eqBox -/
@[reducible] noncomputable def c_laws_eqBox : Cx := { K := [.dat 0, .dat 0, .box 4 0 false, .box 4 0 false, .dat 0, .ref 2, .dat 0, .ref 3, .dat 0, .dat 0, .ref 2, .dat 0, .ref 3, .dat 0, .dat 0, .ref 2, .dat 0, .ref 3, .dat 0, .dat 0, .ref 2, .dat 0, .ref 3, .dat 0, .dat 0], T := [(3, ty3), (9, ty9), (85, ty85)], S := [], H := [], res := [.tmp 4], ios := [], G := gl0 }
noncomputable def F_laws_eqBox : List D → Option Out := denF c_laws_eqBox Try.f60
@[reducible] noncomputable def S_laws_eqBox : FS := { pm := [.dat 0, .dat 0], rm := [.dat 0], f := F_laws_eqBox }
theorem M_laws_eqBox : Meets gl0 Try.prog 60 S_laws_eqBox := meets_of (P := Try.prog) (c := c_laws_eqBox) (fn := Try.f60) (pm := S_laws_eqBox.pm) (rm := S_laws_eqBox.rm) (by kernel_rfl) lookNil follows_mixed Try.func60 (by kernel_rfl) (by kernel_rfl) rfl
/-- loop.example/g01054/laws.eqBoxS -/
@[reducible] noncomputable def c_laws_eqBoxS : Cx := { K := [.dat 2, .dat 2, .no, .no, .dat 0, .dat 0, .dat 2, .dat 0, .dat 2, .dat 0, .dat 0, .dat 0, .dat 2, .dat 0, .dat 0, .dat 0, .dat 0, .dat 2, .dat 0, .dat 2, .dat 0, .dat 2, .dat 0, .dat 2, .dat 0, .dat 0, .dat 0], T := [(3, ty3), (9, ty9), (30, ty30), (85, ty85)], S := [(60, S_laws_eqBox)], H := [(0, ([0, 1, 5], []))], res := [.tmp 4], ios := [], G := gl0 }
noncomputable def F_laws_eqBoxS : List D → Option Out := denF c_laws_eqBoxS Try.f35
@[reducible] noncomputable def S_laws_eqBoxS : FS := { pm := [.dat 2, .dat 2], rm := [.dat 0], f := F_laws_eqBoxS }
theorem M_laws_eqBoxS : Meets gl0 Try.prog 35 S_laws_eqBoxS := meets_of (P := Try.prog) (c := c_laws_eqBoxS) (fn := Try.f35) (pm := S_laws_eqBoxS.pm) (rm := S_laws_eqBoxS.rm) (by kernel_rfl) (lookCons M_laws_eqBox lookNil) follows_mixed Try.func35 (by kernel_rfl) (by kernel_rfl) rfl
/-- loop.example/g01054/laws.eqStringS -/
@[reducible] noncomputable def c_laws_eqStringS : Cx := { K := [.dat 2, .dat 2, .no, .no, .dat 0, .dat 0, .dat 2, .dat 0, .dat 2, .dat 0, .dat 0, .dat 0, .dat 2, .dat 0, .dat 0, .dat 0, .dat 0, .dat 2, .dat 0, .dat 2, .dat 0, .dat 2, .dat 0, .dat 2, .dat 0, .dat 0], T := [(3, ty3), (9, ty9), (61, ty61)], S := [], H := [(0, ([0, 1, 5], []))], res := [.tmp 4], ios := [], G := gl0 }
noncomputable def F_laws_eqStringS : List D → Option Out := denF c_laws_eqStringS Try.f80
@[reducible] noncomputable def S_laws_eqStringS : FS := { pm := [.dat 2, .dat 2], rm := [.dat 0], f := F_laws_eqStringS }
theorem M_laws_eqStringS : Meets gl0 Try.prog 80 S_laws_eqStringS := meets_of (P := Try.prog) (c := c_laws_eqStringS) (fn := Try.f80) (pm := S_laws_eqStringS.pm) (rm := S_laws_eqStringS.rm) (by kernel_rfl) lookNil follows_mixed Try.func80 (by kernel_rfl) (by kernel_rfl) rfl
/-- loop.example/g01054/laws.eqForme -/
@[reducible] noncomputable def c_laws_eqForme : Cx := { K := [.dat 2, .dat 2, .box 4 2 false, .box 4 2 false, .dat 0, .ref 2, .dat 0, .ref 3, .dat 0, .dat 0, .ref 2, .dat 2, .ref 3, .dat 2, .dat 0, .dat 0, .ref 2, .dat 0, .ref 3, .dat 0, .dat 0, .ref 2, .dat 0, .ref 3, .dat 0, .dat 0], T := [(3, ty3), (4, ty4), (9, ty9), (61, ty61), (63, ty63)], S := [(80, S_laws_eqStringS)], H := [], res := [.tmp 4], ios := [], G := gl0 }
noncomputable def F_laws_eqForme : List D → Option Out := denF c_laws_eqForme Try.f61
@[reducible] noncomputable def S_laws_eqForme : FS := { pm := [.dat 2, .dat 2], rm := [.dat 0], f := F_laws_eqForme }
theorem M_laws_eqForme : Meets gl0 Try.prog 61 S_laws_eqForme := meets_of (P := Try.prog) (c := c_laws_eqForme) (fn := Try.f61) (pm := S_laws_eqForme.pm) (rm := S_laws_eqForme.rm) (by kernel_rfl) (lookCons M_laws_eqStringS lookNil) follows_mixed Try.func61 (by kernel_rfl) (by kernel_rfl) rfl
/-- loop.example/g01054/laws.eqFormeS -/
@[reducible] noncomputable def c_laws_eqFormeS : Cx := { K := [.dat 2, .dat 2, .no, .no, .dat 0, .dat 0, .dat 2, .dat 0, .dat 2, .dat 0, .dat 0, .dat 0, .dat 2, .dat 0, .dat 0, .dat 0, .dat 0, .dat 2, .dat 0, .dat 2, .dat 2, .dat 2, .dat 0, .dat 2, .dat 2, .dat 0, .dat 0], T := [(3, ty3), (4, ty4), (31, ty31), (61, ty61), (63, ty63)], S := [(61, S_laws_eqForme)], H := [(0, ([0, 1, 5], []))], res := [.tmp 4], ios := [], G := gl0 }
noncomputable def F_laws_eqFormeS : List D → Option Out := denF c_laws_eqFormeS Try.f36
@[reducible] noncomputable def S_laws_eqFormeS : FS := { pm := [.dat 2, .dat 2], rm := [.dat 0], f := F_laws_eqFormeS }
theorem M_laws_eqFormeS : Meets gl0 Try.prog 36 S_laws_eqFormeS := meets_of (P := Try.prog) (c := c_laws_eqFormeS) (fn := Try.f36) (pm := S_laws_eqFormeS.pm) (rm := S_laws_eqFormeS.rm) (by kernel_rfl) (lookCons M_laws_eqForme lookNil) follows_mixed Try.func36 (by kernel_rfl) (by kernel_rfl) rfl
/-- loop.example/g01054/laws.eqShop -/
@[reducible] noncomputable def c_laws_eqShop : Cx := { K := [.dat 2, .dat 2, .box 4 2 false, .box 4 2 false, .dat 0, .ref 2, .dat 2, .ref 3, .dat 2, .dat 0, .dat 0, .ref 2, .dat 2, .ref 3, .dat 2, .dat 0, .dat 0, .ref 2, .dat 0, .ref 3, .dat 0, .dat 0, .ref 2, .dat 0, .ref 3, .dat 0, .dat 0], T := [(3, ty3), (30, ty30), (31, ty31), (33, ty33), (63, ty63), (85, ty85)], S := [(35, S_laws_eqBoxS), (36, S_laws_eqFormeS)], H := [], res := [.tmp 4], ios := [], G := gl0 }
noncomputable def F_laws_eqShop : List D → Option Out := denF c_laws_eqShop Try.f12
@[reducible] noncomputable def S_laws_eqShop : FS := { pm := [.dat 2, .dat 2], rm := [.dat 0], f := F_laws_eqShop }
theorem M_laws_eqShop : Meets gl0 Try.prog 12 S_laws_eqShop := meets_of (P := Try.prog) (c := c_laws_eqShop) (fn := Try.f12) (pm := S_laws_eqShop.pm) (rm := S_laws_eqShop.rm) (by kernel_rfl) (lookCons M_laws_eqBoxS (lookCons M_laws_eqFormeS lookNil)) follows_mixed Try.func12 (by kernel_rfl) (by kernel_rfl) rfl
/-- loop.example/g01054/laws.eqIntS -/
@[reducible] noncomputable def c_laws_eqIntS : Cx := { K := [.dat 2, .dat 2, .no, .no, .dat 0, .dat 0, .dat 2, .dat 0, .dat 2, .dat 0, .dat 0, .dat 0, .dat 2, .dat 0, .dat 0, .dat 0, .dat 0, .dat 2, .dat 0, .dat 2, .dat 0, .dat 2, .dat 0, .dat 2, .dat 0, .dat 0], T := [(3, ty3), (27, ty27)], S := [], H := [(0, ([0, 1, 5], []))], res := [.tmp 4], ios := [], G := gl0 }
noncomputable def F_laws_eqIntS : List D → Option Out := denF c_laws_eqIntS Try.f11
@[reducible] noncomputable def S_laws_eqIntS : FS := { pm := [.dat 2, .dat 2], rm := [.dat 0], f := F_laws_eqIntS }
theorem M_laws_eqIntS : Meets gl0 Try.prog 11 S_laws_eqIntS := meets_of (P := Try.prog) (c := c_laws_eqIntS) (fn := Try.f11) (pm := S_laws_eqIntS.pm) (rm := S_laws_eqIntS.rm) (by kernel_rfl) lookNil follows_mixed Try.func11 (by kernel_rfl) (by kernel_rfl) rfl
/-- loop.example/g01054/laws.markIntS -/
@[reducible] noncomputable def c_laws_markIntS : Cx := { K := [.own 1 0 true, .dat 0, .no, .no, .dat 0, .dat 0, .dat 0, .via 0, .dat 0, .dat 0, .dat 0, .dat 0, .via 0, .dat 0, .dat 0, .ref 0, .dat 0, .dat 0, .dat 0], T := [(3, ty3), (27, ty27)], S := [], H := [(0, ([0, 1, 5], [0, 1]))], res := [.tmp 4], ios := [0], G := gl0 }
noncomputable def F_laws_markIntS : List D → Option Out := denF c_laws_markIntS Try.f14
@[reducible] noncomputable def S_laws_markIntS : FS := { pm := [.own 1 0 true, .dat 0], rm := [.dat 0], f := F_laws_markIntS }
theorem M_laws_markIntS : Meets gl0 Try.prog 14 S_laws_markIntS := meets_of (P := Try.prog) (c := c_laws_markIntS) (fn := Try.f14) (pm := S_laws_markIntS.pm) (rm := S_laws_markIntS.rm) (by kernel_rfl) lookNil follows_mixed Try.func14 (by kernel_rfl) (by kernel_rfl) rfl
/-- loop.example/g01054/laws.heldIntS -/
@[reducible] noncomputable def c_laws_heldIntS : Cx := { K := [.dat 2, .dat 0, .no, .no, .dat 0, .dat 0, .dat 0, .dat 2, .dat 0, .dat 0, .dat 0, .dat 0, .dat 2, .dat 0, .dat 2, .dat 0, .dat 0, .dat 0, .dat 0, .dat 0, .dat 0], T := [(3, ty3), (27, ty27)], S := [], H := [(0, ([0, 1, 5], [1]))], res := [.tmp 4], ios := [], G := gl0 }
noncomputable def F_laws_heldIntS : List D → Option Out := denF c_laws_heldIntS Try.f15
@[reducible] noncomputable def S_laws_heldIntS : FS := { pm := [.dat 2, .dat 0], rm := [.dat 0], f := F_laws_heldIntS }
theorem M_laws_heldIntS : Meets gl0 Try.prog 15 S_laws_heldIntS := meets_of (P := Try.prog) (c := c_laws_heldIntS) (fn := Try.f15) (pm := S_laws_heldIntS.pm) (rm := S_laws_heldIntS.rm) (by kernel_rfl) lookNil follows_mixed Try.func15 (by kernel_rfl) (by kernel_rfl) rfl
/-- loop.example/g01054/laws.markText -/
@[reducible] noncomputable def c_laws_markText : Cx := { K := [.dat 0, .no, .dat 0, .dat 0, .dat 0, .dat 0, .dat 0, .dat 0, .dat 0, .dat 0, .dat 0, .dat 0, .dat 1, .dat 0, .dat 0, .dat 0, .dat 0, .dat 0, .dat 0, .dat 0], T := [(3, ty3), (5, ty5), (9, ty9), (100, ty100)], S := [], H := [(0, ([0, 3], [3]))], res := [.tmp 2], ios := [], G := gl0 }
noncomputable def F_laws_markText : List D → Option Out := denF c_laws_markText Try.f49
@[reducible] noncomputable def S_laws_markText : FS := { pm := [.dat 0], rm := [.dat 0], f := F_laws_markText }
theorem M_laws_markText : Meets gl0 Try.prog 49 S_laws_markText := meets_of (P := Try.prog) (c := c_laws_markText) (fn := Try.f49) (pm := S_laws_markText.pm) (rm := S_laws_markText.rm) (by kernel_rfl) lookNil follows_mixed Try.func49 (by kernel_rfl) (by kernel_rfl) rfl
/-- loop.example/g01054/laws.markBoxS -/
@[reducible] noncomputable def c_laws_markBoxS : Cx := { K := [.own 4 0 true, .dat 0, .no, .no, .dat 0, .dat 0, .dat 0, .via 0, .dat 0, .dat 0, .dat 0, .dat 0, .via 0, .dat 0, .dat 0, .dat 0, .ref 0, .ref 0, .dat 0, .dat 0, .via 0, .dat 0, .dat 0, .ref 0, .ref 0, .dat 0, .dat 0, .via 0, .dat 0, .dat 0, .ref 0, .ref 0, .dat 0, .dat 0, .via 0, .dat 0, .dat 0, .ref 0, .ref 0, .dat 0, .dat 0, .dat 0], T := [(3, ty3), (9, ty9), (30, ty30), (85, ty85)], S := [(49, S_laws_markText)], H := [(0, ([0, 1, 5], [0, 1]))], res := [.tmp 4], ios := [0], G := gl0 }
noncomputable def F_laws_markBoxS : List D → Option Out := denF c_laws_markBoxS Try.f37
@[reducible] noncomputable def S_laws_markBoxS : FS := { pm := [.own 4 0 true, .dat 0], rm := [.dat 0], f := F_laws_markBoxS }
theorem M_laws_markBoxS : Meets gl0 Try.prog 37 S_laws_markBoxS := meets_of (P := Try.prog) (c := c_laws_markBoxS) (fn := Try.f37) (pm := S_laws_markBoxS.pm) (rm := S_laws_markBoxS.rm) (by kernel_rfl) (lookCons M_laws_markText lookNil) follows_mixed Try.func37 (by kernel_rfl) (by kernel_rfl) rfl
/-- loop.example/g01054/laws.markStringS -/
@[reducible] noncomputable def c_laws_markStringS : Cx := { K := [.own 1 0 true, .dat 0, .no, .no, .dat 0, .dat 0, .dat 0, .via 0, .dat 0, .dat 0, .dat 0, .dat 0, .via 0, .dat 0, .dat 0, .dat 0, .ref 0, .dat 0, .dat 0, .dat 0], T := [(3, ty3), (9, ty9), (61, ty61)], S := [(49, S_laws_markText)], H := [(0, ([0, 1, 5], [0, 1]))], res := [.tmp 4], ios := [0], G := gl0 }
noncomputable def F_laws_markStringS : List D → Option Out := denF c_laws_markStringS Try.f62
@[reducible] noncomputable def S_laws_markStringS : FS := { pm := [.own 1 0 true, .dat 0], rm := [.dat 0], f := F_laws_markStringS }
theorem M_laws_markStringS : Meets gl0 Try.prog 62 S_laws_markStringS := meets_of (P := Try.prog) (c := c_laws_markStringS) (fn := Try.f62) (pm := S_laws_markStringS.pm) (rm := S_laws_markStringS.rm) (by kernel_rfl) (lookCons M_laws_markText lookNil) follows_mixed Try.func62 (by kernel_rfl) (by kernel_rfl) rfl
/-- loop.example/g01054/laws.heldStringS -/
@[reducible] noncomputable def c_laws_heldStringS : Cx := { K := [.dat 2, .dat 0, .no, .no, .dat 0, .dat 0, .dat 0, .dat 2, .dat 0, .dat 0, .dat 0, .dat 0, .dat 2, .dat 0, .dat 2, .dat 0, .dat 0, .dat 0, .dat 0, .dat 0, .dat 0, .dat 0], T := [(3, ty3), (9, ty9), (61, ty61)], S := [(49, S_laws_markText)], H := [(0, ([0, 1, 5], [1]))], res := [.tmp 4], ios := [], G := gl0 }
noncomputable def F_laws_heldStringS : List D → Option Out := denF c_laws_heldStringS Try.f66
@[reducible] noncomputable def S_laws_heldStringS : FS := { pm := [.dat 2, .dat 0], rm := [.dat 0], f := F_laws_heldStringS }
theorem M_laws_heldStringS : Meets gl0 Try.prog 66 S_laws_heldStringS := meets_of (P := Try.prog) (c := c_laws_heldStringS) (fn := Try.f66) (pm := S_laws_heldStringS.pm) (rm := S_laws_heldStringS.rm) (by kernel_rfl) (lookCons M_laws_markText lookNil) follows_mixed Try.func66 (by kernel_rfl) (by kernel_rfl) rfl
/-- loop.example/g01054/laws.heldBoxS -/
@[reducible] noncomputable def c_laws_heldBoxS : Cx := { K := [.dat 2, .dat 0, .no, .no, .dat 0, .dat 0, .dat 0, .dat 2, .dat 0, .dat 0, .dat 0, .dat 0, .dat 2, .dat 0, .dat 2, .dat 2, .dat 0, .dat 0, .dat 0, .dat 0, .dat 0, .dat 0, .dat 2, .dat 0, .dat 2, .dat 2, .dat 0, .dat 0, .dat 0, .dat 0, .dat 0, .dat 2, .dat 0, .dat 2, .dat 2, .dat 0, .dat 0, .dat 0, .dat 0, .dat 0, .dat 2, .dat 0, .dat 2, .dat 2, .dat 0, .dat 0, .dat 0, .dat 0, .dat 0, .dat 0], T := [(3, ty3), (9, ty9), (30, ty30), (85, ty85)], S := [(49, S_laws_markText)], H := [(0, ([0, 1, 5], [1]))], res := [.tmp 4], ios := [], G := gl0 }
noncomputable def F_laws_heldBoxS : List D → Option Out := denF c_laws_heldBoxS Try.f43
@[reducible] noncomputable def S_laws_heldBoxS : FS := { pm := [.dat 2, .dat 0], rm := [.dat 0], f := F_laws_heldBoxS }
theorem M_laws_heldBoxS : Meets gl0 Try.prog 43 S_laws_heldBoxS := meets_of (P := Try.prog) (c := c_laws_heldBoxS) (fn := Try.f43) (pm := S_laws_heldBoxS.pm) (rm := S_laws_heldBoxS.rm) (by kernel_rfl) (lookCons M_laws_markText lookNil) follows_mixed Try.func43 (by kernel_rfl) (by kernel_rfl) rfl
/-- loop.example/g01054/spec.l1In -/
@[reducible] noncomputable def c_spec_l1In : Cx := { K := [.dat 0, .dat 0, .dat 0, .no, .no, .no, .dat 0, .dat 0, .dat 0, .dat 0, .dat 0, .dat 0, .dat 0, .dat 0, .dat 0], T := [(3, ty3)], S := [], H := [], res := [.tmp 6], ios := [], G := gl0 }
noncomputable def F_spec_l1In : List D → Option Out := denF c_spec_l1In Try.f54
@[reducible] noncomputable def S_spec_l1In : FS := { pm := [.dat 0, .dat 0, .dat 0], rm := [.dat 0], f := F_spec_l1In }
theorem M_spec_l1In : Meets gl0 Try.prog 54 S_spec_l1In := meets_of (P := Try.prog) (c := c_spec_l1In) (fn := Try.f54) (pm := S_spec_l1In.pm) (rm := S_spec_l1In.rm) (by kernel_rfl) lookNil follows_mixed Try.func54 (by kernel_rfl) (by kernel_rfl) rfl
/-- loop.example/g01054/spec.caFind -/
@[reducible] noncomputable def c_spec_caFind : Cx := { K := [.dat 2, .dat 0, .no, .no, .dat 0, .dat 0, .box 4 0 false, .dat 2, .dat 0, .dat 0, .dat 0, .dat 0, .dat 2, .dat 0, .ref 6, .dat 0, .dat 0, .dat 0, .dat 0, .dat 0], T := [(3, ty3), (9, ty9), (30, ty30), (85, ty85)], S := [], H := [(0, ([1, 7, 8, 9], []))], res := [.tmp 4], ios := [], G := gl0 }
noncomputable def F_spec_caFind : List D → Option Out := denF c_spec_caFind Try.f64
@[reducible] noncomputable def S_spec_caFind : FS := { pm := [.dat 2, .dat 0], rm := [.dat 0], f := F_spec_caFind }
theorem M_spec_caFind : Meets gl0 Try.prog 64 S_spec_caFind := meets_of (P := Try.prog) (c := c_spec_caFind) (fn := Try.f64) (pm := S_spec_caFind.pm) (rm := S_spec_caFind.rm) (by kernel_rfl) lookNil follows_mixed Try.func64 (by kernel_rfl) (by kernel_rfl) rfl
/-- loop.example/g01054/spec.shForme -/
@[reducible] noncomputable def c_spec_shForme : Cx := { K := [.dat 2, .dat 2, .no, .box 4 2 false, .dat 0, .no, .dat 0, .ref 3, .dat 0, .dat 0, .dat 0, .dat 0, .ref 3, .dat 2, .dat 0, .dat 0, .dat 0, .dat 0, .ref 3, .dat 0, .dat 0, .dat 0, .dat 0, .dat 0, .ref 3, .dat 0, .dat 0, .ref 3, .dat 2, .dat 0, .dat 0, .dat 0, .dat 0, .ref 3, .dat 2, .dat 0, .dat 0, .dat 0, .dat 2, .dat 0, .dat 2, .dat 0, .dat 0, .dat 0, .dat 0], T := [(3, ty3), (4, ty4), (9, ty9), (61, ty61), (63, ty63)], S := [(54, S_spec_l1In), (64, S_spec_caFind)], H := [(0, ([0, 34, 35, 36], []))], res := [.tmp 4], ios := [], G := gl0 }
noncomputable def F_spec_shForme : List D → Option Out := denF c_spec_shForme Try.f52
@[reducible] noncomputable def S_spec_shForme : FS := { pm := [.dat 2, .dat 2], rm := [.dat 0], f := F_spec_shForme }
theorem M_spec_shForme : Meets gl0 Try.prog 52 S_spec_shForme := meets_of (P := Try.prog) (c := c_spec_shForme) (fn := Try.f52) (pm := S_spec_shForme.pm) (rm := S_spec_shForme.rm) (by kernel_rfl) (lookCons M_spec_l1In (lookCons M_spec_caFind lookNil)) follows_mixed Try.func52 (by kernel_rfl) (by kernel_rfl) rfl
/-- loop.example/g01054/spec.tyLetters -/
@[reducible] noncomputable def c_spec_tyLetters : Cx := { K := [.dat 0, .dat 0, .no, .no, .dat 0, .dat 0, .dat 0, .dat 0, .dat 0, .dat 0, .dat 0, .dat 0, .dat 0, .dat 0, .dat 0, .dat 0, .dat 0, .dat 0, .dat 0, .dat 0, .dat 0, .dat 0, .dat 0, .dat 0, .dat 0, .dat 0], T := [(3, ty3), (5, ty5), (9, ty9)], S := [(54, S_spec_l1In)], H := [(0, ([0, 1, 5], [0, 1]))], res := [.tmp 4], ios := [], G := gl0 }
noncomputable def F_spec_tyLetters : List D → Option Out := denF c_spec_tyLetters Try.f88
@[reducible] noncomputable def S_spec_tyLetters : FS := { pm := [.dat 0, .dat 0], rm := [.dat 0], f := F_spec_tyLetters }
theorem M_spec_tyLetters : Meets gl0 Try.prog 88 S_spec_tyLetters := meets_of (P := Try.prog) (c := c_spec_tyLetters) (fn := Try.f88) (pm := S_spec_tyLetters.pm) (rm := S_spec_tyLetters.rm) (by kernel_rfl) (lookCons M_spec_l1In lookNil) follows_mixed Try.func88 (by kernel_rfl) (by kernel_rfl) rfl
/-- loop.example/g01054/spec.caBox -/
@[reducible] noncomputable def c_spec_caBox : Cx := { K := [.dat 0, .box 4 0 false, .dat 0, .ref 1, .dat 0, .dat 0, .dat 0, .ref 1, .dat 0, .dat 0, .dat 0, .dat 0, .ref 1, .dat 0, .dat 0, .dat 0, .dat 0, .ref 1, .dat 0, .dat 0, .dat 0], T := [(3, ty3), (9, ty9), (85, ty85)], S := [(54, S_spec_l1In), (88, S_spec_tyLetters)], H := [], res := [.tmp 2], ios := [], G := gl0 }
noncomputable def F_spec_caBox : List D → Option Out := denF c_spec_caBox Try.f75
@[reducible] noncomputable def S_spec_caBox : FS := { pm := [.dat 0], rm := [.dat 0], f := F_spec_caBox }
theorem M_spec_caBox : Meets gl0 Try.prog 75 S_spec_caBox := meets_of (P := Try.prog) (c := c_spec_caBox) (fn := Try.f75) (pm := S_spec_caBox.pm) (rm := S_spec_caBox.rm) (by kernel_rfl) (lookCons M_spec_l1In (lookCons M_spec_tyLetters lookNil)) follows_mixed Try.func75 (by kernel_rfl) (by kernel_rfl) rfl
/-- loop.example/g01054/spec.caGood -/
@[reducible] noncomputable def c_spec_caGood : Cx := { K := [.dat 2, .no, .dat 0, .dat 0, .box 4 0 false, .no, .box 4 0 false, .dat 2, .dat 0, .dat 0, .dat 0, .dat 0, .dat 2, .dat 0, .dat 0, .dat 0, .dat 0, .dat 0, .dat 0, .dat 0, .dat 0, .dat 2, .dat 0, .dat 0, .dat 2, .dat 2, .dat 0, .ref 4, .dat 0, .dat 0, .dat 0, .dat 0, .dat 2, .dat 0, .dat 2, .dat 0, .dat 0, .dat 0, .dat 2, .dat 0, .ref 6, .dat 0, .ref 4, .dat 0, .dat 0, .dat 0, .ref 6, .dat 0, .ref 4, .dat 0, .dat 0, .dat 0, .dat 0, .dat 0, .dat 2, .dat 0, .dat 0], T := [(3, ty3), (9, ty9), (30, ty30), (85, ty85)], S := [(54, S_spec_l1In), (75, S_spec_caBox)], H := [(0, ([0, 7, 8, 9], [0])), (2, ([0, 4, 7, 8, 9, 34, 35, 36], [0, 7, 8, 9]))], res := [.tmp 2], ios := [], G := gl0 }
noncomputable def F_spec_caGood : List D → Option Out := denF c_spec_caGood Try.f53
@[reducible] noncomputable def S_spec_caGood : FS := { pm := [.dat 2], rm := [.dat 0], f := F_spec_caGood }
theorem M_spec_caGood : Meets gl0 Try.prog 53 S_spec_caGood := meets_of (P := Try.prog) (c := c_spec_caGood) (fn := Try.f53) (pm := S_spec_caGood.pm) (rm := S_spec_caGood.rm) (by kernel_rfl) (lookCons M_spec_l1In (lookCons M_spec_caBox lookNil)) follows_mixed Try.func53 (by kernel_rfl) (by kernel_rfl) rfl
/-- loop.example/g01054/spec.shGood -/
@[reducible] noncomputable def c_spec_shGood : Cx := { K := [.dat 2, .box 4 2 false, .dat 0, .dat 0, .dat 0, .box 4 2 false, .ref 1, .dat 2, .dat 0, .dat 0, .dat 0, .dat 0, .dat 2, .dat 2, .ref 1, .dat 2, .dat 2, .dat 0, .dat 0, .dat 0, .dat 0, .dat 0, .dat 0, .ref 1, .dat 2, .dat 0, .dat 0, .dat 2, .dat 2, .dat 0, .ref 5, .dat 0, .dat 0, .dat 0, .dat 0, .dat 0, .ref 5, .dat 0, .dat 0, .dat 0, .ref 1, .dat 2, .dat 0, .dat 0, .ref 1, .dat 2, .dat 0, .dat 0, .dat 0, .dat 0, .ref 1, .dat 0, .dat 0, .dat 0, .dat 0, .ref 1, .dat 0, .dat 0, .dat 0, .dat 0], T := [(3, ty3), (4, ty4), (30, ty30), (31, ty31), (33, ty33), (61, ty61), (63, ty63), (85, ty85)], S := [(52, S_spec_shForme), (53, S_spec_caGood), (54, S_spec_l1In)], H := [(0, ([1, 3, 7, 8, 9], [1, 3]))], res := [.tmp 2], ios := [], G := gl0 }
noncomputable def F_spec_shGood : List D → Option Out := denF c_spec_shGood Try.f31
@[reducible] noncomputable def S_spec_shGood : FS := { pm := [.dat 2], rm := [.dat 0], f := F_spec_shGood }
theorem M_spec_shGood : Meets gl0 Try.prog 31 S_spec_shGood := meets_of (P := Try.prog) (c := c_spec_shGood) (fn := Try.f31) (pm := S_spec_shGood.pm) (rm := S_spec_shGood.rm) (by kernel_rfl) (lookCons M_spec_shForme (lookCons M_spec_caGood (lookCons M_spec_l1In lookNil))) follows_mixed Try.func31 (by kernel_rfl) (by kernel_rfl) rfl
/-- loop.example/g01054/spec.LockedFormes -/
@[reducible] noncomputable def c_spec_LockedFormes : Cx := { K := [.dat 2, .box 4 2 false, .own 1 0 false, .dat 0, .own 1 0 false, .no, .box 4 2 false, .dat 2, .dat 0, .dat 0, .ref 1, .dat 2, .dat 0, .dat 0, .dat 0, .dat 2, .dat 2, .ref 6, .dat 0, .own 1 0 false, .ref 6, .dat 0, .dat 1, .own 1 0 false, .dat 0, .own 1 0 false], T := [(3, ty3), (4, ty4), (27, ty27), (30, ty30), (31, ty31), (33, ty33), (61, ty61), (63, ty63)], S := [(31, S_spec_shGood)], H := [(0, ([4, 11, 12, 13], [4]))], res := [.tmp 2, .tmp 3], ios := [], G := gl0 }
noncomputable def F_spec_LockedFormes : List D → Option Out := denF c_spec_LockedFormes Try.f8
@[reducible] noncomputable def S_spec_LockedFormes : FS := { pm := [.dat 2], rm := [.own 1 0 false, .dat 0], f := F_spec_LockedFormes }
theorem M_spec_LockedFormes : Meets gl0 Try.prog 8 S_spec_LockedFormes := meets_of (P := Try.prog) (c := c_spec_LockedFormes) (fn := Try.f8) (pm := S_spec_LockedFormes.pm) (rm := S_spec_LockedFormes.rm) (by kernel_rfl) (lookCons M_spec_shGood lookNil) follows_mixed Try.func8 (by kernel_rfl) (by kernel_rfl) rfl
/-- loop.example/g01054/impl.within -/
@[reducible] noncomputable def c_impl_within : Cx := { K := [.dat 0, .dat 0, .dat 0, .no, .no, .no, .dat 0, .dat 0, .dat 0, .dat 0, .dat 0, .dat 0, .dat 0, .dat 0, .dat 0], T := [(3, ty3)], S := [], H := [], res := [.tmp 6], ios := [], G := gl0 }
noncomputable def F_impl_within : List D → Option Out := denF c_impl_within Try.f59
@[reducible] noncomputable def S_impl_within : FS := { pm := [.dat 0, .dat 0, .dat 0], rm := [.dat 0], f := F_impl_within }
theorem M_impl_within : Meets gl0 Try.prog 59 S_impl_within := meets_of (P := Try.prog) (c := c_impl_within) (fn := Try.f59) (pm := S_impl_within.pm) (rm := S_impl_within.rm) (by kernel_rfl) lookNil follows_mixed Try.func59 (by kernel_rfl) (by kernel_rfl) rfl
/-- loop.example/g01054/impl.isFormeId -/
@[reducible] noncomputable def c_impl_isFormeId : Cx := { K := [.dat 0, .no, .dat 0, .dat 0, .dat 0], T := [], S := [(59, S_impl_within)], H := [], res := [.tmp 2], ios := [], G := gl0 }
noncomputable def F_impl_isFormeId : List D → Option Out := denF c_impl_isFormeId Try.f69
@[reducible] noncomputable def S_impl_isFormeId : FS := { pm := [.dat 0], rm := [.dat 0], f := F_impl_isFormeId }
theorem M_impl_isFormeId : Meets gl0 Try.prog 69 S_impl_isFormeId := meets_of (P := Try.prog) (c := c_impl_isFormeId) (fn := Try.f69) (pm := S_impl_isFormeId.pm) (rm := S_impl_isFormeId.rm) (by kernel_rfl) (lookCons M_impl_within lookNil) follows_mixed Try.func69 (by kernel_rfl) (by kernel_rfl) rfl
/-- loop.example/g01054/impl.boxAt -/
@[reducible] noncomputable def c_impl_boxAt : Cx := { K := [.dat 2, .dat 0, .no, .no, .dat 0, .dat 0, .box 4 0 false, .dat 2, .dat 0, .dat 0, .dat 0, .dat 0, .dat 2, .dat 0, .ref 6, .dat 0, .dat 0, .dat 0, .dat 0, .dat 0], T := [(3, ty3), (9, ty9), (30, ty30), (85, ty85)], S := [], H := [(0, ([1, 7, 8, 9], []))], res := [.tmp 4], ios := [], G := gl0 }
noncomputable def F_impl_boxAt : List D → Option Out := denF c_impl_boxAt Try.f81
@[reducible] noncomputable def S_impl_boxAt : FS := { pm := [.dat 2, .dat 0], rm := [.dat 0], f := F_impl_boxAt }
theorem M_impl_boxAt : Meets gl0 Try.prog 81 S_impl_boxAt := meets_of (P := Try.prog) (c := c_impl_boxAt) (fn := Try.f81) (pm := S_impl_boxAt.pm) (rm := S_impl_boxAt.rm) (by kernel_rfl) lookNil follows_mixed Try.func81 (by kernel_rfl) (by kernel_rfl) rfl
/-- loop.example/g01054/impl.areLetters -/
@[reducible] noncomputable def c_impl_areLetters : Cx := { K := [.dat 0, .dat 0, .dat 0, .no, .no, .no, .dat 0, .dat 0, .dat 0, .dat 0, .dat 0, .dat 0, .dat 0, .dat 0, .dat 0, .dat 0, .dat 0, .dat 0, .dat 0, .dat 0, .dat 0, .dat 0, .dat 0, .dat 0, .dat 0, .dat 0, .dat 0, .dat 0, .dat 0], T := [(3, ty3), (5, ty5), (9, ty9)], S := [(59, S_impl_within)], H := [(0, ([0, 1, 2, 7], [0, 1, 2]))], res := [.tmp 6], ios := [], G := gl0 }
noncomputable def F_impl_areLetters : List D → Option Out := denF c_impl_areLetters Try.f85
@[reducible] noncomputable def S_impl_areLetters : FS := { pm := [.dat 0, .dat 0, .dat 0], rm := [.dat 0], f := F_impl_areLetters }
theorem M_impl_areLetters : Meets gl0 Try.prog 85 S_impl_areLetters := meets_of (P := Try.prog) (c := c_impl_areLetters) (fn := Try.f85) (pm := S_impl_areLetters.pm) (rm := S_impl_areLetters.rm) (by kernel_rfl) (lookCons M_impl_within lookNil) follows_mixed Try.func85 (by kernel_rfl) (by kernel_rfl) rfl
/-- loop.example/g01054/impl.isCode -/
@[reducible] noncomputable def c_impl_isCode : Cx := { K := [.dat 0, .no, .dat 0, .dat 0, .dat 0], T := [], S := [(85, S_impl_areLetters)], H := [], res := [.tmp 2], ios := [], G := gl0 }
noncomputable def F_impl_isCode : List D → Option Out := denF c_impl_isCode Try.f89
@[reducible] noncomputable def S_impl_isCode : FS := { pm := [.dat 0], rm := [.dat 0], f := F_impl_isCode }
theorem M_impl_isCode : Meets gl0 Try.prog 89 S_impl_isCode := meets_of (P := Try.prog) (c := c_impl_isCode) (fn := Try.f89) (pm := S_impl_isCode.pm) (rm := S_impl_isCode.rm) (by kernel_rfl) (lookCons M_impl_areLetters lookNil) follows_mixed Try.func89 (by kernel_rfl) (by kernel_rfl) rfl
/-- loop.example/g01054/impl.isPlace -/
@[reducible] noncomputable def c_impl_isPlace : Cx := { K := [.dat 0, .no, .dat 0, .dat 0, .dat 0], T := [], S := [(59, S_impl_within)], H := [], res := [.tmp 2], ios := [], G := gl0 }
noncomputable def F_impl_isPlace : List D → Option Out := denF c_impl_isPlace Try.f90
@[reducible] noncomputable def S_impl_isPlace : FS := { pm := [.dat 0], rm := [.dat 0], f := F_impl_isPlace }
theorem M_impl_isPlace : Meets gl0 Try.prog 90 S_impl_isPlace := meets_of (P := Try.prog) (c := c_impl_isPlace) (fn := Try.f90) (pm := S_impl_isPlace.pm) (rm := S_impl_isPlace.rm) (by kernel_rfl) (lookCons M_impl_within lookNil) follows_mixed Try.func90 (by kernel_rfl) (by kernel_rfl) rfl
/-- loop.example/g01054/impl.IsBox -/
@[reducible] noncomputable def c_impl_IsBox : Cx := { K := [.dat 0, .box 4 0 false, .dat 0, .ref 1, .dat 0, .dat 0, .dat 0, .ref 1, .dat 0, .dat 0, .dat 0, .dat 0, .ref 1, .dat 0, .dat 0, .dat 0, .dat 0, .ref 1, .dat 0, .dat 0, .dat 0], T := [(3, ty3), (9, ty9), (85, ty85)], S := [(59, S_impl_within), (89, S_impl_isCode), (90, S_impl_isPlace)], H := [], res := [.tmp 2], ios := [], G := gl0 }
noncomputable def F_impl_IsBox : List D → Option Out := denF c_impl_IsBox Try.f78
@[reducible] noncomputable def S_impl_IsBox : FS := { pm := [.dat 0], rm := [.dat 0], f := F_impl_IsBox }
theorem M_impl_IsBox : Meets gl0 Try.prog 78 S_impl_IsBox := meets_of (P := Try.prog) (c := c_impl_IsBox) (fn := Try.f78) (pm := S_impl_IsBox.pm) (rm := S_impl_IsBox.rm) (by kernel_rfl) (lookCons M_impl_within (lookCons M_impl_isCode (lookCons M_impl_isPlace lookNil))) follows_mixed Try.func78 (by kernel_rfl) (by kernel_rfl) rfl
/-- loop.example/g01054/impl.isTaken -/
@[reducible] noncomputable def c_impl_isTaken : Cx := { K := [.dat 2, .dat 0, .dat 0, .no, .no, .no, .dat 0, .no, .box 4 0 false, .dat 2, .dat 0, .dat 0, .dat 0, .dat 2, .dat 0, .ref 8, .dat 0, .dat 0, .dat 0, .dat 0, .ref 8, .dat 0, .dat 0, .dat 0, .dat 0, .dat 0], T := [(3, ty3), (9, ty9), (30, ty30), (85, ty85)], S := [], H := [(0, ([1, 2, 9, 10, 11], []))], res := [.tmp 6], ios := [], G := gl0 }
noncomputable def F_impl_isTaken : List D → Option Out := denF c_impl_isTaken Try.f79
@[reducible] noncomputable def S_impl_isTaken : FS := { pm := [.dat 2, .dat 0, .dat 0], rm := [.dat 0], f := F_impl_isTaken }
theorem M_impl_isTaken : Meets gl0 Try.prog 79 S_impl_isTaken := meets_of (P := Try.prog) (c := c_impl_isTaken) (fn := Try.f79) (pm := S_impl_isTaken.pm) (rm := S_impl_isTaken.rm) (by kernel_rfl) lookNil follows_mixed Try.func79 (by kernel_rfl) (by kernel_rfl) rfl
/-- loop.example/g01054/impl.IsCase -/
@[reducible] noncomputable def c_impl_IsCase : Cx := { K := [.dat 2, .no, .dat 0, .dat 0, .box 4 0 false, .dat 2, .dat 0, .dat 0, .dat 0, .dat 0, .dat 2, .dat 0, .dat 0, .dat 0, .dat 0, .dat 0, .dat 0, .dat 0, .dat 0, .dat 2, .dat 0, .dat 0, .dat 2, .dat 2, .dat 0, .ref 4, .dat 0, .dat 0, .dat 0, .dat 0, .dat 0, .dat 2, .dat 0, .dat 2, .ref 4, .dat 0, .ref 4, .dat 0, .dat 0, .dat 0, .dat 0, .dat 2, .dat 0, .dat 0], T := [(3, ty3), (9, ty9), (30, ty30), (85, ty85)], S := [(59, S_impl_within), (78, S_impl_IsBox), (79, S_impl_isTaken)], H := [(0, ([0, 5, 6, 7], [0]))], res := [.tmp 2], ios := [], G := gl0 }
noncomputable def F_impl_IsCase : List D → Option Out := denF c_impl_IsCase Try.f58
@[reducible] noncomputable def S_impl_IsCase : FS := { pm := [.dat 2], rm := [.dat 0], f := F_impl_IsCase }
theorem M_impl_IsCase : Meets gl0 Try.prog 58 S_impl_IsCase := meets_of (P := Try.prog) (c := c_impl_IsCase) (fn := Try.f58) (pm := S_impl_IsCase.pm) (rm := S_impl_IsCase.rm) (by kernel_rfl) (lookCons M_impl_within (lookCons M_impl_IsBox (lookCons M_impl_isTaken lookNil))) follows_mixed Try.func58 (by kernel_rfl) (by kernel_rfl) rfl
/-- loop.example/g01054/impl.areCodes -/
@[reducible] noncomputable def c_impl_areCodes : Cx := { K := [.dat 2, .dat 2, .no, .no, .dat 0, .no, .dat 0, .dat 2, .dat 0, .dat 0, .dat 0, .dat 2, .dat 0, .dat 2, .dat 0, .dat 0, .dat 0, .dat 0, .dat 2, .dat 0, .dat 0, .dat 2, .dat 0, .dat 0, .dat 0], T := [(3, ty3), (9, ty9), (61, ty61)], S := [(58, S_impl_IsCase), (81, S_impl_boxAt)], H := [(0, ([0, 1, 7, 8, 9], [0, 1]))], res := [.tmp 4], ios := [], G := gl0 }
noncomputable def F_impl_areCodes : List D → Option Out := denF c_impl_areCodes Try.f77
@[reducible] noncomputable def S_impl_areCodes : FS := { pm := [.dat 2, .dat 2], rm := [.dat 0], f := F_impl_areCodes }
theorem M_impl_areCodes : Meets gl0 Try.prog 77 S_impl_areCodes := meets_of (P := Try.prog) (c := c_impl_areCodes) (fn := Try.f77) (pm := S_impl_areCodes.pm) (rm := S_impl_areCodes.rm) (by kernel_rfl) (lookCons M_impl_IsCase (lookCons M_impl_boxAt lookNil)) follows_mixed Try.func77 (by kernel_rfl) (by kernel_rfl) rfl
/-- loop.example/g01054/impl.isForme -/
@[reducible] noncomputable def c_impl_isForme : Cx := { K := [.dat 2, .dat 2, .no, .box 4 2 false, .dat 0, .ref 3, .dat 0, .dat 0, .dat 0, .dat 2, .ref 3, .dat 2, .dat 0, .dat 0, .dat 0, .ref 3, .dat 2, .dat 0, .dat 0, .dat 0, .dat 0, .ref 3, .dat 0, .dat 0, .dat 0, .dat 0, .ref 3, .dat 0, .dat 0, .dat 0, .ref 3, .dat 2, .dat 0, .dat 0, .dat 0, .dat 0], T := [(3, ty3), (4, ty4), (9, ty9), (61, ty61), (63, ty63)], S := [(59, S_impl_within), (69, S_impl_isFormeId), (77, S_impl_areCodes)], H := [], res := [.tmp 4], ios := [], G := gl0 }
noncomputable def F_impl_isForme : List D → Option Out := denF c_impl_isForme Try.f57
@[reducible] noncomputable def S_impl_isForme : FS := { pm := [.dat 2, .dat 2], rm := [.dat 0], f := F_impl_isForme }
theorem M_impl_isForme : Meets gl0 Try.prog 57 S_impl_isForme := meets_of (P := Try.prog) (c := c_impl_isForme) (fn := Try.f57) (pm := S_impl_isForme.pm) (rm := S_impl_isForme.rm) (by kernel_rfl) (lookCons M_impl_within (lookCons M_impl_isFormeId (lookCons M_impl_areCodes lookNil))) follows_mixed Try.func57 (by kernel_rfl) (by kernel_rfl) rfl
/-- loop.example/g01054/impl.IsShop -/
@[reducible] noncomputable def c_impl_IsShop : Cx := { K := [.dat 2, .box 4 2 false, .dat 0, .dat 0, .dat 0, .box 4 2 false, .ref 1, .dat 2, .dat 0, .dat 0, .dat 0, .dat 0, .dat 2, .dat 2, .ref 1, .dat 2, .dat 2, .dat 0, .dat 0, .dat 0, .dat 0, .dat 0, .dat 0, .ref 1, .dat 2, .dat 0, .dat 0, .dat 2, .dat 2, .dat 0, .ref 5, .dat 0, .dat 0, .dat 0, .dat 0, .dat 0, .ref 5, .dat 0, .dat 0, .dat 0, .ref 1, .dat 2, .dat 0, .dat 0, .ref 1, .dat 2, .dat 0, .dat 0, .dat 0, .dat 0, .ref 1, .dat 0, .dat 0, .dat 0, .dat 0, .ref 1, .dat 0, .dat 0, .dat 0, .dat 0, .ref 1, .dat 0, .dat 0, .dat 0, .dat 0], T := [(3, ty3), (4, ty4), (30, ty30), (31, ty31), (33, ty33), (61, ty61), (63, ty63), (85, ty85)], S := [(57, S_impl_isForme), (58, S_impl_IsCase), (59, S_impl_within)], H := [(0, ([1, 3, 7, 8, 9], [1, 3]))], res := [.tmp 2], ios := [], G := gl0 }
noncomputable def F_impl_IsShop : List D → Option Out := denF c_impl_IsShop Try.f34
@[reducible] noncomputable def S_impl_IsShop : FS := { pm := [.dat 2], rm := [.dat 0], f := F_impl_IsShop }
theorem M_impl_IsShop : Meets gl0 Try.prog 34 S_impl_IsShop := meets_of (P := Try.prog) (c := c_impl_IsShop) (fn := Try.f34) (pm := S_impl_IsShop.pm) (rm := S_impl_IsShop.rm) (by kernel_rfl) (lookCons M_impl_isForme (lookCons M_impl_IsCase (lookCons M_impl_within lookNil))) follows_mixed Try.func34 (by kernel_rfl) (by kernel_rfl) rfl
/-- loop.example/g01054/impl.LockedFormes -/
@[reducible] noncomputable def c_impl_LockedFormes : Cx := { K := [.dat 2, .box 4 2 false, .own 1 0 false, .dat 0, .own 1 0 false, .no, .box 4 2 false, .dat 2, .dat 0, .dat 0, .own 1 0 false, .own 1 0 false, .ref 1, .dat 2, .dat 0, .dat 0, .dat 0, .dat 2, .dat 2, .ref 6, .dat 0, .own 1 0 false, .ref 6, .dat 0, .dat 1, .own 1 0 false, .dat 0, .own 1 0 false], T := [(3, ty3), (4, ty4), (27, ty27), (30, ty30), (31, ty31), (33, ty33), (61, ty61), (63, ty63)], S := [(34, S_impl_IsShop)], H := [(0, ([4, 13, 14, 15], [4]))], res := [.tmp 2, .tmp 3], ios := [], G := gl0 }
noncomputable def F_impl_LockedFormes : List D → Option Out := denF c_impl_LockedFormes Try.f10
@[reducible] noncomputable def S_impl_LockedFormes : FS := { pm := [.dat 2], rm := [.own 1 0 false, .dat 0], f := F_impl_LockedFormes }
theorem M_impl_LockedFormes : Meets gl0 Try.prog 10 S_impl_LockedFormes := meets_of (P := Try.prog) (c := c_impl_LockedFormes) (fn := Try.f10) (pm := S_impl_LockedFormes.pm) (rm := S_impl_LockedFormes.rm) (by kernel_rfl) (lookCons M_impl_IsShop lookNil) follows_mixed Try.func10 (by kernel_rfl) (by kernel_rfl) rfl
/-- loop.example/g01054/spec.l1OwnS -/
@[reducible] noncomputable def c_spec_l1OwnS : Cx := { K := [.dat 2, .no, .own 1 0 false, .own 1 0 false, .dat 2, .own 1 0 false], T := [(9, ty9), (61, ty61)], S := [], H := [], res := [.tmp 2], ios := [], G := gl0 }
noncomputable def F_spec_l1OwnS : List D → Option Out := denF c_spec_l1OwnS Try.f63
@[reducible] noncomputable def S_spec_l1OwnS : FS := { pm := [.dat 2], rm := [.own 1 0 false], f := F_spec_l1OwnS }
theorem M_spec_l1OwnS : Meets gl0 Try.prog 63 S_spec_l1OwnS := meets_of (P := Try.prog) (c := c_spec_l1OwnS) (fn := Try.f63) (pm := S_spec_l1OwnS.pm) (rm := S_spec_l1OwnS.rm) (by kernel_rfl) lookNil follows_mixed Try.func63 (by kernel_rfl) (by kernel_rfl) rfl
/-- loop.example/g01054/spec.shOwn -/
@[reducible] noncomputable def c_spec_shOwn : Cx := { K := [.dat 2, .box 4 2 false, .box 4 2 false, .box 4 2 false, .no, .box 4 2 false, .own 4 0 false, .ref 1, .dat 2, .dat 2, .ref 1, .dat 0, .ref 1, .dat 0, .dat 2, .ref 1, .dat 2, .dat 0, .dat 0, .dat 0, .dat 2, .dat 2, .ref 5, .dat 2, .dat 1, .ref 5, .ref 3, .dat 2, .dat 2, .dat 2, .dat 2, .ref 3, .dat 0, .dat 2], T := [(3, ty3), (4, ty4), (9, ty9), (30, ty30), (31, ty31), (33, ty33), (61, ty61), (63, ty63), (85, ty85)], S := [(63, S_spec_l1OwnS)], H := [(0, ([2, 3, 16, 17, 18], [2, 3]))], res := [.cell 2 33], ios := [], G := gl0 }
noncomputable def F_spec_shOwn : List D → Option Out := denF c_spec_shOwn Try.f39
@[reducible] noncomputable def S_spec_shOwn : FS := { pm := [.dat 2], rm := [.dat 2], f := F_spec_shOwn }
theorem M_spec_shOwn : Meets gl0 Try.prog 39 S_spec_shOwn := meets_of (P := Try.prog) (c := c_spec_shOwn) (fn := Try.f39) (pm := S_spec_shOwn.pm) (rm := S_spec_shOwn.rm) (by kernel_rfl) (lookCons M_spec_l1OwnS lookNil) follows_mixed Try.func39 (by kernel_rfl) (by kernel_rfl) rfl
/-- loop.example/g01054/spec.caMove -/
@[reducible] noncomputable def c_spec_caMove : Cx := { K := [.dat 2, .dat 2, .dat 0, .no, .no, .no, .own 4 0 false, .dat 0, .own 4 0 false, .no, .dat 0, .own 4 0 false, .dat 2, .own 4 0 false, .dat 2, .dat 0, .dat 0, .dat 0, .dat 2, .dat 0, .via 8, .via 8, .dat 0, .dat 0, .ref 8, .ref 8, .dat 0, .dat 0, .dat 0, .ref 8, .ref 8, .dat 0, .via 8, .dat 0, .dat 0, .own 4 0 false], T := [(3, ty3), (9, ty9), (30, ty30), (61, ty61), (85, ty85)], S := [(53, S_spec_caGood), (64, S_spec_caFind)], H := [(0, ([2, 8, 14, 15, 16], [8]))], res := [.tmp 6, .tmp 7], ios := [], G := gl0 }
noncomputable def F_spec_caMove : List D → Option Out := denF c_spec_caMove Try.f40
@[reducible] noncomputable def S_spec_caMove : FS := { pm := [.dat 2, .dat 2, .dat 0], rm := [.own 4 0 false, .dat 0], f := F_spec_caMove }
theorem M_spec_caMove : Meets gl0 Try.prog 40 S_spec_caMove := meets_of (P := Try.prog) (c := c_spec_caMove) (fn := Try.f40) (pm := S_spec_caMove.pm) (rm := S_spec_caMove.rm) (by kernel_rfl) (lookCons M_spec_caGood (lookCons M_spec_caFind lookNil)) follows_mixed Try.func40 (by kernel_rfl) (by kernel_rfl) rfl
/-- loop.example/g01054/spec.ReturnedShop -/
@[reducible] noncomputable def c_spec_ReturnedShop : Cx := { K := [.dat 2, .box 4 2 false, .box 4 2 false, .dat 0, .box 4 2 false, .no, .box 4 2 false, .dat 1, .dat 0, .dat 2, .dat 0, .dat 0, .dat 0, .dat 2, .dat 2, .ref 4, .dat 2, .dat 0, .dat 0, .dat 0, .dat 2, .dat 2, .tup [.own 4 0 false, .dat 0], .ref 4, .dat 2, .ref 6, .dat 2, .tup [.own 4 0 false, .dat 0], .dat 1, .dat 0, .dat 0, .dat 0, .dat 0, .dat 1, .ref 4, .dat 0, .ref 4, .dat 2], T := [(3, ty3), (4, ty4), (9, ty9), (30, ty30), (31, ty31), (33, ty33), (61, ty61), (63, ty63), (85, ty85)], S := [(31, S_spec_shGood), (39, S_spec_shOwn), (40, S_spec_caMove)], H := [(0, ([2, 4, 16, 17, 18], [2, 4]))], res := [.cell 2 33, .tmp 3], ios := [], G := gl0 }
noncomputable def F_spec_ReturnedShop : List D → Option Out := denF c_spec_ReturnedShop Try.f16
@[reducible] noncomputable def S_spec_ReturnedShop : FS := { pm := [.dat 2], rm := [.dat 2, .dat 0], f := F_spec_ReturnedShop }
theorem M_spec_ReturnedShop : Meets gl0 Try.prog 16 S_spec_ReturnedShop := meets_of (P := Try.prog) (c := c_spec_ReturnedShop) (fn := Try.f16) (pm := S_spec_ReturnedShop.pm) (rm := S_spec_ReturnedShop.rm) (by kernel_rfl) (lookCons M_spec_shGood (lookCons M_spec_shOwn (lookCons M_spec_caMove lookNil))) follows_mixed Try.func16 (by kernel_rfl) (by kernel_rfl) rfl
end Go.Proofs.Ytankikbbdfgkbaa
