/-
  How the evaluated texts are reckoned: plain laws of the operations on data, and of loops.
-/
import Derived.Test.YtlphibidnkjpdaaDoorRows
import Derived.Test.YtlphibidnkjpdaaDoorTie
import Derived.Test.YtlphibidnkjpdaaDoorCards
import Derived.Test.YtlphibidnkjpdaaDoorM4
namespace Go.V

section
variable {k : IntKind} {a b : Int} {bl : Bool} {eq : List Nat}
@[simp] theorem bin_add : bin .add bl eq (.v (.int k a)) (.v (.int k b)) = some (.v (.int k (k.wrap (a + b)))) := by simp [bin, intBin]
@[simp] theorem bin_sub : bin .sub bl eq (.v (.int k a)) (.v (.int k b)) = some (.v (.int k (k.wrap (a - b)))) := by simp [bin, intBin]
@[simp] theorem bin_mul : bin .mul bl eq (.v (.int k a)) (.v (.int k b)) = some (.v (.int k (k.wrap (a * b)))) := by simp [bin, intBin]
@[simp] theorem bin_quo : bin .quo bl eq (.v (.int k a)) (.v (.int k b)) = if b = 0 then none else some (.v (.int k (k.wrap (a.tdiv b)))) := by simp [bin, intBin]
@[simp] theorem bin_rem : bin .rem bl eq (.v (.int k a)) (.v (.int k b)) = if b = 0 then none else some (.v (.int k (a.tmod b))) := by simp [bin, intBin]
@[simp] theorem bin_lss : bin .lss bl eq (.v (.int k a)) (.v (.int k b)) = some (B (decide (a < b))) := by simp [bin, intBin]
@[simp] theorem bin_leq : bin .leq bl eq (.v (.int k a)) (.v (.int k b)) = some (B (decide (a ≤ b))) := by simp [bin, intBin]
@[simp] theorem bin_gtr : bin .gtr bl eq (.v (.int k a)) (.v (.int k b)) = some (B (decide (b < a))) := by simp [bin, intBin]
@[simp] theorem bin_geq : bin .geq bl eq (.v (.int k a)) (.v (.int k b)) = some (B (decide (b ≤ a))) := by simp [bin, intBin]
@[simp] theorem bin_eql : bin .eql bl eq (.v (.int k a)) (.v (.int k b)) = some (B (decide (a = b))) := by
  have : (a == b) = decide (a = b) := rfl
  simp [bin, intBin, this]
@[simp] theorem bin_neq : bin .neq bl eq (.v (.int k a)) (.v (.int k b)) = some (B (!decide (a = b))) := by
  have : (a != b) = !decide (a = b) := rfl
  simp [bin, intBin, this]
@[simp] theorem bin_eqlB {a b : Bool} : bin .eql true eq (B a) (B b) = some (B (a == b)) := by simp [bin]
@[simp] theorem bin_neqB {a b : Bool} : bin .neq true eq (B a) (B b) = some (B !(a == b)) := by simp [bin]
@[simp] theorem bin_addS {a b : ByteArray} : bin .add bl eq (T a) (T b) = if a.size + b.size ≤ 1152921504606846976 then some (T (a ++ b)) else none := by simp [bin, strBin]
@[simp] theorem bin_eqlS {a b : ByteArray} : bin .eql bl eq (T a) (T b) = some (B (decide (a = b))) := by
  have : (a.toList == b.toList) = decide (a = b) := by
    rw [Bool.eq_iff_iff, beq_iff_eq, decide_eq_true_eq]
    constructor
    · intro h
      have h1 : ∀ s : ByteArray, s.toList = s.data.toList := fun s => by simp [ByteArray.toList_eq]
      rw [h1, h1] at h
      cases a; cases b
      simp at h
      simp [h]
    · rintro rfl; rfl
  simp [bin, strBin, this]
@[simp] theorem bin_neqS {a b : ByteArray} : bin .neq bl eq (T a) (T b) = some (B (!decide (a = b))) := by
  have h := bin_eqlS (a := a) (b := b) (bl := bl) (eq := eq)
  simp only [bin, strBin, Option.some.injEq, D.v.injEq, Value.bool.injEq] at h ⊢
  rw [h]
@[simp] theorem un_not {b : Bool} : un .not (B b) = some (B !b) := rfl
@[simp] theorem un_neg : un .neg (.v (.int k a)) = some (.v (.int k (k.wrap (-a)))) := by simp [un]

theorem wrap_id (h1 : -9223372036854775808 ≤ a) (h2 : a < 9223372036854775808) : IntKind.i64.wrap a = a := by
  simp [IntKind.wrap, IntKind.bits, IntKind.signed]
  split <;> omega
end

@[simp] theorem ifD_B {c : Bool} {t e : Option Out} : ifD (B c) t e = if c = true then t else e := by cases c <;> rfl
@[simp] theorem ifN_B {c : Bool} {t e : Option Out} : ifN c t e = if c = true then t else e := by cases c <;> rfl
@[simp] theorem gate_t {v : D} {c : Bool} {r : Option D} : gate v (B c) true r = if c = true then r else some v := by cases c <;> rfl
@[simp] theorem gate_f {v : D} {c : Bool} {r : Option D} : gate v (B c) false r = if c = true then some v else r := by cases c <;> rfl
@[simp] theorem gate_s {v : D} {p : Bool} {l : List D} {r : Option D} : gate v (.tup l) p r = some v := rfl
@[simp] theorem gateC_s {p : Bool} {l : List D} {r : Option Out} {alt : List D} {k : List D → Option Out} : gateC (.tup l) p r alt k = k alt := rfl
def nrmK (r : Option Out) (k : List D → Option Out) : Option Out :=
  match r with
  | some (.nrm l) => k l
  | _ => none
@[simp] theorem nrmK_some {l : List D} {k : List D → Option Out} : nrmK (some (.nrm l)) k = k l := rfl
@[simp] theorem gateC_t {c : Bool} {r : Option Out} {alt : List D} {k : List D → Option Out} : gateC (B c) true r alt k = if c = true then nrmK r k else k alt := by cases c <;> rfl
@[simp] theorem gateC_f {c : Bool} {r : Option Out} {alt : List D} {k : List D → Option Out} : gateC (B c) false r alt k = if c = true then k alt else nrmK r k := by cases c <;> rfl
@[simp] theorem pickD_B {c : Bool} {a b : D} : pickD (B c) a b = some (if c = true then a else b) := by cases c <;> rfl
@[simp] theorem callK_ret {rs us : List D} {k : List D → List D → Option Out} : callK (some (.ret rs us)) k = k rs us := rfl
@[simp] theorem outK_ext {i : Nat} {s : List D} {x : Nat → List D → Option Out} {r : List D → List D → Option Out} : outK (.ext i s) x r = x i s := rfl
@[simp] theorem outK_ret {a b : List D} {x : Nat → List D → Option Out} {r : List D → List D → Option Out} : outK (.ret a b) x r = r a b := rfl
@[simp] theorem liveD_v {v : Value} {x : D} : liveD (.v v) x = some x := rfl
@[simp] theorem liveD_arr {z : Nat} {l : List D} {x : D} : liveD (.arr z l) x = some x := rfl
@[simp] theorem liveD_agg {l : List D} {x : D} : liveD (.agg l) x = some x := rfl
@[simp] theorem liveD_ref {i f : Nat} {x : D} : liveD (.ref i f) x = some x := rfl
@[simp] theorem liveD_tup {l : List D} {x : D} : liveD (.tup l) x = some x := rfl
@[simp] theorem lenD_arr {z : Nat} {l : List D} : lenD false (.arr z l) = some (I l.length) := rfl
@[simp] theorem lenD_str {s : ByteArray} : lenD true (T s) = some (I s.size) := rfl
@[simp] theorem sl_zero {a : D} {l : List D} : sl (a :: l) 0 = a := rfl
@[simp] theorem sl_succ {a : D} {l : List D} {n : Nat} : sl (a :: l) (n + 1) = sl l n := rfl
@[simp] theorem fldD_agg {ag : Bool} {n off : Nat} {l : List D} : fldD ag n off (.agg l) = takeD ag n (l.drop off) := rfl
@[simp] theorem ldD_ptr {ag : Bool} {n : Nat} {l : List D} : ldD ag n (.ptr l) = takeD ag n l := rfl
@[simp] theorem offD_ptr {off : Nat} {l : List D} : offD off (.ptr l) = some (.ptr (l.drop off)) := rfl
@[simp] theorem takeD_t {n : Nat} {l : List D} : takeD true n l = if n ≤ l.length then some (.agg (l.take n)) else none := rfl
@[simp] theorem takeD_f {n : Nat} {a : D} {l : List D} : takeD false n (a :: l) = some a := rfl
@[simp] theorem atD_agg {l : List D} {i f : Nat} : atD (.agg l) (.ref i f) = some (l.drop f) := rfl
@[simp] theorem atD_arr {z : Nat} {l : List D} {i f : Nat} : atD (.arr z l) (.ref i f) = (l[i]?).map fun d => d.cells.drop f := rfl
@[simp] theorem refAdd_ref {off i f : Nat} : refAdd off (.ref i f) = some (.ref i (f + off)) := rfl
@[simp] theorem elemD_nat {z : Nat} {l : List D} {k : IntKind} {i : Nat} : elemD z (.arr z l) (.v (.int k (i : Int))) = (l[i]?).map D.cells := by simp [elemD]
theorem elemD_int {z : Nat} {l : List D} {k : IntKind} {n : Int} (h : 0 ≤ n) : elemD z (.arr z l) (.v (.int k n)) = (l[n.toNat]?).map D.cells := by simp [elemD, h]
@[simp] theorem refI_nat {z : Nat} {l : List D} {k : IntKind} {i : Nat} : refI z (.arr z l) (.v (.int k (i : Int))) = if i < l.length then some (.ref i 0) else none := by simp [refI]
@[simp] theorem D_cells_agg {l : List D} : (D.agg l).cells = l := rfl
@[simp] theorem D_cells_v {v : Value} : (D.v v).cells = [.v v] := rfl
@[simp] theorem D_cells_arr {z : Nat} {l : List D} : (D.arr z l).cells = [.arr z l] := rfl
@[simp] theorem chkV_v {v : Value} : chkV (.v v) = some (.v v) := rfl
@[simp] theorem chkV_agg {l : List D} : chkV (.agg l) = if l.all isVs = true then some (.agg l) else none := by
  have : (D.agg l).isV = l.all isVs := by
    simp only [D.isV]
    congr 1
  simp [chkV, this]
@[simp] theorem isVs_v {v : Value} : isVs (.v v) = true := rfl
@[simp] theorem isVs_arr {z : Nat} {l : List D} : isVs (.arr z l) = false := rfl
@[simp] theorem single_v {v : Value} : (D.v v).single = true := rfl
@[simp] theorem single_arr {z : Nat} {l : List D} : (D.arr z l).single = true := rfl
@[simp] theorem width_agg {l : List D} : (D.agg l).width = l.length := rfl
@[simp] theorem width_v {v : Value} : (D.v v).width = 1 := rfl
@[simp] theorem width_arr {z : Nat} {l : List D} : (D.arr z l).width = 1 := rfl
@[simp] theorem boxD_eq {n : Nat} {x : D} : boxD n x = if x.cells.length = n ∧ x.cells.all D.single = true then some (.agg x.cells) else none := rfl
@[simp] theorem stD_agg {n i f : Nat} {l : List D} {x : D} : stD n (.agg l) (.ref i f) x = if x.cells.length = n ∧ f + n ≤ l.length ∧ x.cells.all D.single = true then some (.agg (putCells l f x.cells)) else none := rfl
@[simp] theorem putCells_eq {l : List D} {f : Nat} {vs : List D} : putCells l f vs = l.take f ++ vs ++ l.drop (f + vs.length) := rfl
@[simp] theorem tupAt_tup {l : List D} {i : Nat} : tupAt (.tup l) i = match l[i]? with
    | some .bad => none
    | some (.tup _) => none
    | r => r := rfl
@[simp] theorem tupCut_tup {l : List D} {i : Nat} : tupCut (.tup l) i = .tup (l.set i .bad) := rfl
@[simp] theorem ref0_eq {x : D} : ref0 (.ref 0 0) x = some x := rfl
@[simp] theorem appD_eq {z eb : Nat} {l m : List D} : appD z eb (.arr z l) (.arr z m) = if (l.length + m.length) * eb ≤ 140737488355328 ∧ l.length + m.length ≤ 1152921504606846976 then some (.arr z (l ++ m)) else none := by simp [appD]

@[simp] theorem elemD_nat1 {z : Nat} {l : List D} {k : IntKind} {i : Nat} : elemD z (.arr z l) (.v (.int k ((i : Int) + 1))) = (l[i + 1]?).map D.cells := elemD_nat (i := i + 1)
@[simp] theorem elemD_zero {z : Nat} {l : List D} {k : IntKind} : elemD z (.arr z l) (.v (.int k 0)) = (l[0]?).map D.cells := elemD_nat (i := 0)
@[simp] theorem makD_nat {z eb : Nat} {x : D} {k k' : IntKind} {n m : Nat} : makD z eb x (.v (.int k (n : Int))) (.v (.int k' (m : Int))) = if n ≤ m ∧ m * eb ≤ 140737488355328 ∧ m ≤ 140737488355328 then some (.arr z (List.replicate n x)) else none := by
  have h : ((n : Int) ≤ m ∧ (m : Int) * (eb : Int) ≤ 140737488355328 ∧ (m : Int) ≤ 140737488355328) ↔ (n ≤ m ∧ m * eb ≤ 140737488355328 ∧ m ≤ 140737488355328) := by
    rw [← Int.natCast_mul]
    omega
  simp only [makD, Int.natCast_nonneg, true_and, h, Int.toNat_natCast]

/-- An element of an owned slice that is written whole. -/
theorem stD_arr {n z i : Nat} {L c v : List D} (h : L[i]? = some (.agg c)) (hc : c.length = n) (hv : v.length = n) (hs : v.all D.single = true) : stD n (.arr z L) (.ref i 0) (.agg v) = some (.arr z (L.set i (.agg v))) := by
  have e : (D.agg c).ofCells (putCells c 0 v) = .agg v := by
    simp only [D.ofCells, putCells, List.take_zero, List.nil_append, Nat.zero_add, hv, ← hc, List.drop_length, List.append_nil]
  have h2 : (D.agg v).cells = v := rfl
  simp only [stD, h, h2, e, width_agg, hc, hv, hs, Nat.zero_add, Nat.le_refl, and_self, if_true, D_cells_agg]
theorem stD_arr1 {z i : Nat} {L : List D} {v w : Value} (h : L[i]? = some (.v w)) : stD 1 (.arr z L) (.ref i 0) (.v v) = some (.arr z (L.set i (.v v))) := by
  simp [stD, h, D.ofCells]

/-- A list that is filled from the left. -/
def fillL {β : Type} (f : β → D) (z : D) (l : List β) (i : Nat) : List D := (l.take i).map f ++ List.replicate (l.length - i) z
section
variable {β : Type} {f : β → D} {z : D} {l : List β} {i : Nat}
theorem fillL_zero : List.replicate l.length z = fillL f z l 0 := by simp [fillL]
theorem fillL_full : fillL f z l l.length = l.map f := by simp [fillL]
@[simp] theorem fillL_length (h : i ≤ l.length) : (fillL f z l i).length = l.length := by simp [fillL]; omega
theorem fillL_get (h : i < l.length) : (fillL f z l i)[i]? = some z := by
  rw [fillL, List.getElem?_append_right (by simp; omega)]
  simp [List.getElem?_replicate]
  omega
theorem fillL_set {x : β} (h : l[i]? = some x) : (fillL f z l i).set i (f x) = fillL f z l (i + 1) := by
  have hi : i < l.length := (List.getElem?_eq_some_iff.1 h).1
  have hx : l[i] = x := (List.getElem?_eq_some_iff.1 h).2
  obtain ⟨m, hm⟩ : ∃ m, l.length - i = m + 1 := ⟨l.length - i - 1, by omega⟩
  rw [fillL, fillL, hm, show l.length - (i + 1) = m from by omega, List.replicate_succ, List.set_append_right _ _ (by simp; omega)]
  have : i - (List.map f (l.take i)).length = 0 := by simp; omega
  rw [this, List.set_cons_zero, List.take_succ_eq_append_getElem hi, List.map_append, hx]
  simp
end

/-- Some cells of an element of an owned slice are written. -/
theorem stD_part {z i f : Nat} {L c : List D} {v : Value} (h : L[i]? = some (.agg c)) (hf : f < c.length) : stD 1 (.arr z L) (.ref i f) (.v v) = some (.arr z (L.set i (.agg (putCells c f [.v v])))) := by
  have h2 : (D.v v).cells = [.v v] := rfl
  have h3 : f + 1 ≤ c.length := hf
  simp [stD, h, h2, h3, D.ofCells]

/-- A list that is marked from the left. -/
def markL {β : Type} (g : Nat → D) (f : β → D) (l : List β) (i : Nat) : List D := (List.range i).map g ++ (l.drop i).map f
section
variable {β : Type} {g : Nat → D} {f : β → D} {l : List β} {i : Nat}
theorem markL_zero : l.map f = markL g f l 0 := by simp [markL]
theorem markL_full : markL g f l l.length = (List.range l.length).map g := by simp [markL]
@[simp] theorem markL_length (h : i ≤ l.length) : (markL g f l i).length = l.length := by simp [markL]; omega
theorem markL_get (h : i < l.length) : (markL g f l i)[i]? = some (f l[i]) := by
  rw [markL, List.getElem?_append_right (by simp)]
  simp [h]
theorem markL_set (h : i < l.length) : (markL g f l i).set i (g i) = markL g f l (i + 1) := by
  rw [markL, markL, List.drop_eq_getElem_cons h, List.set_append_right _ _ (by simp), List.map_cons, List.length_map, List.length_range, Nat.sub_self, List.set_cons_zero, List.range_succ, List.map_append]
  simp
end

theorem mkArr_nil {z : Nat} : mkArr z [] = some (.arr z []) := rfl
@[simp] theorem chkA_map {β : Type} {z : Nat} {l : List β} {f : β → D} (h : ∀ x, (f x).isV = true) : chkA (.arr z (l.map f)) = some (.arr z (l.map f)) := by
  have : (l.map f).all D.isV = true := by simp [h]
  simp only [chkA, this, if_true]
theorem sliceD_nat {z i j : Nat} {l : List D} {k k' : IntKind} (h1 : i ≤ j) (h2 : j ≤ l.length) : sliceD false z (.arr z l) (.v (.int k (i : Int))) (.v (.int k' (j : Int))) = some (.arr z ((l.take j).drop i)) := by
  simp only [sliceD, Int.toNat_natCast, true_and]
  rw [if_pos]
  omega
theorem sliceHi_nat {z i : Nat} {l : List D} {k : IntKind} (h : i ≤ l.length) : sliceHi false z (.arr z l) (.v (.int k (i : Int))) = some (.arr z (l.drop i)) := by
  simp only [sliceHi, Int.toNat_natCast, true_and]
  rw [if_pos]
  omega
theorem wrap_neg {a b : Int} : IntKind.i64.wrap (a + IntKind.i64.wrap (-b)) = IntKind.i64.wrap (a - b) := by
  simp only [IntKind.wrap_i64]
  omega
@[simp] theorem ite_B {p : Prop} [Decidable p] {a b : Bool} : (if p then D.v (.bool a) else D.v (.bool b)) = D.v (.bool (if p then a else b)) := by split <;> rfl

/-! ### loops -/
theorem iter_mono {body : List D → Option Out} : ∀ (n : Nat) (s : List D) (o : Out), iter body n s = some o → ∀ m, n ≤ m → iter body m s = some o
  | 0, _, _, h, _, _ => by simp [iter] at h
  | n + 1, s, o, h, m, hm => by
    obtain ⟨m, rfl⟩ : ∃ q, m = q + 1 := ⟨m - 1, by omega⟩
    simp only [iter] at h ⊢
    split at h
    · rename_i s' hb
      exact iter_mono n s' o h m (by omega)
    · exact h

theorem loopC_of {body : List D → Option Out} {s : List D} {o : Out} (n : Nat) (h : iter body n s = some o) : loopC body s = some o := by
  have hex : ∃ n, (iter body n s).isSome = true := ⟨n, by rw [h]; rfl⟩
  unfold loopC
  rw [dif_pos hex]
  obtain ⟨o', ho⟩ := Option.isSome_iff_exists.1 (Classical.choose_spec hex)
  rw [ho]
  have h1 := iter_mono _ _ _ ho (max n (Classical.choose hex)) (by omega)
  have h2 := iter_mono _ _ _ h (max n (Classical.choose hex)) (by omega)
  rw [h1] at h2
  exact h2

/-- A loop that comes to an end in some number of rounds. -/
inductive Runs (body : List D → Option Out) : List D → Out → Prop where
  | ext {s : List D} {i : Nat} {δ : List D} : body s = some (.ext i δ) → Runs body s (.ext i δ)
  | ret {s : List D} {rs us : List D} : body s = some (.ret rs us) → Runs body s (.ret rs us)
  | nrm {s s' : List D} {o : Out} : body s = some (.nrm s') → Runs body s' o → Runs body s o

theorem Runs.iter {body : List D → Option Out} {s : List D} {o : Out} (h : Runs body s o) : ∃ n, V.iter body n s = some o := by
  induction h with
  | ext h => exact ⟨1, by simp [V.iter, h]⟩
  | ret h => exact ⟨1, by simp [V.iter, h]⟩
  | nrm h _ ih =>
    obtain ⟨n, hn⟩ := ih
    exact ⟨n + 1, by simp [V.iter, h, hn]⟩
theorem Runs.loop {body : List D → Option Out} {s : List D} {o : Out} (h : Runs body s o) : loopC body s = some o := by
  obtain ⟨n, hn⟩ := h.iter
  exact loopC_of n hn

/-- A loop over a list; the state is a function of the place and of what is gathered. -/
def goL {α β : Type} (g : Nat → β → α → α ⊕ Out) (fin : α → Out) : Nat → List β → α → Out
  | _, [], a => fin a
  | i, x :: l, a => match g i x a with
    | .inl a' => goL g fin (i + 1) l a'
    | .inr o => o
def Out.ends : Out → Bool
  | .nrm _ => false
  | _ => true
theorem Runs.one {body : List D → Option Out} {s : List D} {o : Out} (h : body s = some o) (ho : o.ends = true) : Runs body s o := by
  cases o with
  | nrm _ => simp [Out.ends] at ho
  | ext _ _ => exact .ext h
  | ret _ _ => exact .ret h

theorem Runs.list {α β : Type} {body : List D → Option Out} (l : List β) (st : Nat → α → List D) (Inv : Nat → α → Prop) (g : Nat → β → α → α ⊕ Out) (fin : α → Out)
    (hs : ∀ i x a, l[i]? = some x → Inv i a → match g i x a with
      | .inl a' => body (st i a) = some (.nrm (st (i + 1) a')) ∧ Inv (i + 1) a'
      | .inr o => body (st i a) = some o ∧ o.ends = true)
    (he : ∀ a, Inv l.length a → body (st l.length a) = some (fin a) ∧ (fin a).ends = true) (a : α) (h0 : Inv 0 a) : Runs body (st 0 a) (goL g fin 0 l a) := by
  have key : ∀ (n i : Nat) (a : α), i + n = l.length → Inv i a → Runs body (st i a) (goL g fin i (l.drop i) a) := by
    intro n
    induction n with
    | zero =>
      intro i a hi hI
      have : i = l.length := by omega
      subst this
      rw [List.drop_length]
      exact Runs.one (he a hI).1 (he a hI).2
    | succ n ih =>
      intro i a hi hI
      have hlt : i < l.length := by omega
      rw [List.drop_eq_getElem_cons hlt]
      have h := hs i l[i] a (List.getElem?_eq_getElem hlt) hI
      simp only [goL]
      split at h
      · exact .nrm h.1 (ih (i + 1) _ (by omega) h.2)
      · exact Runs.one h.1 h.2
  simpa using key l.length 0 a (by omega) h0

theorem loop_list {α β : Type} {body : List D → Option Out} (l : List β) (st : Nat → α → List D) (Inv : Nat → α → Prop) (g : Nat → β → α → α ⊕ Out) (fin : α → Out)
    (hs : ∀ i x a, l[i]? = some x → Inv i a → match g i x a with
      | .inl a' => body (st i a) = some (.nrm (st (i + 1) a')) ∧ Inv (i + 1) a'
      | .inr o => body (st i a) = some o ∧ o.ends = true)
    (he : ∀ a, Inv l.length a → body (st l.length a) = some (fin a) ∧ (fin a).ends = true) (a : α) (h0 : Inv 0 a) {s0 : List D} (h : s0 = st 0 a) : loopC body s0 = some (goL g fin 0 l a) := by
  rw [h]
  exact (Runs.list l st Inv g fin hs he a h0).loop

/-- A loop whose state at each round is known: n rounds, then the end. -/
theorem loop_for {body : List D → Option Out} (n : Nat) (st : Nat → List D) (o : Out) (hs : ∀ i, i < n → body (st i) = some (.nrm (st (i + 1)))) (he : body (st n) = some o) (ho : o.ends = true) {s0 : List D} (h : s0 = st 0) : loopC body s0 = some o := by
  rw [h]
  have key : ∀ (m i : Nat), i + m = n → Runs body (st i) o := by
    intro m
    induction m with
    | zero =>
      intro i hi
      have : i = n := by omega
      subst this
      exact Runs.one he ho
    | succ m ih => exact fun i hi => .nrm (hs i (by omega)) (ih (i + 1) (by omega))
  exact (key n 0 (by omega)).loop

/-- A loop that goes over a list as long as all is well. -/
def allI {β : Type} (p : Nat → β → Bool) : Nat → List β → Bool
  | _, [] => true
  | i, x :: l => p i x && allI p (i + 1) l
theorem loop_all {β : Type} {body : List D → Option Out} (l : List β) (st : Nat → List D) (p : Nat → β → Bool) (o1 o2 : Out) (hs : ∀ (i : Nat) (hi : i < l.length), body (st i) = some (if p i l[i] = true then .nrm (st (i + 1)) else o1)) (he : body (st l.length) = some o2)
    (h1 : o1.ends = true) (h2 : o2.ends = true) {s0 : List D} (h : s0 = st 0) : loopC body s0 = some (if allI p 0 l = true then o2 else o1) := by
  have e : ∀ (m : List β) (i : Nat), goL (fun i x (_ : Unit) => if p i x = true then .inl () else .inr o1) (fun _ => o2) i m () = if allI p i m = true then o2 else o1 := by
    intro m
    induction m with
    | nil => intro i; simp [goL, allI]
    | cons x m ih =>
      intro i
      simp only [goL, allI]
      by_cases hp : p i x = true
      · simp [hp, ih]
      · simp [hp]
  rw [← e]
  refine loop_list l (fun i _ => st i) (fun _ _ => True) _ _ (fun i x a hx _ => ?_) (fun _ _ => ⟨he, h2⟩) () trivial h
  have hi : i < l.length := (List.getElem?_eq_some_iff.1 hx).1
  have hxe : l[i] = x := (List.getElem?_eq_some_iff.1 hx).2
  have := hs i hi
  rw [hxe] at this
  by_cases hp : p i x = true
  · simpa [hp] using this
  · simpa [hp, h1] using this

/-- A loop that gathers over a list. -/
theorem loop_foldl {α β : Type} {body : List D → Option Out} (l : List β) (st : Nat → α → List D) (f : α → β → α) (fin : α → Out) (a : α) (hs : ∀ (i : Nat) (a : α) (hi : i < l.length), body (st i a) = some (.nrm (st (i + 1) (f a l[i])))) (he : ∀ a, body (st l.length a) = some (fin a))
    (h1 : ∀ a, (fin a).ends = true) {s0 : List D} (h : s0 = st 0 a) : loopC body s0 = some (fin (l.foldl f a)) := by
  have e : ∀ (m : List β) (i : Nat) (a : α), goL (fun _ x a => .inl (f a x)) fin i m a = fin (m.foldl f a) := by
    intro m
    induction m with
    | nil => intro i a; rfl
    | cons x m ih => intro i a; simp only [goL, List.foldl_cons]; exact ih (i + 1) (f a x)
  rw [← e l 0 a]
  exact loop_list l st (fun _ _ => True) (fun _ x a => .inl (f a x)) _ (fun i x a hx _ => ⟨by
    have hi : i < l.length := (List.getElem?_eq_some_iff.1 hx).1
    have hxe : l[i] = x := (List.getElem?_eq_some_iff.1 hx).2
    rw [← hxe]
    exact hs i a hi, trivial⟩) (fun a _ => ⟨he a, h1 a⟩) a trivial h

/-- A loop that gathers over a list, and looks at the place too. -/
def foldI {α β : Type} (f : Nat → α → β → α) : Nat → List β → α → α
  | _, [], a => a
  | i, x :: l, a => foldI f (i + 1) l (f i a x)
theorem loop_foldi {α β : Type} {body : List D → Option Out} (l : List β) (st : Nat → α → List D) (Inv : Nat → α → Prop) (f : Nat → α → β → α) (fin : α → Out) (a : α) (hs : ∀ (i : Nat) (a : α) (hi : i < l.length), Inv i a → body (st i a) = some (.nrm (st (i + 1) (f i a l[i]))) ∧ Inv (i + 1) (f i a l[i]))
    (he : ∀ a, Inv l.length a → body (st l.length a) = some (fin a)) (h1 : ∀ a, (fin a).ends = true) (h0 : Inv 0 a) {s0 : List D} (h : s0 = st 0 a) : loopC body s0 = some (fin (foldI f 0 l a)) := by
  have e : ∀ (m : List β) (i : Nat) (a : α), goL (fun i x a => .inl (f i a x)) fin i m a = fin (foldI f i m a) := by
    intro m
    induction m with
    | nil => intro i a; rfl
    | cons x m ih => intro i a; simp only [goL, foldI]; exact ih (i + 1) (f i a x)
  rw [← e l 0 a]
  refine loop_list l st Inv (fun i x a => .inl (f i a x)) _ (fun i x a hx hI => ?_) (fun a hI => ⟨he a hI, h1 a⟩) a h0 h
  have hi : i < l.length := (List.getElem?_eq_some_iff.1 hx).1
  have hxe : l[i] = x := (List.getElem?_eq_some_iff.1 hx).2
  rw [← hxe]
  exact hs i a hi hI

theorem loop_bind {body : List D → Option Out} {s0 : List D} {K : Out → Option Out} {r : Option Out} (o : Out) (h : loopC body s0 = some o) (hk : K o = r) : (loopC body s0).bind K = r := by
  rw [h]
  exact hk

/-- A loop whose measure falls. -/
theorem loop_wf {α : Type} {body : List D → Option Out} (st : α → List D) (Inv : α → Prop) (μ : α → Nat) (Q : α → Out → Prop)
    (hs : ∀ a, Inv a → (∃ a', body (st a) = some (.nrm (st a')) ∧ Inv a' ∧ μ a' < μ a ∧ ∀ o, Q a' o → Q a o) ∨ ∃ o, body (st a) = some o ∧ o.ends = true ∧ Q a o) (a : α) (h : Inv a) {s0 : List D} (h0 : s0 = st a) : ∃ o, loopC body s0 = some o ∧ Q a o := by
  rw [h0]
  have key : ∀ (n : Nat) (a : α), μ a < n → Inv a → ∃ o, Runs body (st a) o ∧ Q a o := by
    intro n
    induction n with
    | zero => exact fun a h => by omega
    | succ n ih =>
      intro a hn hI
      rcases hs a hI with ⟨a', h1, h2, h3, h4⟩ | ⟨o, h1, h2, h3⟩
      · obtain ⟨o, h5, h6⟩ := ih a' (by omega) h2
        exact ⟨o, .nrm h1 h5, h4 o h6⟩
      · exact ⟨o, Runs.one h1 h2, h3⟩
  obtain ⟨o, h1, h2⟩ := key (μ a + 1) a (by omega) h
  exact ⟨o, h1.loop, h2⟩

theorem loop_wf_bind {α : Type} {body : List D → Option Out} {K : Out → Option Out} (R : Option Out → Prop) (st : α → List D) (Inv : α → Prop) (μ : α → Nat) (Q : Out → Prop)
    (hs : ∀ a, Inv a → (∃ a', body (st a) = some (.nrm (st a')) ∧ Inv a' ∧ μ a' < μ a) ∨ ∃ o, body (st a) = some o ∧ o.ends = true ∧ Q o) (a : α) (h : Inv a) {s0 : List D} (h0 : s0 = st a) (hk : ∀ o, Q o → R (K o)) : R ((loopC body s0).bind K) := by
  obtain ⟨o, h1, h2⟩ := loop_wf st Inv μ (fun _ o => Q o) (fun a ha => by
    rcases hs a ha with ⟨a', g1, g2, g3⟩ | h
    · exact .inl ⟨a', g1, g2, g3, fun _ h => h⟩
    · exact .inr h) a h h0
  rw [h1]
  exact hk o h2

end Go.V
/-
  strings.FieldsFunc at 'c < '0' || c > '9''.
-/
namespace Go.Proofs.YtlphibidnkjpdaaDoor
open Go Go.V

theorem e_impl_numbersIn_1 (x : Int) : F_impl_numbersIn_1 [.v (.int .i32 x)] = some (.ret [B (decide (x < 48) || decide (57 < x))] []) := by
  rw [t_impl_numbersIn_1]
  by_cases h : x < 48 <;> simp [h]
/-- No digit. -/
def isSep (x : Nat) : Bool := decide (x < 48) || decide (57 < x)
@[reducible] def S_strings_FieldsFunc : FS := S_FieldsFunc 157 isSep
set_option maxRecDepth 100000 in
theorem M_strings_FieldsFunc : Meets gl0 Tryd.prog 156 S_strings_FieldsFunc :=
  M_FieldsFunc Tryd.lays229 (by kernel_rfl) (Go.Proofs.enters_of Tryd.func157 (by kernel_rfl) rfl) M_impl_numbersIn_1 rfl rfl
    (fun x _ => by
      show F_impl_numbersIn_1 _ = _
      rw [e_impl_numbersIn_1]
      have h1 : ((x : Int) < 48) ↔ x < 48 := by omega
      have h2 : ((57 : Int) < x) ↔ 57 < x := by omega
      simp only [isSep, h1, h2]) (by kernel_rfl) (by kernel_rfl)
end Go.Proofs.YtlphibidnkjpdaaDoor
/-
  The evaluator with joins: what stands behind a choice is evaluated once.
-/
namespace Go.V
open Go.RowKit

/-- What stands behind a choice, said once (not unfolded). -/
def joinC (f : (List D → Option Out) → Option Out) (k : List D → Option Out) : Option Out := f k

@[reducible] noncomputable def denJ (c : Cx) (J : List (Nat × List Nat)) : Nat → Nat → Code → List D → (Out → Option Out) → Option Out
  | _, _, .skip, δ, k => k (.nrm δ)
  | _, _, .region _ ops _, δ, k => runOps c ops.toList ops.toList δ fun δ' => k (.nrm δ')
  | p, bid, .seq a b, δ, k => match look J p with
    | none => denJ c J (Nat.mul 2 p) bid a δ fun o => seqK o (fun δ' => denJ c J (Nat.add (Nat.mul 2 p) 1) bid b δ' k) k
    | some hl => joinC (fun j => denJ c J (Nat.mul 2 p) bid a δ fun o => seqK o (fun δ' => getC δ' hl fun s => j s) k) (fun s => expandC (lenN c.K) hl s fun δ' => denJ c J (Nat.add (Nat.mul 2 p) 1) bid b δ' k)
  | p, bid, .cond x t e, δ, k => opC δ x fun q => ifD q (denJ c J (Nat.mul 2 p) bid t δ k) (denJ c J (Nat.add (Nat.mul 2 p) 1) bid e δ k)
  | p, _, .block id b, δ, k => denJ c J (Nat.mul 2 p) id b δ fun o => blkK id o k
  | p, bid, .loop b, δ, k => match look c.H bid with
    | none => none
    | some (hl, xl) =>
      getC δ hl fun s => (loopC (fun s => expandC (lenN c.K) hl s fun δ => denJ c J (Nat.mul 2 p) bid b δ (shrinkK hl xl)) s).bind fun o =>
        outK o (fun i s => expandC (lenN c.K) xl s fun δ => k (.ext i δ)) (fun a b => k (.ret a b))
  | _, _, .exit id, δ, k => k (.ext id δ)
  | _, _, .ret, δ, k => resC c δ c.res fun rs => getC δ c.ios fun us => usK us (k (.ret rs us))
  | _, _, _, _, _ => none

/-- A whole function. -/
@[reducible] noncomputable def denFJ (c : Cx) (J : List (Nat × List Nat)) (fn : Func) (ds : List D) : Option Out :=
  match fn.body with
  | none => none
  | some b => denJ c J 1 0 b (padTo fn.ntmps ds) fun o => match o with
    | .nrm δ => resC c δ c.res fun rs => getC δ c.ios fun us => usK us (some (.ret rs us))
    | .ext _ _ => none
    | .ret rs us => some (.ret rs us)

def okJ (c : Cx) (J : List (Nat × List Nat)) : Bool := J.all fun p => okLive c.K p.2
theorem okJ_at {c : Cx} : ∀ {J : List (Nat × List Nat)} {p : Nat} {hl : List Nat}, okJ c J = true → look J p = some hl → okLive c.K hl = true
  | [], _, _, _, h => by cases h
  | (q, l) :: J, p, hl, hJ, h => by
    unfold okJ at hJ
    rw [List.all_cons, Bool.and_eq_true] at hJ
    simp only [look] at h
    split at h
    · cases h
      exact hJ.1
    · exact okJ_at (J := J) hJ.2 h

section
variable {P : Program} {c : Cx} {B : Nat} {X : Nat → Prop} {w0 : World} {F0 F : Nat → Prop} {O : Nat → Option (Nat × Nat)} {a : Act} {w : World} {δ : List D}

theorem loop_roundsJ {V : Nat → Value} {J : List (Nat × List Nat)} {p : Nat} {b : Code} {bid : Nat} {hl xl : List Nat} (h1 : okLive c.K hl = true) (h2 : okLive c.K xl = true)
    (ih : ∀ (F : Nat → Prop) (O : Nat → Option (Nat × Nat)) (a : Act) (w : World) (δ : List D), Inv c B X w0 F0 F O a w δ → IoV c V a → ∀ (k : Out → Option Out) (r : Out), denJ c J p bid b δ k = some r → ∀ Q, (∀ e a w, Post c B X w0 F0 V k r e a w → Q e a w) → b.wp P Q a w)
    {k : Out → Option Out} {r : Out} {Q : Exit → Act → World → Prop} (hQ : ∀ e a w, Post c B X w0 F0 V k r e a w → Q e a w) {o : Out}
    (ho : outK o (fun i s => expandC (lenN c.K) xl s fun δ => k (.ext i δ)) (fun x y => k (.ret x y)) = some r) : ∀ (n : Nat) (F : Nat → Prop) (O : Nat → Option (Nat × Nat)) (a : Act) (w : World) (δ : List D), Inv c B X w0 F0 F O a w δ → IoV c V a →
    iter (fun s => expandC (lenN c.K) hl s fun δ => denJ c J p bid b δ (shrinkK hl xl)) n (getAll δ hl) = some o → Code.rounds P b Q n a w
  | 0, _, _, _, _, _, _, _, h => by cases h
  | n + 1, F, O, a, w, δ, hI, hV, h => by
    simp only [iter, expandC_eq] at h
    rw [rounds_succ]
    have hI' := hI.carry h1
    cases hb : denJ c J p bid b (carry (lenN c.K) hl δ) (shrinkK hl xl) with
    | none => rw [hb] at h; cases h
    | some ob =>
      rw [hb] at h
      refine ih F O a w _ hI' hV _ ob hb _ (fun e a' w' hp => ?_)
      cases ob with
      | nrm s' =>
        simp only at h
        cases e with
        | normal =>
          obtain ⟨⟨F', O', δ', g1, g2⟩, g3⟩ := hp
          simp only [shrinkK, getC_eq, Option.some.injEq, Out.nrm.injEq] at g2
          rw [← g2] at h
          exact loop_roundsJ h1 h2 ih hQ ho n F' O' a' w' δ' g1 g3 h
        | exit i =>
          obtain ⟨⟨F', O', δ', g1, g2⟩, g3⟩ := hp
          simp [shrinkK, getC_eq] at g2
        | ret =>
          obtain ⟨⟨F', O', δ', g1, g2⟩, g3⟩ := hp
          obtain ⟨rs, _, _, g4⟩ := retK_is g2
          simp [shrinkK] at g4
        | _ => exact hp.elim
      | ext i l =>
        simp only [Option.some.injEq] at h
        subst h
        cases e with
        | normal =>
          obtain ⟨⟨F', O', δ', g1, g2⟩, g3⟩ := hp
          simp [shrinkK, getC_eq] at g2
        | exit j =>
          obtain ⟨⟨F', O', δ', g1, g2⟩, g3⟩ := hp
          simp only [shrinkK, getC_eq, Option.some.injEq, Out.ext.injEq] at g2
          obtain ⟨rfl, rfl⟩ := g2
          simp only [outK, expandC_eq] at ho
          exact hQ (.exit j) _ _ ⟨⟨F', O', _, g1.carry h2, ho⟩, g3⟩
        | ret =>
          obtain ⟨⟨F', O', δ', g1, g2⟩, g3⟩ := hp
          obtain ⟨rs, _, _, g4⟩ := retK_is g2
          simp [shrinkK] at g4
        | _ => exact hp.elim
      | ret x y =>
        simp only [Option.some.injEq] at h
        subst h
        cases e with
        | normal =>
          obtain ⟨⟨F', O', δ', g1, g2⟩, g3⟩ := hp
          simp [shrinkK, getC_eq] at g2
        | exit j =>
          obtain ⟨⟨F', O', δ', g1, g2⟩, g3⟩ := hp
          simp [shrinkK, getC_eq] at g2
        | ret =>
          obtain ⟨⟨F', O', δ', g1, g2⟩, g3⟩ := hp
          obtain ⟨rs, g5, g6, g4⟩ := retK_is g2
          simp only [shrinkK, Option.some.injEq, Out.ret.injEq] at g4
          obtain ⟨rfl, rfl⟩ := g4
          exact hQ .ret _ _ ⟨⟨F', O', δ', g1, retK_of g5 g6 ho⟩, g3⟩
        | _ => exact hp.elim

theorem denJ_sound (hT : okT P c.T = true) (hS : ∀ f S, look c.S f = some S → Meets c.G P f S) (hm : P.follows .mixedOrders = true) {V : Nat → Value} {J : List (Nat × List Nat)} (hJ : okJ c J = true) : ∀ (b : Code) (p bid : Nat), okCode c bid b = true → ∀ (F : Nat → Prop) (O : Nat → Option (Nat × Nat)) (a : Act) (w : World) (δ : List D),
    Inv c B X w0 F0 F O a w δ → IoV c V a → ∀ (k : Out → Option Out) (r : Out), denJ c J p bid b δ k = some r → ∀ Q, (∀ e a w, Post c B X w0 F0 V k r e a w → Q e a w) → b.wp P Q a w
  | .skip, p, bid, _, F, O, a, w, δ, hI, hV, k, r, hg, Q, hQ => wp_skip (hQ _ _ _ ⟨⟨F, O, δ, hI, hg⟩, hV⟩)
  | .region id ops d, p, bid, hok, F, O, a, w, δ, hI, hV, k, r, hg, Q, hQ => by
    simp only [okCode, Bool.and_eq_true, List.all_eq_true] at hok
    have hq : ∀ a w, NextV c B X w0 F0 V (fun δ => k (.nrm δ)) r a w → Q .normal a w := fun a w h => hQ _ _ _ h
    cases d
    · exact wp_region_list (list_sound hT hS hq ops.toList hok.1 F O a w δ hI hV hg)
    · exact any_sound hT hS (by simpa using hok.2) hm hq hok.1 hI hV hg id
  | .seq x y, p, bid, hok, F, O, a, w, δ, hI, hV, k, r, hg, Q, hQ => by
    simp only [okCode, Bool.and_eq_true] at hok
    simp only [denJ] at hg
    cases hH : look J p with
    | none =>
      rw [hH] at hg
      refine wp_seq (denJ_sound hT hS hm hJ x _ bid hok.1 F O a w δ hI hV _ r hg _ (fun e a' w' hp => ?_))
      cases e with
      | normal =>
        obtain ⟨⟨F', O', δ', hI', hk'⟩, hV'⟩ := hp
        exact denJ_sound hT hS hm hJ y _ bid hok.2 F' O' a' w' δ' hI' hV' k r hk' Q hQ
      | exit id => exact hQ _ _ _ hp
      | ret => exact hQ _ _ _ hp
      | _ => exact hp.elim
    | some hl =>
      rw [hH] at hg
      simp only [joinC] at hg
      have hlive := okJ_at hJ hH
      refine wp_seq (denJ_sound hT hS hm hJ x _ bid hok.1 F O a w δ hI hV _ r hg _ (fun e a' w' hp => ?_))
      cases e with
      | normal =>
        obtain ⟨⟨F', O', δ', hI', hk'⟩, hV'⟩ := hp
        simp only [seqK, getC_eq, expandC_eq] at hk'
        exact denJ_sound hT hS hm hJ y _ bid hok.2 F' O' a' w' _ (hI'.carry hlive) hV' k r hk' Q hQ
      | exit id => exact hQ _ _ _ hp
      | ret => exact hQ _ _ _ hp
      | _ => exact hp.elim
  | .cond x t e, p, bid, hok, F, O, a, w, δ, hI, hV, k, r, hg, Q, hQ => by
    simp only [okCode, Bool.and_eq_true] at hok
    obtain ⟨⟨hlv, hok1⟩, hok2⟩ := hok
    have hop := hI.opd (ble_iff.1 hlv)
    have key : ifD (opD δ x) (denJ c J (Nat.mul 2 p) bid t δ k) (denJ c J (Nat.add (Nat.mul 2 p) 1) bid e δ k) = some r := by
      simp only [denJ] at hg
      cases x with
      | tmp s => simpa only [opC, nthC_eq, opD] using hg
      | const v => simpa only [opC, opD] using hg
      | func f => simpa only [opC, opD] using hg
      | global g => simp [opC] at hg
    unfold ifD at key
    split at key
    · rename_i hd
      rw [hd] at hop
      exact wp_cond_true (RepB_v hop).1 (denJ_sound hT hS hm hJ t _ bid hok1 F O a w δ hI hV k r key Q hQ)
    · rename_i hd
      rw [hd] at hop
      exact wp_cond_false (RepB_v hop).1 (denJ_sound hT hS hm hJ e _ bid hok2 F O a w δ hI hV k r key Q hQ)
    · cases key
  | .block id b, p, bid, hok, F, O, a, w, δ, hI, hV, k, r, hg, Q, hQ => by
    simp only [okCode] at hok
    refine wp_block (denJ_sound hT hS hm hJ b _ id hok F O a w δ hI hV _ r hg _ (fun e a' w' hp => ?_))
    cases e with
    | normal => exact hQ .normal _ _ hp
    | exit i =>
      simp only [Exit.inBlock]
      have hp' : NextV c B X w0 F0 V (fun δ => blkK id (.ext i δ) k) r a' w' := hp
      split
      · rename_i hi
        refine hQ .normal _ _ (NextV_mono hp' fun δ F O _ h => ?_)
        simp only [blkK] at h
        rw [beq_iff.2 (by simpa using hi)] at h
        exact h
      · rename_i hi
        refine hQ (.exit i) _ _ (NextV_mono hp' fun δ F O _ h => ?_)
        simp only [blkK] at h
        cases hb : Nat.beq i id
        · rw [hb] at h; exact h
        · exact absurd (by simpa using beq_iff.1 hb) hi
    | ret => exact hQ .ret _ _ hp
    | _ => exact hp.elim
  | .loop b, p, bid, hok, F, O, a, w, δ, hI, hV, k, r, hg, Q, hQ => by
    simp only [okCode, Bool.and_eq_true] at hok
    obtain ⟨hok1, hok2⟩ := hok
    simp only [denJ] at hg
    cases hH : look c.H bid with
    | none => rw [hH] at hg; cases hg
    | some hx =>
      obtain ⟨hl, xl⟩ := hx
      rw [hH] at hg hok2
      simp only [Bool.and_eq_true] at hok2
      simp only [getC_eq] at hg
      obtain ⟨o', h1, h2⟩ := Option.bind_eq_some_iff.1 hg
      unfold loopC at h1
      split at h1
      case isFalse => cases h1
      rename_i hex
      refine wp_loop_rounds (Classical.choose hex) ?_
      refine loop_roundsJ (hl := hl) (xl := xl) hok2.1 hok2.2 (fun F O a w δ hI hV k r hg Q hQ => denJ_sound hT hS hm hJ b _ bid hok1 F O a w δ hI hV k r hg Q hQ) hQ h2 _ F O a w δ hI hV h1
  | .exit id, p, bid, _, F, O, a, w, δ, hI, hV, k, r, hg, Q, hQ => wp_exit (hQ _ _ _ ⟨⟨F, O, δ, hI, hg⟩, hV⟩)
  | .ret, p, bid, _, F, O, a, w, δ, hI, hV, k, r, hg, Q, hQ => wp_ret (hQ _ _ _ ⟨⟨F, O, δ, hI, hg⟩, hV⟩)
  | .label _, _, _, hok, _, _, _, _, _, _, _, _, _, _, _, _ => by simp [okCode] at hok
  | .goto _, _, _, hok, _, _, _, _, _, _, _, _, _, _, _, _ => by simp [okCode] at hok
  | .scope _, _, _, hok, _, _, _, _, _, _, _, _, _, _, _, _ => by simp [okCode] at hok


theorem fn_callsJ (hT : okT P c.T = true) (hS : ∀ f S, look c.S f = some S → Meets c.G P f S) (hm : P.follows .mixedOrders = true) {J : List (Nat × List Nat)} (hJ : okJ c J = true) {f : FuncId} {fn : Func} (hf : P.funcs[f]? = some fn) {pm rm : List Kd} (hok : okFn c fn pm rm = true) (hres : c.res = fn.results.toList)
    {ds rs us : List D} (hd : denFJ c J fn ds = some (.ret rs us)) {args : Array Value} {w : World} {F : Nat → Prop} {ow : Nat → Option Nat} (hgl : gOk c.G w F) (ha : ArgsOk w F ow 0 pm ds args.toList) (hF : ∀ b, F b → b < w.heap.size ∧ ow b = none) (hO : ∀ b i, ow b = some i → b < w.heap.size) :
    Calls P f args w fun e w' => ∃ v, e = .returned v ∧ ∃ F' R vs, v = resV vs ∧ CallPost { pm := pm, rm := rm, f := denFJ c J fn } args rs us w F ow F' R vs w' := by
  unfold okFn at hok
  simp only [Bool.and_eq_true, decide_eq_true_eq] at hok
  obtain ⟨⟨⟨⟨⟨hcode, hlenK⟩, hpre⟩, hpm⟩, hokr⟩, hios⟩ := hok
  rw [beq_iff, lenN_eq] at hlenK
  obtain ⟨hpl, hpn⟩ := prefK_nth hpre
  obtain ⟨hdl, hal, hargs⟩ := ArgsOk_at pm ds args.toList 0 ha
  have hasz : args.size = pm.length := by simpa using hal
  unfold denFJ at hd
  cases hb : fn.body with
  | none => rw [hb] at hd; cases hd
  | some b =>
    rw [hb] at hd hcode
    simp only at hd hcode
    refine calls_of_wp hf hb ?_
    have hav : ∀ s, s < pm.length → av ({ tmps := args ++ Array.replicate (fn.ntmps - args.size) undef, defers := [] } : Act) s = args.toList.getD s undef := fun s hs => by
      have h1 : s < args.size := by omega
      simp only [av, Array.getD_eq_getD_getElem?, List.getD_eq_getElem?_getD, Array.getElem?_toList]
      rw [Array.getElem?_append_left h1]
    have hinit : Inv c w.heap.size (fun b => ow b ≠ none) w F F (fun b => (ow b).map fun i => (i, 0)) { tmps := args ++ Array.replicate (fn.ntmps - args.size) undef, defers := [] } w (padTo fn.ntmps ds) := by
      refine ⟨by simp; omega, by rw [padTo_len, hlenK], rfl, fun s => ?_, fun b hb => ⟨(hF b hb).1, by simp [(hF b hb).2]⟩, fun b p hp => ?_, fun _ h => h, fun _ h => .inl h, Nat.le_refl _, rfl, rfl, rfl, fun _ _ _ => rfl, hgl⟩
      · unfold SlotOk
        rw [padTo_nth _ _ _ (by rw [hdl]; omega)]
        by_cases hs : s < pm.length
        · rw [hpn s hs, hav s hs]
          rcases hargs s hs with hbad | harg
          · exact .inl hbad
          refine .inr ?_
          have hlv : ∀ lv, lv ≠ 1 → ∀ b, FB F 0 lv b → FB F w.heap.size lv b := fun lv h1 b hb => by
            match lv, h1 with
            | 0, _ => exact hb
            | _ + 2, _ => exact hb
          rcases okPm_at hpm s hs with ⟨lv, hk, h1⟩ | ⟨z, lv, hk, h1⟩ | ⟨n, lv, hk, h1⟩
          · rw [hk] at harg ⊢
            exact .inr (RepV_mono (hlv lv h1) (fun _ _ => rfl) harg)
          · rw [hk] at harg ⊢
            exact .inr (OwnV_mono' (hlv lv h1) (fun _ _ => rfl) (fun g _ hg => ⟨⟨by simp only [Nat.zero_add] at hg; simp [hg], fun h => by cases h⟩, rfl⟩) harg)
          · rw [hk] at harg ⊢
            exact .inr (BoxV_mono' (hlv lv h1) (fun _ _ => rfl) (fun g _ hg => ⟨⟨by simp only [Nat.zero_add] at hg; simp [hg], fun h => by cases h⟩, rfl⟩) harg)
        · refine .inl ?_
          rw [nth_eq, List.getD_eq_getElem?_getD, List.getElem?_eq_none (by omega)]
          rfl
      · obtain ⟨i, hi, rfl⟩ := Option.map_eq_some_iff.1 hp
        exact ⟨hO b i hi, .inr (by rw [hi]; simp)⟩
    refine denJ_sound hT hS hm hJ b 1 0 hcode F _ _ w _ hinit (V := av { tmps := args ++ Array.replicate (fn.ntmps - args.size) undef, defers := [] }) (fun _ _ => rfl) _ _ hd _ (fun e a' w' hp => ?_)
    have fin : NextV c w.heap.size (fun b => ow b ≠ none) w F (av { tmps := args ++ Array.replicate (fn.ntmps - args.size) undef, defers := [] }) (fun δ => retK c δ some) (.ret rs us) a' w' → a'.defers = [] ∧ ∃ v, (results fn a'.tmps).run P w' = .ok v w' ∧ ∃ v', Ending.returned v = .returned v' ∧ ∃ F' R vs, v' = resV vs ∧ CallPost { pm := pm, rm := rm, f := denFJ c J fn } args rs us w F ow F' R vs w' := by
      rintro ⟨⟨F', O', δ', hI', hk⟩, hV'⟩
      obtain ⟨rs', h1, h2, h3⟩ := retK_is hk
      simp only [Option.some.injEq, Out.ret.injEq] at h3
      obtain ⟨rfl, rfl⟩ := h3
      obtain ⟨vs, g1, g2, g3, g4⟩ := res_run (P := P) hT hI' c.res rm rs' hokr h1
      refine ⟨hI'.df, resV vs, ?_, _, rfl, F', fun b => if w.heap.size ≤ b then (match O' b with
        | some (t, 0) => resIx c.res t 0
        | _ => none) else none, vs, rfl, ?_⟩
      · have hrun : (fn.results.mapM (getRes a'.tmps)).run P w' = .ok vs.toArray w' := by
          rw [Array.mapM_eq_mapM_toList, ← hres]
          simp [g1]
        have hrw : results fn a'.tmps = (do
            let vs ← fn.results.mapM (getRes a'.tmps)
            pure (if h : vs.size = 1 then vs[0] else .tuple vs)) := by
          unfold results
          congr 1
        rw [hrw]
        simp only [Sem.run_bind, hrun, Result.andThen_ok, Sem.run_pure]
        congr 1
        rcases vs with _ | ⟨y, _ | ⟨y', vs⟩⟩
        · simp [resV]
        · simp [resV]
        · simp [resV]
      · refine ⟨hI'.os, hI'.tape, hI'.output, hI'.bb, fun b hb ho => hI'.keep b hb (by simp [ho]), hI'.f0, fun b hb => ⟨hI'.fn b hb, (hI'.fl b hb).1, by simp only [(hI'.fl b hb).2]; split <;> rfl⟩, fun b j hj => ?_, g2, g3, fun j => ?_, ?_⟩
        · split at hj
          case isFalse => cases hj
          rename_i hB
          refine ⟨hB, ?_⟩
          split at hj
          · rename_i t he; exact (hI'.ol b _ he).1
          · cases hj
        · refine ResOk_mono (fun hk g hg => ?_) (g4 j)
          obtain ⟨z, lv, hk⟩ := hk
          obtain ⟨e1, t, e2, e3⟩ := hg
          rw [if_pos e1]
          simp only [e3]
          have := (resIx_own c.res rm hokr j t 0 z lv hk e2).1
          simpa using this
        · rw [hios]
          refine UsOk_of pm args.toList 0 hal (fun j hj hio => ?_)
          rw [Nat.zero_add]
          have hkj := hpn j hj
          have hbj : nth δ' j ≠ .bad := by
            refine h2 _ ?_
            rw [hios, getAll_map]
            exact List.mem_map_of_mem (by simpa using ioIdx_mem pm 0 j hj hio)
          have havj : av a' j = args.toList.getD j undef := (hV' j (by rw [hkj]; exact hio)).trans (hav j hj)
          have hlv : ∀ lv, lv ≠ 1 → ∀ b, FB F' w.heap.size lv b → FB F' 0 lv b := fun lv h1 b hb => by
            match lv, h1 with
            | 0, _ => exact hb
            | _ + 2, _ => exact hb
          refine ⟨hbj, .inr ?_⟩
          rcases okPm_at hpm j hj with ⟨lv, hk, h1⟩ | ⟨z, lv, hk, h1⟩ | ⟨n, lv, hk, h1⟩
          · rw [hk] at hio; cases hio
          · have h5 := hI'.own (hkj.trans hk) hbj
            rw [havj] at h5
            rw [hk]
            exact OwnV_mono' (hlv lv h1) (fun _ _ => rfl) (fun _ _ _ => ⟨trivial, rfl⟩) h5
          · have h5 := hI'.box (hkj.trans hk) hbj
            rw [havj] at h5
            rw [hk]
            exact BoxV_mono' (hlv lv h1) (fun _ _ => rfl) (fun _ _ _ => ⟨trivial, rfl⟩) h5
    cases e with
    | normal => exact fin hp
    | exit i =>
      obtain ⟨⟨_, _, _, _, h⟩, _⟩ := hp
      cases h
    | ret =>
      refine fin (NextV_mono hp fun δ F O _ h => ?_)
      obtain ⟨rs', h1, h2, h3⟩ := retK_is h
      exact retK_of h1 h2 h3
    | _ => exact hp.elim

theorem meets_ofJ (hT : okT P c.T = true) (hS : ∀ f S, look c.S f = some S → Meets c.G P f S) (hm : P.follows .mixedOrders = true) {J : List (Nat × List Nat)} (hJ : okJ c J = true) {f : FuncId} {fn : Func} (hf : P.funcs[f]? = some fn) (hname : (fn.name == "runtime.NumGoroutine") = false) {pm rm : List Kd} (hok : okFn c fn pm rm = true) (hres : c.res = fn.results.toList) :
    Meets c.G P f { pm := pm, rm := rm, f := denFJ c J fn } := by
  intro ds rs us hd args w F ow hgl ha hF hO o a next Q hn
  have hbody : ∃ b, fn.body = some b := by
    have hd' : denFJ c J fn ds = some (.ret rs us) := hd
    unfold denFJ at hd'
    cases hb : fn.body with
    | none => rw [hb] at hd'; cases hd'
    | some b => exact ⟨b, rfl⟩
  obtain ⟨b, hb⟩ := hbody
  have hrun : (callFunc f args).run P w = .ok (.enter f args) w := by
    have h1 : ¬ fn.name = "runtime.NumGoroutine" := by simpa using hname
    simp [callFunc, hf, h1, hb]
  rw [hrun, Oper.upon_enter]
  refine Calls.mono (fn_callsJ hT hS hm hJ hf hok hres hd hgl ha hF hO) (fun e w' he => ?_)
  obtain ⟨v, rfl, F', R, vs, h1, h2⟩ := he
  exact hn v w' ⟨F', R, vs, h1, h2⟩


end

/-- A join: what is so of all that comes to it is so of the whole. -/
theorem joinC_of {f : (List D → Option Out) → Option Out} {k : List D → Option Out} {r : Option Out} (p : List D → Prop) (hk : ∀ s, p s → k s = r) (hf : ∀ j : List D → Option Out, (∀ s, p s → j s = r) → f j = r) : joinC f k = r := hf k hk
end Go.V
/-
  Contexts and contracts of functions, printed by gen.py.
-/
namespace Go.Proofs.YtlphibidnkjpdaaDoor
open Go.V
set_option maxRecDepth 100000
@[reducible] def ty3 : TI := { n := 1, zero := [.v (.int .i64 0)], ik := some .i64 }
@[reducible] def ty4 : TI := { n := 1, zero := [.v (.bool false)], bl := true }
@[reducible] def ty5 : TI := { n := 1, zero := [.v (.int .u8 0)], ik := some .u8 }
@[reducible] def ty9 : TI := { n := 1, zero := [.v (.string ⟨#[]⟩)], str := true }
@[reducible] def ty22 : TI := { n := 1, zero := [.arr 1 []], elem := 5, ez := 1, eb := 1 }
@[reducible] def ty25 : TI := { agg := true, n := 5, zero := [.v (.int .i64 0), .v (.int .i64 0), .v (.int .i64 0), .v (.int .i64 0), .v (.int .i64 0)], fs := [(0, 3), (1, 3), (2, 3), (3, 3), (4, 3)], eq := [1, 1, 1, 1, 1] }
@[reducible] def ty28 : TI := { n := 1, zero := [.arr 1 []], elem := 3, ez := 1, eb := 8 }
@[reducible] def ty51 : TI := { agg := true, n := 3, zero := [.v (.int .i64 0), .v (.int .i64 0), .v (.int .i64 0)], fs := [(0, 3), (1, 3), (2, 3)], eq := [1, 1, 1] }
@[reducible] def ty93 : TI := { n := 1, zero := [.arr 1 []], elem := 9, ez := 1, eb := 16 }
@[reducible] def ty108 : TI := { n := 1, zero := [.v (.int .u64 0)], ik := some .u64 }
@[reducible] def ty110 : TI := { agg := true, n := 3, zero := [.arr 1 [], .v (.int .i64 0), .v (.int .u64 0)], fs := [(0, 22), (1, 3), (2, 108)] }
@[reducible] def ty152 : TI := { n := 1, zero := [.v .nilIface], ifc := true }
/-- loop.example/g01054/laws.big -/
@[reducible] noncomputable def c_laws_big : Cx := { K := [.dat 2, .dat 2, .no, .no, .dat 0, .dat 2, .dat 0, .dat 0, .dat 0, .dat 2, .dat 0, .dat 2, .dat 0, .dat 0, .dat 0, .dat 0], T := [(3, ty3), (5, ty5), (22, ty22)], S := [], H := [], res := [.tmp 4], ios := [], G := gl0 }
noncomputable def F_laws_big : List D → Option Out := denF c_laws_big Tryd.f7
@[reducible] noncomputable def S_laws_big : FS := { pm := [.dat 2, .dat 2], rm := [.dat 0], f := F_laws_big }
theorem M_laws_big : Meets gl0 Tryd.prog 7 S_laws_big := meets_of (P := Tryd.prog) (c := c_laws_big) (fn := Tryd.f7) (pm := S_laws_big.pm) (rm := S_laws_big.rm) (by kernel_rfl) lookNil follows_mixed Tryd.func7 (by kernel_rfl) (by kernel_rfl) rfl
/-- (*loop.example/g01054/spec.l1Cur).next -/
@[reducible] noncomputable def c_spec_l1Cur_next : Cx := { K := [.box 3 2 true, .no, .dat 0, .dat 0, .ref 0, .ref 0, .ref 0, .dat 0, .ref 0, .ref 0, .ref 0, .dat 2, .dat 0, .dat 0, .ref 0, .ref 0, .ref 0, .dat 2, .ref 0, .ref 0, .ref 0, .dat 0, .dat 2, .dat 0, .dat 0, .ref 0, .ref 0, .ref 0, .dat 0, .dat 0, .ref 0, .ref 0, .ref 0, .ref 0, .ref 0, .ref 0, .dat 0, .dat 0, .dat 0, .dat 0, .dat 0, .dat 0, .ref 0, .ref 0, .ref 0, .ref 0, .ref 0, .dat 0, .ref 0, .ref 0, .ref 0, .dat 2, .dat 0, .dat 0, .dat 0, .ref 0, .ref 0, .ref 0, .dat 0, .dat 0, .dat 0, .dat 0], T := [(3, ty3), (5, ty5), (22, ty22), (108, ty108), (110, ty110)], S := [], H := [], res := [.tmp 2], ios := [0], G := gl0 }
noncomputable def F_spec_l1Cur_next : List D → Option Out := denF c_spec_l1Cur_next Tryd.f153
@[reducible] noncomputable def S_spec_l1Cur_next : FS := { pm := [.box 3 2 true], rm := [.dat 0], f := F_spec_l1Cur_next }
theorem M_spec_l1Cur_next : Meets gl0 Tryd.prog 153 S_spec_l1Cur_next := meets_of (P := Tryd.prog) (c := c_spec_l1Cur_next) (fn := Tryd.f153) (pm := S_spec_l1Cur_next.pm) (rm := S_spec_l1Cur_next.rm) (by kernel_rfl) lookNil follows_mixed Tryd.func153 (by kernel_rfl) (by kernel_rfl) rfl
/-- (*loop.example/g01054/spec.l1Cur).pick -/
@[reducible] noncomputable def c_spec_l1Cur_pick : Cx := { K := [.box 3 2 true, .dat 0, .no, .no, .dat 0, .dat 0, .dat 0, .dat 0, .ref 0, .dat 0, .dat 0, .dat 0, .dat 0, .dat 0, .ref 0, .dat 0, .dat 0, .dat 0, .dat 0, .dat 0], T := [(3, ty3)], S := [(153, S_spec_l1Cur_next)], H := [], res := [.tmp 4], ios := [0], G := gl0 }
noncomputable def F_spec_l1Cur_pick : List D → Option Out := denF c_spec_l1Cur_pick Tryd.f99
@[reducible] noncomputable def S_spec_l1Cur_pick : FS := { pm := [.box 3 2 true, .dat 0], rm := [.dat 0], f := F_spec_l1Cur_pick }
theorem M_spec_l1Cur_pick : Meets gl0 Tryd.prog 99 S_spec_l1Cur_pick := meets_of (P := Tryd.prog) (c := c_spec_l1Cur_pick) (fn := Tryd.f99) (pm := S_spec_l1Cur_pick.pm) (rm := S_spec_l1Cur_pick.rm) (by kernel_rfl) (lookCons M_spec_l1Cur_next lookNil) follows_mixed Tryd.func99 (by kernel_rfl) (by kernel_rfl) rfl
/-- (*loop.example/g01054/spec.l1Cur).strike -/
@[reducible] noncomputable def c_spec_l1Cur_strike : Cx := { K := [.box 3 2 true, .no, .box 5 0 false, .ref 0, .dat 0, .dat 0, .ref 0, .dat 0, .dat 0, .ref 0, .dat 0, .dat 0, .ref 0, .dat 0, .dat 0, .ref 0, .dat 0, .dat 0, .dat 0], T := [(3, ty3), (25, ty25)], S := [(99, S_spec_l1Cur_pick)], H := [], res := [.cell 2 25], ios := [0], G := gl0 }
noncomputable def F_spec_l1Cur_strike : List D → Option Out := denF c_spec_l1Cur_strike Tryd.f105
@[reducible] noncomputable def S_spec_l1Cur_strike : FS := { pm := [.box 3 2 true], rm := [.dat 0], f := F_spec_l1Cur_strike }
theorem M_spec_l1Cur_strike : Meets gl0 Tryd.prog 105 S_spec_l1Cur_strike := meets_of (P := Tryd.prog) (c := c_spec_l1Cur_strike) (fn := Tryd.f105) (pm := S_spec_l1Cur_strike.pm) (rm := S_spec_l1Cur_strike.rm) (by kernel_rfl) (lookCons M_spec_l1Cur_pick lookNil) follows_mixed Tryd.func105 (by kernel_rfl) (by kernel_rfl) rfl
/-- (*loop.example/g01054/spec.l1Cur).one -/
@[reducible] noncomputable def c_spec_l1Cur_one : Cx := { K := [.box 3 2 true, .dat 0, .no, .no, .dat 0, .ref 0, .dat 0, .dat 0, .dat 0], T := [(3, ty3)], S := [(99, S_spec_l1Cur_pick)], H := [], res := [.tmp 4], ios := [0], G := gl0 }
noncomputable def F_spec_l1Cur_one : List D → Option Out := denF c_spec_l1Cur_one Tryd.f113
@[reducible] noncomputable def S_spec_l1Cur_one : FS := { pm := [.box 3 2 true, .dat 0], rm := [.dat 0], f := F_spec_l1Cur_one }
theorem M_spec_l1Cur_one : Meets gl0 Tryd.prog 113 S_spec_l1Cur_one := meets_of (P := Tryd.prog) (c := c_spec_l1Cur_one) (fn := Tryd.f113) (pm := S_spec_l1Cur_one.pm) (rm := S_spec_l1Cur_one.rm) (by kernel_rfl) (lookCons M_spec_l1Cur_pick lookNil) follows_mixed Tryd.func113 (by kernel_rfl) (by kernel_rfl) rfl
/-- loop.example/g01054/spec.maParts -/
@[reducible] noncomputable def c_spec_maParts : Cx := { K := [.dat 0, .box 5 0 false, .own 1 0 false, .ref 1, .dat 0, .ref 1, .dat 0, .ref 1, .dat 0, .ref 1, .dat 0, .ref 1, .dat 0, .own 1 0 false], T := [(3, ty3), (25, ty25), (28, ty28)], S := [], H := [], res := [.tmp 2], ios := [], G := gl0 }
noncomputable def F_spec_maParts : List D → Option Out := denF c_spec_maParts Tryd.f101
@[reducible] noncomputable def S_spec_maParts : FS := { pm := [.dat 0], rm := [.own 1 0 false], f := F_spec_maParts }
theorem M_spec_maParts : Meets gl0 Tryd.prog 101 S_spec_maParts := meets_of (P := Tryd.prog) (c := c_spec_maParts) (fn := Tryd.f101) (pm := S_spec_maParts.pm) (rm := S_spec_maParts.rm) (by kernel_rfl) lookNil follows_mixed Tryd.func101 (by kernel_rfl) (by kernel_rfl) rfl
/-- (*loop.example/g01054/spec.l1Cur).among -/
@[reducible] noncomputable def c_spec_l1Cur_among : Cx := { K := [.box 3 2 true, .dat 2, .no, .no, .dat 0, .dat 2, .ref 0, .dat 2, .dat 0, .dat 0, .dat 2, .dat 0], T := [(3, ty3), (28, ty28)], S := [(99, S_spec_l1Cur_pick)], H := [], res := [.tmp 4], ios := [0], G := gl0 }
noncomputable def F_spec_l1Cur_among : List D → Option Out := denF c_spec_l1Cur_among Tryd.f96
@[reducible] noncomputable def S_spec_l1Cur_among : FS := { pm := [.box 3 2 true, .dat 2], rm := [.dat 0], f := F_spec_l1Cur_among }
theorem M_spec_l1Cur_among : Meets gl0 Tryd.prog 96 S_spec_l1Cur_among := meets_of (P := Tryd.prog) (c := c_spec_l1Cur_among) (fn := Tryd.f96) (pm := S_spec_l1Cur_among.pm) (rm := S_spec_l1Cur_among.rm) (by kernel_rfl) (lookCons M_spec_l1Cur_pick lookNil) follows_mixed Tryd.func96 (by kernel_rfl) (by kernel_rfl) rfl
/-- loop.example/g01054/spec.maOf -/
@[reducible] noncomputable def c_spec_maOf : Cx := { K := [.dat 2, .no, .box 5 0 false, .dat 2, .dat 2, .dat 0, .dat 2, .dat 2, .dat 0, .dat 2, .dat 2, .dat 0, .dat 2, .dat 2, .dat 0, .dat 2, .dat 2, .dat 0, .dat 0], T := [(3, ty3), (25, ty25), (28, ty28)], S := [], H := [], res := [.cell 2 25], ios := [], G := gl0 }
noncomputable def F_spec_maOf : List D → Option Out := denF c_spec_maOf Tryd.f102
@[reducible] noncomputable def S_spec_maOf : FS := { pm := [.dat 2], rm := [.dat 0], f := F_spec_maOf }
theorem M_spec_maOf : Meets gl0 Tryd.prog 102 S_spec_maOf := meets_of (P := Tryd.prog) (c := c_spec_maOf) (fn := Tryd.f102) (pm := S_spec_maOf.pm) (rm := S_spec_maOf.rm) (by kernel_rfl) lookNil follows_mixed Tryd.func102 (by kernel_rfl) (by kernel_rfl) rfl
/-- (*loop.example/g01054/spec.l1Cur).anyStrike -/
@[reducible] noncomputable def c_spec_l1Cur_anyStrike : Cx := { K := [.box 3 2 true, .no, .box 5 0 false, .box 5 0 false, .via 10, .ref 0, .dat 0, .ref 0, .dat 0, .dat 0, .own 1 0 false, .via 10, .ref 0, .dat 0, .ref 0, .dat 1, .dat 0, .ref 10, .via 10, .dat 0, .dat 0], T := [(3, ty3), (25, ty25), (28, ty28)], S := [(96, S_spec_l1Cur_among), (99, S_spec_l1Cur_pick), (101, S_spec_maParts), (102, S_spec_maOf), (105, S_spec_l1Cur_strike), (113, S_spec_l1Cur_one)], H := [], res := [.cell 2 25], ios := [0], G := gl0 }
noncomputable def F_spec_l1Cur_anyStrike : List D → Option Out := denF c_spec_l1Cur_anyStrike Tryd.f88
@[reducible] noncomputable def S_spec_l1Cur_anyStrike : FS := { pm := [.box 3 2 true], rm := [.dat 0], f := F_spec_l1Cur_anyStrike }
theorem M_spec_l1Cur_anyStrike : Meets gl0 Tryd.prog 88 S_spec_l1Cur_anyStrike := meets_of (P := Tryd.prog) (c := c_spec_l1Cur_anyStrike) (fn := Tryd.f88) (pm := S_spec_l1Cur_anyStrike.pm) (rm := S_spec_l1Cur_anyStrike.rm) (by kernel_rfl) (lookCons M_spec_l1Cur_among (lookCons M_spec_l1Cur_pick (lookCons M_spec_maParts (lookCons M_spec_maOf (lookCons M_spec_l1Cur_strike (lookCons M_spec_l1Cur_one lookNil)))))) follows_mixed Tryd.func88 (by kernel_rfl) (by kernel_rfl) rfl
/-- (*loop.example/g01054/spec.l1Cur).lower -/
@[reducible] noncomputable def c_spec_l1Cur_lower : Cx := { K := [.box 3 2 true, .dat 0, .no, .box 5 0 false, .box 5 0 false, .ref 0, .dat 0, .ref 0, .dat 0, .ref 3, .dat 0, .ref 0, .dat 0, .dat 0, .ref 3, .ref 3, .dat 0, .ref 0, .dat 0, .dat 0, .ref 3, .ref 3, .dat 0, .ref 0, .dat 0, .ref 0, .dat 0, .dat 0, .dat 0, .dat 0, .ref 3, .dat 0], T := [(3, ty3), (25, ty25)], S := [(88, S_spec_l1Cur_anyStrike), (99, S_spec_l1Cur_pick), (113, S_spec_l1Cur_one)], H := [], res := [.cell 4 25], ios := [0], G := gl0 }
noncomputable def F_spec_l1Cur_lower : List D → Option Out := denF c_spec_l1Cur_lower Tryd.f89
@[reducible] noncomputable def S_spec_l1Cur_lower : FS := { pm := [.box 3 2 true, .dat 0], rm := [.dat 0], f := F_spec_l1Cur_lower }
theorem M_spec_l1Cur_lower : Meets gl0 Tryd.prog 89 S_spec_l1Cur_lower := meets_of (P := Tryd.prog) (c := c_spec_l1Cur_lower) (fn := Tryd.f89) (pm := S_spec_l1Cur_lower.pm) (rm := S_spec_l1Cur_lower.rm) (by kernel_rfl) (lookCons M_spec_l1Cur_anyStrike (lookCons M_spec_l1Cur_pick (lookCons M_spec_l1Cur_one lookNil))) follows_mixed Tryd.func89 (by kernel_rfl) (by kernel_rfl) rfl
/-- loop.example/g01054/spec.DrawFilingsFor -/
@[reducible] noncomputable def c_spec_DrawFilingsFor : Cx := { K := [.dat 2, .no, .box 5 0 false, .box 5 0 false, .ref 8, .box 5 0 false, .dat 2, .dat 2, .box 3 2 false, .ref 8, .dat 0, .dat 0, .ref 8, .dat 0, .dat 0], T := [(3, ty3), (22, ty22), (25, ty25), (108, ty108), (110, ty110)], S := [(88, S_spec_l1Cur_anyStrike), (89, S_spec_l1Cur_lower)], H := [], res := [.cell 2 25, .cell 3 25], ios := [], G := gl0 }
noncomputable def F_spec_DrawFilingsFor : List D → Option Out := denF c_spec_DrawFilingsFor Tryd.f8
@[reducible] noncomputable def S_spec_DrawFilingsFor : FS := { pm := [.dat 2], rm := [.dat 0, .dat 0], f := F_spec_DrawFilingsFor }
theorem M_spec_DrawFilingsFor : Meets gl0 Tryd.prog 8 S_spec_DrawFilingsFor := meets_of (P := Tryd.prog) (c := c_spec_DrawFilingsFor) (fn := Tryd.f8) (pm := S_spec_DrawFilingsFor.pm) (rm := S_spec_DrawFilingsFor.rm) (by kernel_rfl) (lookCons M_spec_l1Cur_anyStrike (lookCons M_spec_l1Cur_lower lookNil)) follows_mixed Tryd.func8 (by kernel_rfl) (by kernel_rfl) rfl
/-- (loop.example/g01054/impl.Strike).parts -/
@[reducible] noncomputable def c_impl_Strike_parts : Cx := { K := [.dat 0, .box 5 0 false, .own 1 0 false, .ref 1, .dat 0, .ref 1, .dat 0, .ref 1, .dat 0, .ref 1, .dat 0, .ref 1, .dat 0, .own 1 0 false], T := [(3, ty3), (25, ty25), (28, ty28)], S := [], H := [], res := [.tmp 2], ios := [], G := gl0 }
noncomputable def F_impl_Strike_parts : List D → Option Out := denF c_impl_Strike_parts Tryd.f94
@[reducible] noncomputable def S_impl_Strike_parts : FS := { pm := [.dat 0], rm := [.own 1 0 false], f := F_impl_Strike_parts }
theorem M_impl_Strike_parts : Meets gl0 Tryd.prog 94 S_impl_Strike_parts := meets_of (P := Tryd.prog) (c := c_impl_Strike_parts) (fn := Tryd.f94) (pm := S_impl_Strike_parts.pm) (rm := S_impl_Strike_parts.rm) (by kernel_rfl) lookNil follows_mixed Tryd.func94 (by kernel_rfl) (by kernel_rfl) rfl
/-- loop.example/g01054/impl.within -/
@[reducible] noncomputable def c_impl_within : Cx := { K := [.dat 0, .dat 0, .dat 0, .no, .no, .no, .dat 0, .dat 0, .dat 0, .dat 0, .dat 0, .dat 0, .dat 0, .dat 0, .dat 0], T := [(3, ty3)], S := [], H := [], res := [.tmp 6], ios := [], G := gl0 }
noncomputable def F_impl_within : List D → Option Out := denF c_impl_within Tryd.f95
@[reducible] noncomputable def S_impl_within : FS := { pm := [.dat 0, .dat 0, .dat 0], rm := [.dat 0], f := F_impl_within }
theorem M_impl_within : Meets gl0 Tryd.prog 95 S_impl_within := meets_of (P := Tryd.prog) (c := c_impl_within) (fn := Tryd.f95) (pm := S_impl_within.pm) (rm := S_impl_within.rm) (by kernel_rfl) lookNil follows_mixed Tryd.func95 (by kernel_rfl) (by kernel_rfl) rfl
/-- loop.example/g01054/impl.IsStrike -/
@[reducible] noncomputable def c_impl_IsStrike : Cx := { K := [.dat 0, .box 5 0 false, .dat 0, .no, .dat 0, .dat 0, .dat 1, .dat 0, .dat 0, .dat 0, .dat 1, .dat 0, .dat 0, .dat 0, .dat 0, .dat 0], T := [(3, ty3), (25, ty25), (28, ty28)], S := [(94, S_impl_Strike_parts), (95, S_impl_within)], H := [(0, ([6, 7, 8], []))], res := [.tmp 2], ios := [], G := gl0 }
noncomputable def F_impl_IsStrike : List D → Option Out := denF c_impl_IsStrike Tryd.f14
@[reducible] noncomputable def S_impl_IsStrike : FS := { pm := [.dat 0], rm := [.dat 0], f := F_impl_IsStrike }
theorem M_impl_IsStrike : Meets gl0 Tryd.prog 14 S_impl_IsStrike := meets_of (P := Tryd.prog) (c := c_impl_IsStrike) (fn := Tryd.f14) (pm := S_impl_IsStrike.pm) (rm := S_impl_IsStrike.rm) (by kernel_rfl) (lookCons M_impl_Strike_parts (lookCons M_impl_within lookNil)) follows_mixed Tryd.func14 (by kernel_rfl) (by kernel_rfl) rfl
/-- (loop.example/g01054/impl.Strike).filings -/
@[reducible] noncomputable def c_impl_Strike_filings : Cx := { K := [.dat 0, .dat 0, .box 5 0 false, .box 5 0 false, .own 1 0 false, .dat 0, .own 1 0 false, .dat 1, .dat 0, .dat 0, .dat 0, .own 1 0 false, .dat 0, .dat 1, .ref 2, .dat 0, .ref 3, .dat 0, .dat 0, .dat 0, .dat 1, .dat 0, .dat 0, .dat 0, .dat 0, .dat 1, .dat 0, .own 1 0 false, .dat 0, .dat 1, .dat 0, .dat 1, .dat 0, .dat 0, .dat 1, .own 1 0 false, .dat 0, .dat 0, .dat 0, .dat 1, .dat 0, .dat 1, .dat 0, .dat 0, .dat 0, .dat 0, .own 1 0 false, .dat 0], T := [(3, ty3), (25, ty25), (28, ty28)], S := [(94, S_impl_Strike_parts)], H := [(0, ([6, 7, 8, 20, 21, 22], [6, 8]))], res := [.tmp 4, .tmp 5], ios := [], G := gl0 }
noncomputable def F_impl_Strike_filings : List D → Option Out := denF c_impl_Strike_filings Tryd.f90
@[reducible] noncomputable def S_impl_Strike_filings : FS := { pm := [.dat 0, .dat 0], rm := [.own 1 0 false, .dat 0], f := F_impl_Strike_filings }
theorem M_impl_Strike_filings : Meets gl0 Tryd.prog 90 S_impl_Strike_filings := meets_of (P := Tryd.prog) (c := c_impl_Strike_filings) (fn := Tryd.f90) (pm := S_impl_Strike_filings.pm) (rm := S_impl_Strike_filings.rm) (by kernel_rfl) (lookCons M_impl_Strike_parts lookNil) follows_mixed Tryd.func90 (by kernel_rfl) (by kernel_rfl) rfl
/-- loop.example/g01054/impl.FilingsFor -/
@[reducible] noncomputable def c_impl_FilingsFor : Cx := { K := [.dat 0, .dat 0, .box 5 0 false, .box 5 0 false, .own 1 0 false, .dat 0, .own 1 0 false, .dat 0, .dat 0, .dat 0, .dat 0, .dat 0, .dat 0, .dat 0, .dat 0, .dat 0, .own 1 0 false, .tup [.own 1 0 false, .dat 0], .dat 0, .dat 0, .tup [.own 1 0 false, .dat 0], .own 1 0 false, .dat 0, .dat 0, .dat 0, .own 1 0 false, .own 1 0 false], T := [(3, ty3), (25, ty25), (28, ty28)], S := [(14, S_impl_IsStrike), (90, S_impl_Strike_filings)], H := [], res := [.tmp 4, .tmp 5], ios := [], G := gl0 }
noncomputable def F_impl_FilingsFor : List D → Option Out := denF c_impl_FilingsFor Tryd.f9
@[reducible] noncomputable def S_impl_FilingsFor : FS := { pm := [.dat 0, .dat 0], rm := [.own 1 0 false, .dat 0], f := F_impl_FilingsFor }
theorem M_impl_FilingsFor : Meets gl0 Tryd.prog 9 S_impl_FilingsFor := meets_of (P := Tryd.prog) (c := c_impl_FilingsFor) (fn := Tryd.f9) (pm := S_impl_FilingsFor.pm) (rm := S_impl_FilingsFor.rm) (by kernel_rfl) (lookCons M_impl_IsStrike (lookCons M_impl_Strike_filings lookNil)) follows_mixed Tryd.func9 (by kernel_rfl) (by kernel_rfl) rfl
/-- loop.example/g01054/spec.l1In -/
@[reducible] noncomputable def c_spec_l1In : Cx := { K := [.dat 0, .dat 0, .dat 0, .no, .no, .no, .dat 0, .dat 0, .dat 0, .dat 0, .dat 0, .dat 0, .dat 0, .dat 0, .dat 0], T := [(3, ty3)], S := [], H := [], res := [.tmp 6], ios := [], G := gl0 }
noncomputable def F_spec_l1In : List D → Option Out := denF c_spec_l1In Tryd.f97
@[reducible] noncomputable def S_spec_l1In : FS := { pm := [.dat 0, .dat 0, .dat 0], rm := [.dat 0], f := F_spec_l1In }
theorem M_spec_l1In : Meets gl0 Tryd.prog 97 S_spec_l1In := meets_of (P := Tryd.prog) (c := c_spec_l1In) (fn := Tryd.f97) (pm := S_spec_l1In.pm) (rm := S_spec_l1In.rm) (by kernel_rfl) lookNil follows_mixed Tryd.func97 (by kernel_rfl) (by kernel_rfl) rfl
/-- loop.example/g01054/spec.l1All -/
@[reducible] noncomputable def c_spec_l1All : Cx := { K := [.dat 2, .dat 0, .dat 0, .no, .no, .no, .dat 0, .no, .dat 0, .dat 2, .dat 0, .dat 0, .dat 0, .dat 2, .dat 0, .dat 0, .dat 0, .dat 0, .dat 0, .dat 0, .dat 0], T := [(3, ty3), (28, ty28)], S := [(97, S_spec_l1In)], H := [(0, ([1, 2, 9, 10, 11], []))], res := [.tmp 6], ios := [], G := gl0 }
noncomputable def F_spec_l1All : List D → Option Out := denF c_spec_l1All Tryd.f139
@[reducible] noncomputable def S_spec_l1All : FS := { pm := [.dat 2, .dat 0, .dat 0], rm := [.dat 0], f := F_spec_l1All }
theorem M_spec_l1All : Meets gl0 Tryd.prog 139 S_spec_l1All := meets_of (P := Tryd.prog) (c := c_spec_l1All) (fn := Tryd.f139) (pm := S_spec_l1All.pm) (rm := S_spec_l1All.rm) (by kernel_rfl) (lookCons M_spec_l1In lookNil) follows_mixed Tryd.func139 (by kernel_rfl) (by kernel_rfl) rfl
/-- loop.example/g01054/spec.maGood -/
@[reducible] noncomputable def c_spec_maGood : Cx := { K := [.dat 0, .box 5 0 false, .dat 0, .dat 0, .dat 1, .dat 0], T := [(3, ty3), (25, ty25)], S := [(101, S_spec_maParts), (139, S_spec_l1All)], H := [], res := [.tmp 2], ios := [], G := gl0 }
noncomputable def F_spec_maGood : List D → Option Out := denF c_spec_maGood Tryd.f91
@[reducible] noncomputable def S_spec_maGood : FS := { pm := [.dat 0], rm := [.dat 0], f := F_spec_maGood }
theorem M_spec_maGood : Meets gl0 Tryd.prog 91 S_spec_maGood := meets_of (P := Tryd.prog) (c := c_spec_maGood) (fn := Tryd.f91) (pm := S_spec_maGood.pm) (rm := S_spec_maGood.rm) (by kernel_rfl) (lookCons M_spec_maParts (lookCons M_spec_l1All lookNil)) follows_mixed Tryd.func91 (by kernel_rfl) (by kernel_rfl) rfl
/-- loop.example/g01054/spec.maCan -/
@[reducible] noncomputable def c_spec_maCan : Cx := { K := [.dat 0, .dat 0, .box 5 0 false, .box 5 0 false, .dat 0, .dat 1, .dat 0, .dat 0, .dat 0, .dat 1, .dat 0, .dat 1, .dat 0, .dat 0, .dat 0, .dat 0, .dat 1, .dat 0, .dat 0, .dat 1, .dat 0, .dat 1, .dat 0, .dat 0, .dat 0, .ref 2, .dat 0, .ref 3, .dat 0, .dat 0], T := [(3, ty3), (25, ty25), (28, ty28)], S := [(101, S_spec_maParts)], H := [(0, ([2, 3, 5, 11, 12, 13], [2, 3]))], res := [.tmp 4], ios := [], G := gl0 }
noncomputable def F_spec_maCan : List D → Option Out := denF c_spec_maCan Tryd.f92
@[reducible] noncomputable def S_spec_maCan : FS := { pm := [.dat 0, .dat 0], rm := [.dat 0], f := F_spec_maCan }
theorem M_spec_maCan : Meets gl0 Tryd.prog 92 S_spec_maCan := meets_of (P := Tryd.prog) (c := c_spec_maCan) (fn := Tryd.f92) (pm := S_spec_maCan.pm) (rm := S_spec_maCan.rm) (by kernel_rfl) (lookCons M_spec_maParts lookNil) follows_mixed Tryd.func92 (by kernel_rfl) (by kernel_rfl) rfl
/-- loop.example/g01054/spec.maFilings -/
@[reducible] noncomputable def c_spec_maFilings : Cx := { K := [.dat 0, .dat 0, .box 5 0 false, .box 5 0 false, .own 1 0 false, .own 1 0 false, .dat 1, .dat 0, .dat 0, .dat 0, .dat 1, .dat 0, .dat 1, .dat 0, .dat 0, .dat 0, .dat 0, .dat 1, .dat 0, .own 1 0 false, .dat 0, .dat 1, .dat 0, .dat 1, .dat 0, .dat 0, .dat 1, .own 1 0 false, .dat 0, .own 1 0 false], T := [(3, ty3), (25, ty25), (28, ty28)], S := [(101, S_spec_maParts)], H := [(0, ([5, 6, 12, 13, 14], [5]))], res := [.tmp 4], ios := [], G := gl0 }
noncomputable def F_spec_maFilings : List D → Option Out := denF c_spec_maFilings Tryd.f93
@[reducible] noncomputable def S_spec_maFilings : FS := { pm := [.dat 0, .dat 0], rm := [.own 1 0 false], f := F_spec_maFilings }
theorem M_spec_maFilings : Meets gl0 Tryd.prog 93 S_spec_maFilings := meets_of (P := Tryd.prog) (c := c_spec_maFilings) (fn := Tryd.f93) (pm := S_spec_maFilings.pm) (rm := S_spec_maFilings.rm) (by kernel_rfl) (lookCons M_spec_maParts lookNil) follows_mixed Tryd.func93 (by kernel_rfl) (by kernel_rfl) rfl
/-- loop.example/g01054/spec.FilingsFor -/
@[reducible] noncomputable def c_spec_FilingsFor : Cx := { K := [.dat 0, .dat 0, .box 5 0 false, .box 5 0 false, .own 1 0 false, .dat 0, .dat 0, .dat 0, .dat 0, .dat 0, .dat 0, .dat 0, .dat 0, .dat 0, .dat 0, .dat 0, .dat 0, .dat 0, .dat 0, .dat 0, .dat 0, .dat 0, .own 1 0 false], T := [(3, ty3), (25, ty25), (28, ty28)], S := [(91, S_spec_maGood), (92, S_spec_maCan), (93, S_spec_maFilings)], H := [], res := [.tmp 4, .tmp 5], ios := [], G := gl0 }
noncomputable def F_spec_FilingsFor : List D → Option Out := denF c_spec_FilingsFor Tryd.f10
@[reducible] noncomputable def S_spec_FilingsFor : FS := { pm := [.dat 0, .dat 0], rm := [.own 1 0 false, .dat 0], f := F_spec_FilingsFor }
theorem M_spec_FilingsFor : Meets gl0 Tryd.prog 10 S_spec_FilingsFor := meets_of (P := Tryd.prog) (c := c_spec_FilingsFor) (fn := Tryd.f10) (pm := S_spec_FilingsFor.pm) (rm := S_spec_FilingsFor.rm) (by kernel_rfl) (lookCons M_spec_maGood (lookCons M_spec_maCan (lookCons M_spec_maFilings lookNil))) follows_mixed Tryd.func10 (by kernel_rfl) (by kernel_rfl) rfl
/-- loop.example/g01054/impl.CanBeJustified -/
@[reducible] noncomputable def c_impl_CanBeJustified : Cx := { K := [.dat 0, .dat 0, .box 5 0 false, .box 5 0 false, .dat 0, .dat 0, .dat 1, .dat 0, .dat 0, .dat 0, .dat 0, .dat 0, .dat 0, .dat 0, .dat 0, .dat 0, .tup [.own 1 0 false, .dat 0], .dat 0, .dat 0, .tup [.own 1 0 false, .dat 0], .dat 1, .dat 0, .dat 0], T := [(3, ty3), (25, ty25)], S := [(14, S_impl_IsStrike), (90, S_impl_Strike_filings)], H := [], res := [.tmp 4, .tmp 5], ios := [], G := gl0 }
noncomputable def F_impl_CanBeJustified : List D → Option Out := denF c_impl_CanBeJustified Tryd.f11
@[reducible] noncomputable def S_impl_CanBeJustified : FS := { pm := [.dat 0, .dat 0], rm := [.dat 0, .dat 0], f := F_impl_CanBeJustified }
theorem M_impl_CanBeJustified : Meets gl0 Tryd.prog 11 S_impl_CanBeJustified := meets_of (P := Tryd.prog) (c := c_impl_CanBeJustified) (fn := Tryd.f11) (pm := S_impl_CanBeJustified.pm) (rm := S_impl_CanBeJustified.rm) (by kernel_rfl) (lookCons M_impl_IsStrike (lookCons M_impl_Strike_filings lookNil)) follows_mixed Tryd.func11 (by kernel_rfl) (by kernel_rfl) rfl
/-- loop.example/g01054/spec.CanBeJustified -/
@[reducible] noncomputable def c_spec_CanBeJustified : Cx := { K := [.dat 0, .dat 0, .box 5 0 false, .box 5 0 false, .dat 0, .dat 0, .dat 0, .dat 0, .dat 0, .dat 0, .dat 0, .dat 0, .dat 0, .dat 0, .dat 0, .dat 0, .dat 0], T := [(3, ty3), (25, ty25)], S := [(91, S_spec_maGood), (92, S_spec_maCan)], H := [], res := [.tmp 4, .tmp 5], ios := [], G := gl0 }
noncomputable def F_spec_CanBeJustified : List D → Option Out := denF c_spec_CanBeJustified Tryd.f12
@[reducible] noncomputable def S_spec_CanBeJustified : FS := { pm := [.dat 0, .dat 0], rm := [.dat 0, .dat 0], f := F_spec_CanBeJustified }
theorem M_spec_CanBeJustified : Meets gl0 Tryd.prog 12 S_spec_CanBeJustified := meets_of (P := Tryd.prog) (c := c_spec_CanBeJustified) (fn := Tryd.f12) (pm := S_spec_CanBeJustified.pm) (rm := S_spec_CanBeJustified.rm) (by kernel_rfl) (lookCons M_spec_maGood (lookCons M_spec_maCan lookNil)) follows_mixed Tryd.func12 (by kernel_rfl) (by kernel_rfl) rfl
/-- loop.example/g01054/laws.sameInts -/
@[reducible] noncomputable def c_laws_sameInts : Cx := { K := [.dat 2, .dat 2, .no, .no, .dat 0, .dat 0, .dat 2, .dat 0, .dat 2, .dat 0, .dat 0, .dat 2, .dat 0, .dat 0, .dat 0, .dat 0, .dat 2, .dat 0, .dat 2, .dat 0, .dat 2, .dat 0, .dat 2, .dat 0, .dat 0, .dat 0], T := [(3, ty3), (28, ty28)], S := [], H := [(0, ([0, 1, 12, 13], []))], res := [.tmp 4], ios := [], G := gl0 }
noncomputable def F_laws_sameInts : List D → Option Out := denF c_laws_sameInts Tryd.f13
@[reducible] noncomputable def S_laws_sameInts : FS := { pm := [.dat 2, .dat 2], rm := [.dat 0], f := F_laws_sameInts }
theorem M_laws_sameInts : Meets gl0 Tryd.prog 13 S_laws_sameInts := meets_of (P := Tryd.prog) (c := c_laws_sameInts) (fn := Tryd.f13) (pm := S_laws_sameInts.pm) (rm := S_laws_sameInts.rm) (by kernel_rfl) lookNil follows_mixed Tryd.func13 (by kernel_rfl) (by kernel_rfl) rfl
/-- loop.example/g01054/spec.DrawCastsLeft -/
@[reducible] noncomputable def c_spec_DrawCastsLeft : Cx := { K := [.dat 2, .no, .box 5 0 false, .box 5 0 false, .dat 0, .ref 9, .box 5 0 false, .dat 2, .dat 2, .box 3 2 false, .ref 9, .dat 0, .dat 0, .ref 9, .dat 0, .dat 0, .ref 9, .ref 9, .dat 1, .dat 0, .dat 1, .dat 0], T := [(3, ty3), (22, ty22), (25, ty25), (28, ty28), (108, ty108), (110, ty110)], S := [(88, S_spec_l1Cur_anyStrike), (89, S_spec_l1Cur_lower), (96, S_spec_l1Cur_among)], H := [], res := [.cell 2 25, .cell 3 25, .tmp 4], ios := [], G := gl0 }
noncomputable def F_spec_DrawCastsLeft : List D → Option Out := denF c_spec_DrawCastsLeft Tryd.f15
@[reducible] noncomputable def S_spec_DrawCastsLeft : FS := { pm := [.dat 2], rm := [.dat 0, .dat 0, .dat 0], f := F_spec_DrawCastsLeft }
theorem M_spec_DrawCastsLeft : Meets gl0 Tryd.prog 15 S_spec_DrawCastsLeft := meets_of (P := Tryd.prog) (c := c_spec_DrawCastsLeft) (fn := Tryd.f15) (pm := S_spec_DrawCastsLeft.pm) (rm := S_spec_DrawCastsLeft.rm) (by kernel_rfl) (lookCons M_spec_l1Cur_anyStrike (lookCons M_spec_l1Cur_lower (lookCons M_spec_l1Cur_among lookNil))) follows_mixed Tryd.func15 (by kernel_rfl) (by kernel_rfl) rfl
/-- loop.example/g01054/impl.CastsLeft -/
@[reducible] noncomputable def c_impl_CastsLeft : Cx := { K := [.dat 0, .dat 0, .dat 0, .box 5 0 false, .box 5 0 false, .no, .dat 0, .dat 0, .dat 0, .dat 0, .ref 4, .dat 0, .dat 0, .ref 3, .dat 0, .dat 0, .dat 0, .dat 0, .dat 0, .dat 0, .dat 0, .dat 0, .dat 0, .dat 0, .dat 0, .dat 0, .dat 0, .dat 0, .dat 0, .dat 0, .dat 0, .dat 0, .dat 0, .dat 0, .dat 0, .dat 0, .dat 0], T := [(3, ty3), (25, ty25)], S := [(14, S_impl_IsStrike), (95, S_impl_within)], H := [], res := [.tmp 6, .tmp 7], ios := [], G := gl0 }
noncomputable def F_impl_CastsLeft : List D → Option Out := denF c_impl_CastsLeft Tryd.f16
@[reducible] noncomputable def S_impl_CastsLeft : FS := { pm := [.dat 0, .dat 0, .dat 0], rm := [.dat 0, .dat 0], f := F_impl_CastsLeft }
theorem M_impl_CastsLeft : Meets gl0 Tryd.prog 16 S_impl_CastsLeft := meets_of (P := Tryd.prog) (c := c_impl_CastsLeft) (fn := Tryd.f16) (pm := S_impl_CastsLeft.pm) (rm := S_impl_CastsLeft.rm) (by kernel_rfl) (lookCons M_impl_IsStrike (lookCons M_impl_within lookNil)) follows_mixed Tryd.func16 (by kernel_rfl) (by kernel_rfl) rfl
/-- loop.example/g01054/spec.l1Least -/
@[reducible] noncomputable def c_spec_l1Least : Cx := { K := [.dat 0, .dat 0, .no, .no, .dat 0, .dat 0, .dat 0, .dat 0, .dat 0, .dat 0], T := [(3, ty3)], S := [], H := [], res := [.tmp 4], ios := [], G := gl0 }
noncomputable def F_spec_l1Least : List D → Option Out := denF c_spec_l1Least Tryd.f98
@[reducible] noncomputable def S_spec_l1Least : FS := { pm := [.dat 0, .dat 0], rm := [.dat 0], f := F_spec_l1Least }
theorem M_spec_l1Least : Meets gl0 Tryd.prog 98 S_spec_l1Least := meets_of (P := Tryd.prog) (c := c_spec_l1Least) (fn := Tryd.f98) (pm := S_spec_l1Least.pm) (rm := S_spec_l1Least.rm) (by kernel_rfl) lookNil follows_mixed Tryd.func98 (by kernel_rfl) (by kernel_rfl) rfl
/-- loop.example/g01054/spec.CastsLeft -/
@[reducible] noncomputable def c_spec_CastsLeft : Cx := { K := [.dat 0, .dat 0, .dat 0, .box 5 0 false, .box 5 0 false, .no, .dat 0, .dat 0, .dat 0, .dat 0, .dat 0, .dat 0, .dat 0, .dat 0, .dat 0, .dat 0, .dat 0, .dat 0, .dat 0, .dat 0, .dat 0, .dat 0, .ref 3, .dat 0, .ref 4, .dat 0, .dat 0, .dat 0, .dat 0, .dat 0, .ref 4, .dat 0, .dat 0, .dat 0, .ref 3, .dat 0, .dat 0, .dat 0, .dat 0, .dat 0], T := [(3, ty3), (25, ty25)], S := [(91, S_spec_maGood), (97, S_spec_l1In), (98, S_spec_l1Least)], H := [], res := [.tmp 6, .tmp 7], ios := [], G := gl0 }
noncomputable def F_spec_CastsLeft : List D → Option Out := denF c_spec_CastsLeft Tryd.f17
@[reducible] noncomputable def S_spec_CastsLeft : FS := { pm := [.dat 0, .dat 0, .dat 0], rm := [.dat 0, .dat 0], f := F_spec_CastsLeft }
theorem M_spec_CastsLeft : Meets gl0 Tryd.prog 17 S_spec_CastsLeft := meets_of (P := Tryd.prog) (c := c_spec_CastsLeft) (fn := Tryd.f17) (pm := S_spec_CastsLeft.pm) (rm := S_spec_CastsLeft.rm) (by kernel_rfl) (lookCons M_spec_maGood (lookCons M_spec_l1In (lookCons M_spec_l1Least lookNil))) follows_mixed Tryd.func17 (by kernel_rfl) (by kernel_rfl) rfl
/-- loop.example/g01054/impl.DepthAfter -/
@[reducible] noncomputable def c_impl_DepthAfter : Cx := { K := [.dat 0, .dat 0, .box 5 0 false, .no, .dat 0, .dat 0, .dat 0, .dat 0, .dat 0, .dat 0, .dat 0, .dat 0, .dat 0, .dat 0, .ref 2, .dat 0, .dat 0, .dat 0, .dat 0], T := [(3, ty3), (25, ty25)], S := [(14, S_impl_IsStrike), (95, S_impl_within)], H := [], res := [.tmp 4, .tmp 5], ios := [], G := gl0 }
noncomputable def F_impl_DepthAfter : List D → Option Out := denF c_impl_DepthAfter Tryd.f18
@[reducible] noncomputable def S_impl_DepthAfter : FS := { pm := [.dat 0, .dat 0], rm := [.dat 0, .dat 0], f := F_impl_DepthAfter }
theorem M_impl_DepthAfter : Meets gl0 Tryd.prog 18 S_impl_DepthAfter := meets_of (P := Tryd.prog) (c := c_impl_DepthAfter) (fn := Tryd.f18) (pm := S_impl_DepthAfter.pm) (rm := S_impl_DepthAfter.rm) (by kernel_rfl) (lookCons M_impl_IsStrike (lookCons M_impl_within lookNil)) follows_mixed Tryd.func18 (by kernel_rfl) (by kernel_rfl) rfl
/-- loop.example/g01054/spec.DrawFileStrike -/
@[reducible] noncomputable def c_spec_DrawFileStrike : Cx := { K := [.dat 2, .no, .box 5 0 false, .dat 0, .dat 0, .ref 8, .dat 2, .dat 2, .box 3 2 false, .ref 8, .dat 0, .ref 8, .dat 0, .ref 8, .dat 0, .dat 0, .dat 0, .ref 8, .ref 8, .dat 1, .dat 0, .dat 1, .dat 0], T := [(3, ty3), (22, ty22), (25, ty25), (28, ty28), (108, ty108), (110, ty110)], S := [(88, S_spec_l1Cur_anyStrike), (96, S_spec_l1Cur_among), (99, S_spec_l1Cur_pick)], H := [], res := [.cell 2 25, .tmp 3, .tmp 4], ios := [], G := gl0 }
noncomputable def F_spec_DrawFileStrike : List D → Option Out := denF c_spec_DrawFileStrike Tryd.f19
@[reducible] noncomputable def S_spec_DrawFileStrike : FS := { pm := [.dat 2], rm := [.dat 0, .dat 0, .dat 0], f := F_spec_DrawFileStrike }
theorem M_spec_DrawFileStrike : Meets gl0 Tryd.prog 19 S_spec_DrawFileStrike := meets_of (P := Tryd.prog) (c := c_spec_DrawFileStrike) (fn := Tryd.f19) (pm := S_spec_DrawFileStrike.pm) (rm := S_spec_DrawFileStrike.rm) (by kernel_rfl) (lookCons M_spec_l1Cur_anyStrike (lookCons M_spec_l1Cur_among (lookCons M_spec_l1Cur_pick lookNil))) follows_mixed Tryd.func19 (by kernel_rfl) (by kernel_rfl) rfl
/-- loop.example/g01054/impl.strikeOf -/
@[reducible] noncomputable def c_impl_strikeOf : Cx := { K := [.dat 2, .no, .box 5 0 false, .dat 2, .dat 2, .dat 0, .dat 2, .dat 2, .dat 0, .dat 2, .dat 2, .dat 0, .dat 2, .dat 2, .dat 0, .dat 2, .dat 2, .dat 0, .dat 0], T := [(3, ty3), (25, ty25), (28, ty28)], S := [], H := [], res := [.cell 2 25], ios := [], G := gl0 }
noncomputable def F_impl_strikeOf : List D → Option Out := denF c_impl_strikeOf Tryd.f100
@[reducible] noncomputable def S_impl_strikeOf : FS := { pm := [.dat 2], rm := [.dat 0], f := F_impl_strikeOf }
theorem M_impl_strikeOf : Meets gl0 Tryd.prog 100 S_impl_strikeOf := meets_of (P := Tryd.prog) (c := c_impl_strikeOf) (fn := Tryd.f100) (pm := S_impl_strikeOf.pm) (rm := S_impl_strikeOf.rm) (by kernel_rfl) lookNil follows_mixed Tryd.func100 (by kernel_rfl) (by kernel_rfl) rfl
/-- loop.example/g01054/impl.FileStrike -/
@[reducible] noncomputable def c_impl_FileStrike : Cx := { K := [.dat 0, .dat 0, .dat 0, .box 5 0 false, .no, .no, .box 5 0 false, .dat 0, .via 29, .box 5 0 false, .dat 0, .dat 0, .dat 0, .dat 0, .dat 0, .dat 0, .dat 0, .dat 0, .dat 0, .dat 0, .dat 0, .dat 0, .dat 0, .dat 0, .dat 0, .dat 0, .dat 0, .dat 0, .dat 0, .own 1 0 false, .via 29, .dat 0, .ref 29, .dat 0, .dat 0, .dat 0, .ref 29, .via 29, .dat 0, .dat 0, .dat 0, .dat 0, .dat 0, .dat 0], T := [(3, ty3), (25, ty25), (28, ty28)], S := [(14, S_impl_IsStrike), (94, S_impl_Strike_parts), (95, S_impl_within), (100, S_impl_strikeOf)], H := [], res := [.cell 6 25, .tmp 7], ios := [], G := gl0 }
noncomputable def F_impl_FileStrike : List D → Option Out := denF c_impl_FileStrike Tryd.f20
@[reducible] noncomputable def S_impl_FileStrike : FS := { pm := [.dat 0, .dat 0, .dat 0], rm := [.dat 0, .dat 0], f := F_impl_FileStrike }
theorem M_impl_FileStrike : Meets gl0 Tryd.prog 20 S_impl_FileStrike := meets_of (P := Tryd.prog) (c := c_impl_FileStrike) (fn := Tryd.f20) (pm := S_impl_FileStrike.pm) (rm := S_impl_FileStrike.rm) (by kernel_rfl) (lookCons M_impl_IsStrike (lookCons M_impl_Strike_parts (lookCons M_impl_within (lookCons M_impl_strikeOf lookNil)))) follows_mixed Tryd.func20 (by kernel_rfl) (by kernel_rfl) rfl
/-- loop.example/g01054/spec.FileStrike -/
@[reducible] noncomputable def c_spec_FileStrike : Cx := { K := [.dat 0, .dat 0, .dat 0, .box 5 0 false, .no, .no, .box 5 0 false, .dat 0, .via 28, .dat 0, .dat 0, .dat 0, .dat 0, .dat 0, .dat 0, .dat 0, .dat 0, .dat 0, .dat 0, .dat 0, .dat 0, .dat 0, .dat 0, .dat 0, .dat 0, .dat 0, .dat 0, .dat 0, .own 1 0 false, .via 28, .dat 0, .ref 28, .dat 0, .dat 0, .dat 0, .ref 28, .via 28, .dat 0, .dat 0, .dat 0, .dat 0, .via 28, .dat 0], T := [(3, ty3), (25, ty25), (28, ty28)], S := [(91, S_spec_maGood), (97, S_spec_l1In), (101, S_spec_maParts), (102, S_spec_maOf)], H := [], res := [.cell 6 25, .tmp 7], ios := [], G := gl0 }
noncomputable def F_spec_FileStrike : List D → Option Out := denF c_spec_FileStrike Tryd.f21
@[reducible] noncomputable def S_spec_FileStrike : FS := { pm := [.dat 0, .dat 0, .dat 0], rm := [.dat 0, .dat 0], f := F_spec_FileStrike }
theorem M_spec_FileStrike : Meets gl0 Tryd.prog 21 S_spec_FileStrike := meets_of (P := Tryd.prog) (c := c_spec_FileStrike) (fn := Tryd.f21) (pm := S_spec_FileStrike.pm) (rm := S_spec_FileStrike.rm) (by kernel_rfl) (lookCons M_spec_maGood (lookCons M_spec_l1In (lookCons M_spec_maParts (lookCons M_spec_maOf lookNil)))) follows_mixed Tryd.func21 (by kernel_rfl) (by kernel_rfl) rfl
/-- loop.example/g01054/impl.CentreStrike -/
@[reducible] noncomputable def c_impl_CentreStrike : Cx := { K := [.dat 0, .box 5 0 false, .box 5 0 false, .dat 0, .dat 0, .dat 0, .dat 0, .dat 0, .dat 0, .ref 1, .dat 0, .ref 1, .dat 0, .dat 0, .dat 0, .dat 0, .ref 1, .ref 1, .dat 0], T := [(3, ty3), (25, ty25)], S := [(14, S_impl_IsStrike)], H := [], res := [.cell 2 25, .tmp 3], ios := [], G := gl0 }
noncomputable def F_impl_CentreStrike : List D → Option Out := denF c_impl_CentreStrike Tryd.f22
@[reducible] noncomputable def S_impl_CentreStrike : FS := { pm := [.dat 0], rm := [.dat 0, .dat 0], f := F_impl_CentreStrike }
theorem M_impl_CentreStrike : Meets gl0 Tryd.prog 22 S_impl_CentreStrike := meets_of (P := Tryd.prog) (c := c_impl_CentreStrike) (fn := Tryd.f22) (pm := S_impl_CentreStrike.pm) (rm := S_impl_CentreStrike.rm) (by kernel_rfl) (lookCons M_impl_IsStrike lookNil) follows_mixed Tryd.func22 (by kernel_rfl) (by kernel_rfl) rfl
/-- loop.example/g01054/spec.CentreStrike -/
@[reducible] noncomputable def c_spec_CentreStrike : Cx := { K := [.dat 0, .box 5 0 false, .box 5 0 false, .dat 0, .dat 0, .dat 0, .dat 0, .dat 0, .dat 0, .ref 1, .dat 0, .ref 1, .dat 0, .dat 0, .dat 0, .ref 1, .dat 0, .ref 1, .dat 0], T := [(3, ty3), (25, ty25)], S := [(91, S_spec_maGood), (98, S_spec_l1Least)], H := [], res := [.cell 2 25, .tmp 3], ios := [], G := gl0 }
noncomputable def F_spec_CentreStrike : List D → Option Out := denF c_spec_CentreStrike Tryd.f23
@[reducible] noncomputable def S_spec_CentreStrike : FS := { pm := [.dat 0], rm := [.dat 0, .dat 0], f := F_spec_CentreStrike }
theorem M_spec_CentreStrike : Meets gl0 Tryd.prog 23 S_spec_CentreStrike := meets_of (P := Tryd.prog) (c := c_spec_CentreStrike) (fn := Tryd.f23) (pm := S_spec_CentreStrike.pm) (rm := S_spec_CentreStrike.rm) (by kernel_rfl) (lookCons M_spec_maGood (lookCons M_spec_l1Least lookNil)) follows_mixed Tryd.func23 (by kernel_rfl) (by kernel_rfl) rfl
/-- loop.example/g01054/impl.join -/
@[reducible] noncomputable def c_impl_join : Cx := { K := [.dat 2, .dat 0, .no, .no, .dat 0, .own 1 0 false, .no, .dat 0, .own 1 0 false, .dat 2, .dat 0, .dat 0, .dat 0, .dat 2, .dat 0, .own 1 0 false, .dat 0, .dat 0, .dat 1, .own 1 0 false, .dat 0, .via 5, .dat 0, .dat 0], T := [(3, ty3), (9, ty9), (28, ty28), (93, ty93)], S := [(150, S_strings_Join), (154, S_strconv_Itoa)], H := [(0, ([1, 5, 9, 10, 11], [1, 5]))], res := [.tmp 4], ios := [], G := gl1 }
noncomputable def F_impl_join : List D → Option Out := denF c_impl_join Tryd.f103
@[reducible] noncomputable def S_impl_join : FS := { pm := [.dat 2, .dat 0], rm := [.dat 0], f := F_impl_join }
theorem M_impl_join : Meets gl1 Tryd.prog 103 S_impl_join := meets_of (P := Tryd.prog) (c := c_impl_join) (fn := Tryd.f103) (pm := S_impl_join.pm) (rm := S_impl_join.rm) (by kernel_rfl) (lookCons (meets_mono gl01 M_strings_Join) (lookCons M_strconv_Itoa lookNil)) follows_mixed Tryd.func103 (by kernel_rfl) (by kernel_rfl) rfl
/-- loop.example/g01054/impl.StrikeText -/
@[reducible] noncomputable def c_impl_StrikeText : Cx := { K := [.dat 0, .box 5 0 false, .dat 0, .dat 0, .dat 0, .dat 0, .dat 0, .dat 0, .dat 1, .dat 0], T := [(3, ty3), (25, ty25)], S := [(14, S_impl_IsStrike), (94, S_impl_Strike_parts), (103, S_impl_join)], H := [], res := [.tmp 2, .tmp 3], ios := [], G := gl1 }
noncomputable def F_impl_StrikeText : List D → Option Out := denF c_impl_StrikeText Tryd.f24
@[reducible] noncomputable def S_impl_StrikeText : FS := { pm := [.dat 0], rm := [.dat 0, .dat 0], f := F_impl_StrikeText }
theorem M_impl_StrikeText : Meets gl1 Tryd.prog 24 S_impl_StrikeText := meets_of (P := Tryd.prog) (c := c_impl_StrikeText) (fn := Tryd.f24) (pm := S_impl_StrikeText.pm) (rm := S_impl_StrikeText.rm) (by kernel_rfl) (lookCons (meets_mono gl01 M_impl_IsStrike) (lookCons (meets_mono gl01 M_impl_Strike_parts) (lookCons M_impl_join lookNil))) follows_mixed Tryd.func24 (by kernel_rfl) (by kernel_rfl) rfl
/-- loop.example/g01054/spec.l1Num -/
@[reducible] noncomputable def c_spec_l1Num (k : List D → Option Out) : Cx := { K := [.dat 0, .no, .dat 0, .dat 0, .dat 0, .dat 0, .dat 0, .dat 0, .dat 1, .dat 0, .dat 0, .dat 0, .dat 0, .dat 0, .dat 0, .dat 0, .dat 0, .dat 1, .dat 0, .dat 0], T := [(3, ty3), (5, ty5), (9, ty9), (22, ty22)], S := [(155, { pm := [.dat 0], rm := [.dat 0], f := k })], H := [], res := [.tmp 2], ios := [], G := gl0 }
noncomputable def R_spec_l1Num : Nat → List D → Option Out
  | 0, _ => none
  | n + 1, ds => denF (c_spec_l1Num (R_spec_l1Num n)) Tryd.f155 ds
noncomputable def F_spec_l1Num : List D → Option Out := recF R_spec_l1Num
@[reducible] noncomputable def S_spec_l1Num : FS := { pm := [.dat 0], rm := [.dat 0], f := F_spec_l1Num }
theorem MR_spec_l1Num : ∀ n : Nat, Meets gl0 Tryd.prog 155 { pm := [.dat 0], rm := [.dat 0], f := R_spec_l1Num n }
  | 0 => meets_none (fun _ => rfl)
  | n + 1 => by
    have ih := MR_spec_l1Num n
    exact meets_of (P := Tryd.prog) (c := c_spec_l1Num (R_spec_l1Num n)) (fn := Tryd.f155) (pm := S_spec_l1Num.pm) (rm := S_spec_l1Num.rm) (by kernel_rfl) (lookCons ih lookNil) follows_mixed Tryd.func155 (by kernel_rfl) (by kernel_rfl) rfl
theorem M_spec_l1Num : Meets gl0 Tryd.prog 155 S_spec_l1Num := meets_rec MR_spec_l1Num
/-- loop.example/g01054/spec.maText -/
@[reducible] noncomputable def c_spec_maText : Cx := { K := [.dat 0, .box 5 0 false, .dat 0, .dat 0, .dat 0, .dat 0, .dat 0, .dat 1, .dat 0, .dat 0, .dat 0, .dat 0, .dat 1, .dat 0, .dat 0, .dat 0, .dat 0, .dat 0, .dat 0, .dat 0, .dat 0, .dat 0, .dat 0, .dat 0], T := [(3, ty3), (9, ty9), (25, ty25), (28, ty28)], S := [(101, S_spec_maParts), (155, S_spec_l1Num)], H := [(0, ([3, 7, 8, 9], [3]))], res := [.tmp 2], ios := [], G := gl0 }
noncomputable def F_spec_maText : List D → Option Out := denF c_spec_maText Tryd.f104
@[reducible] noncomputable def S_spec_maText : FS := { pm := [.dat 0], rm := [.dat 0], f := F_spec_maText }
theorem M_spec_maText : Meets gl0 Tryd.prog 104 S_spec_maText := meets_of (P := Tryd.prog) (c := c_spec_maText) (fn := Tryd.f104) (pm := S_spec_maText.pm) (rm := S_spec_maText.rm) (by kernel_rfl) (lookCons M_spec_maParts (lookCons M_spec_l1Num lookNil)) follows_mixed Tryd.func104 (by kernel_rfl) (by kernel_rfl) rfl
/-- loop.example/g01054/spec.StrikeText -/
@[reducible] noncomputable def c_spec_StrikeText : Cx := { K := [.dat 0, .box 5 0 false, .dat 0, .dat 0, .dat 0, .dat 0, .dat 0, .dat 0, .dat 0], T := [(3, ty3), (25, ty25)], S := [(91, S_spec_maGood), (104, S_spec_maText)], H := [], res := [.tmp 2, .tmp 3], ios := [], G := gl0 }
noncomputable def F_spec_StrikeText : List D → Option Out := denF c_spec_StrikeText Tryd.f25
@[reducible] noncomputable def S_spec_StrikeText : FS := { pm := [.dat 0], rm := [.dat 0, .dat 0], f := F_spec_StrikeText }
theorem M_spec_StrikeText : Meets gl0 Tryd.prog 25 S_spec_StrikeText := meets_of (P := Tryd.prog) (c := c_spec_StrikeText) (fn := Tryd.f25) (pm := S_spec_StrikeText.pm) (rm := S_spec_StrikeText.rm) (by kernel_rfl) (lookCons M_spec_maGood (lookCons M_spec_maText lookNil)) follows_mixed Tryd.func25 (by kernel_rfl) (by kernel_rfl) rfl
/-- (*loop.example/g01054/spec.l1Cur).spoilt -/
@[reducible] noncomputable def c_spec_l1Cur_spoilt : Cx := { K := [.box 3 2 true, .dat 0, .dat 0, .no, .no, .no, .dat 0, .dat 0, .dat 0, .dat 0, .ref 0, .dat 0, .dat 0, .dat 0, .dat 0, .dat 0, .dat 0, .dat 0, .dat 0, .dat 0, .dat 0, .dat 0, .ref 0, .dat 0, .dat 0, .dat 0, .dat 0, .ref 0, .dat 0, .dat 0, .dat 0, .dat 0, .dat 1, .dat 0, .ref 0, .dat 0, .dat 0, .dat 0, .dat 0, .dat 0, .dat 0, .dat 0, .dat 0, .dat 0, .dat 0, .dat 0, .dat 0, .dat 0, .dat 0, .dat 0, .dat 0, .dat 0, .dat 0, .dat 0, .dat 0, .dat 0, .dat 0, .dat 0, .dat 0, .dat 0, .dat 0, .dat 0, .dat 0, .dat 0, .dat 0, .dat 0, .dat 0, .dat 0], T := [(3, ty3), (5, ty5), (9, ty9), (22, ty22)], S := [(99, S_spec_l1Cur_pick)], H := [(0, ([0, 1, 2, 7], [0, 1]))], res := [.tmp 6], ios := [0], G := gl0 }
noncomputable def F_spec_l1Cur_spoilt : List D → Option Out := denF c_spec_l1Cur_spoilt Tryd.f106
@[reducible] noncomputable def S_spec_l1Cur_spoilt : FS := { pm := [.box 3 2 true, .dat 0, .dat 0], rm := [.dat 0], f := F_spec_l1Cur_spoilt }
theorem M_spec_l1Cur_spoilt : Meets gl0 Tryd.prog 106 S_spec_l1Cur_spoilt := meets_of (P := Tryd.prog) (c := c_spec_l1Cur_spoilt) (fn := Tryd.f106) (pm := S_spec_l1Cur_spoilt.pm) (rm := S_spec_l1Cur_spoilt.rm) (by kernel_rfl) (lookCons M_spec_l1Cur_pick lookNil) follows_mixed Tryd.func106 (by kernel_rfl) (by kernel_rfl) rfl
/-- (*loop.example/g01054/spec.l1Cur).of -/
@[reducible] noncomputable def c_spec_l1Cur_of : Cx := { K := [.box 3 2 true, .dat 2, .no, .no, .dat 0, .dat 2, .ref 0, .dat 2, .dat 0, .dat 0, .dat 2, .dat 0], T := [(9, ty9), (93, ty93)], S := [(99, S_spec_l1Cur_pick)], H := [], res := [.tmp 4], ios := [0], G := gl0 }
noncomputable def F_spec_l1Cur_of : List D → Option Out := denF c_spec_l1Cur_of Tryd.f107
@[reducible] noncomputable def S_spec_l1Cur_of : FS := { pm := [.box 3 2 true, .dat 2], rm := [.dat 0], f := F_spec_l1Cur_of }
theorem M_spec_l1Cur_of : Meets gl0 Tryd.prog 107 S_spec_l1Cur_of := meets_of (P := Tryd.prog) (c := c_spec_l1Cur_of) (fn := Tryd.f107) (pm := S_spec_l1Cur_of.pm) (rm := S_spec_l1Cur_of.rm) (by kernel_rfl) (lookCons M_spec_l1Cur_pick lookNil) follows_mixed Tryd.func107 (by kernel_rfl) (by kernel_rfl) rfl
/-- loop.example/g01054/spec.DrawParseStrike -/
@[reducible] noncomputable def c_spec_DrawParseStrike : Cx := { K := [.dat 2, .no, .dat 0, .ref 7, .dat 0, .dat 2, .dat 2, .box 3 2 false, .ref 7, .dat 0, .dat 0, .ref 7, .dat 0, .dat 0, .dat 0, .ref 7, .dat 0, .dat 0, .dat 0, .dat 0, .ref 7, .dat 1, .dat 0, .dat 0], T := [(3, ty3), (9, ty9), (22, ty22), (93, ty93), (108, ty108), (110, ty110)], S := [(99, S_spec_l1Cur_pick), (104, S_spec_maText), (105, S_spec_l1Cur_strike), (106, S_spec_l1Cur_spoilt), (107, S_spec_l1Cur_of)], H := [], res := [.tmp 2], ios := [], G := gl0 }
noncomputable def F_spec_DrawParseStrike : List D → Option Out := denF c_spec_DrawParseStrike Tryd.f26
@[reducible] noncomputable def S_spec_DrawParseStrike : FS := { pm := [.dat 2], rm := [.dat 0], f := F_spec_DrawParseStrike }
theorem M_spec_DrawParseStrike : Meets gl0 Tryd.prog 26 S_spec_DrawParseStrike := meets_of (P := Tryd.prog) (c := c_spec_DrawParseStrike) (fn := Tryd.f26) (pm := S_spec_DrawParseStrike.pm) (rm := S_spec_DrawParseStrike.rm) (by kernel_rfl) (lookCons M_spec_l1Cur_pick (lookCons M_spec_maText (lookCons M_spec_l1Cur_strike (lookCons M_spec_l1Cur_spoilt (lookCons M_spec_l1Cur_of lookNil))))) follows_mixed Tryd.func26 (by kernel_rfl) (by kernel_rfl) rfl
/-- loop.example/g01054/impl.numbersIn -/
@[reducible] noncomputable def c_impl_numbersIn : Cx := { K := [.dat 0, .no, .own 1 0 false, .own 1 0 false, .no, .dat 0, .dat 0, .dat 0, .own 1 0 false, .dat 0, .dat 1, .dat 0, .dat 0, .dat 0, .dat 1, .dat 0, .tup [.dat 0, .dat 0], .dat 0, .tup [.dat 0, .dat 0], .dat 0, .dat 0, .dat 0, .dat 0, .own 1 0 false, .own 1 0 false, .dat 0, .dat 1, .own 1 0 false, .dat 0, .own 1 0 false], T := [(3, ty3), (9, ty9), (28, ty28), (93, ty93), (152, ty152)], S := [(156, S_strings_FieldsFunc), (158, S_strconv_Atoi)], H := [(0, ([3, 10, 11, 12], [3]))], res := [.tmp 2], ios := [], G := gl2 }
noncomputable def F_impl_numbersIn : List D → Option Out := denF c_impl_numbersIn Tryd.f108
@[reducible] noncomputable def S_impl_numbersIn : FS := { pm := [.dat 0], rm := [.own 1 0 false], f := F_impl_numbersIn }
theorem M_impl_numbersIn : Meets gl2 Tryd.prog 108 S_impl_numbersIn := meets_of (P := Tryd.prog) (c := c_impl_numbersIn) (fn := Tryd.f108) (pm := S_impl_numbersIn.pm) (rm := S_impl_numbersIn.rm) (by kernel_rfl) (lookCons (meets_mono gl02 M_strings_FieldsFunc) (lookCons M_strconv_Atoi lookNil)) follows_mixed Tryd.func108 (by kernel_rfl) (by kernel_rfl) rfl
/-- loop.example/g01054/impl.ParseStrike -/
@[reducible] noncomputable def c_impl_ParseStrike : Cx := { K := [.dat 0, .no, .box 5 0 false, .dat 0, .dat 1, .dat 0, .dat 1, .dat 1, .dat 0, .dat 0, .dat 0, .dat 1, .dat 0, .dat 0, .dat 0, .dat 0, .dat 0, .dat 1, .dat 0, .dat 0, .dat 0, .dat 0, .dat 0, .dat 1, .dat 0], T := [(3, ty3), (9, ty9), (25, ty25), (28, ty28)], S := [(14, S_impl_IsStrike), (100, S_impl_strikeOf), (103, S_impl_join), (108, S_impl_numbersIn)], H := [], res := [.cell 2 25, .tmp 3], ios := [], G := gl2 }
noncomputable def F_impl_ParseStrike : List D → Option Out := denF c_impl_ParseStrike Tryd.f27
@[reducible] noncomputable def S_impl_ParseStrike : FS := { pm := [.dat 0], rm := [.dat 0, .dat 0], f := F_impl_ParseStrike }
theorem M_impl_ParseStrike : Meets gl2 Tryd.prog 27 S_impl_ParseStrike := meets_of (P := Tryd.prog) (c := c_impl_ParseStrike) (fn := Tryd.f27) (pm := S_impl_ParseStrike.pm) (rm := S_impl_ParseStrike.rm) (by kernel_rfl) (lookCons (meets_mono gl02 M_impl_IsStrike) (lookCons (meets_mono gl02 M_impl_strikeOf) (lookCons (meets_mono gl12 M_impl_join) (lookCons M_impl_numbersIn lookNil)))) follows_mixed Tryd.func27 (by kernel_rfl) (by kernel_rfl) rfl
/-- loop.example/g01054/spec.l1Split -/
@[reducible] noncomputable def c_spec_l1Split : Cx := { K := [.dat 0, .dat 0, .no, .no, .own 1 0 false, .own 1 0 false, .dat 0, .dat 0, .dat 0, .dat 0, .dat 0, .dat 0, .dat 0, .dat 0, .dat 0, .dat 0, .dat 0, .dat 0, .dat 0, .own 1 0 false, .dat 0, .dat 0, .dat 0, .dat 0, .dat 1, .own 1 0 false, .dat 0, .dat 0, .own 1 0 false, .dat 0, .dat 0, .dat 0, .dat 1, .own 1 0 false], T := [(3, ty3), (5, ty5), (9, ty9), (93, ty93)], S := [], H := [(0, ([0, 1, 5, 6, 7], [0, 5, 6]))], res := [.tmp 4], ios := [], G := gl0 }
noncomputable def F_spec_l1Split : List D → Option Out := denF c_spec_l1Split Tryd.f109
@[reducible] noncomputable def S_spec_l1Split : FS := { pm := [.dat 0, .dat 0], rm := [.own 1 0 false], f := F_spec_l1Split }
theorem M_spec_l1Split : Meets gl0 Tryd.prog 109 S_spec_l1Split := meets_of (P := Tryd.prog) (c := c_spec_l1Split) (fn := Tryd.f109) (pm := S_spec_l1Split.pm) (rm := S_spec_l1Split.rm) (by kernel_rfl) lookNil follows_mixed Tryd.func109 (by kernel_rfl) (by kernel_rfl) rfl
/-- loop.example/g01054/spec.l1Read -/
@[reducible] noncomputable def c_spec_l1Read : Cx := { K := [.dat 0, .no, .dat 0, .dat 0, .dat 0, .dat 0, .dat 0, .dat 0, .dat 0, .dat 0, .dat 0, .dat 0, .dat 0, .dat 0, .dat 0, .dat 0, .dat 0, .dat 0, .dat 0, .dat 0, .dat 0, .dat 0, .dat 0, .dat 0, .dat 0, .dat 0, .dat 0, .dat 0, .dat 0, .dat 0, .dat 0, .dat 0, .dat 0, .dat 0, .dat 0, .dat 0, .dat 0, .dat 0, .dat 0, .dat 0, .dat 0, .dat 0, .dat 0, .dat 0], T := [(3, ty3), (5, ty5), (9, ty9)], S := [(97, S_spec_l1In)], H := [(0, ([0, 3, 4], [3]))], res := [.tmp 2], ios := [], G := gl0 }
noncomputable def F_spec_l1Read : List D → Option Out := denF c_spec_l1Read Tryd.f110
@[reducible] noncomputable def S_spec_l1Read : FS := { pm := [.dat 0], rm := [.dat 0], f := F_spec_l1Read }
theorem M_spec_l1Read : Meets gl0 Tryd.prog 110 S_spec_l1Read := meets_of (P := Tryd.prog) (c := c_spec_l1Read) (fn := Tryd.f110) (pm := S_spec_l1Read.pm) (rm := S_spec_l1Read.rm) (by kernel_rfl) (lookCons M_spec_l1In lookNil) follows_mixed Tryd.func110 (by kernel_rfl) (by kernel_rfl) rfl
/-- loop.example/g01054/spec.ParseStrike -/
@[reducible] noncomputable def c_spec_ParseStrike : Cx := { K := [.dat 0, .no, .box 5 0 false, .dat 0, .dat 1, .own 1 0 false, .no, .dat 0, .dat 0, .dat 1, .dat 1, .dat 0, .dat 0, .dat 0, .dat 1, .dat 0, .dat 0, .dat 0, .dat 1, .dat 0, .own 1 0 false, .dat 0, .dat 0, .dat 1, .own 1 0 false, .dat 0, .via 5, .dat 0, .dat 0, .dat 0, .dat 0, .via 5, .dat 0], T := [(3, ty3), (9, ty9), (25, ty25), (28, ty28), (93, ty93)], S := [(91, S_spec_maGood), (102, S_spec_maOf), (109, S_spec_l1Split), (110, S_spec_l1Read)], H := [(0, ([2, 5, 14, 15, 16], [2, 5]))], res := [.cell 2 25, .tmp 3], ios := [], G := gl0 }
noncomputable def F_spec_ParseStrike : List D → Option Out := denF c_spec_ParseStrike Tryd.f28
@[reducible] noncomputable def S_spec_ParseStrike : FS := { pm := [.dat 0], rm := [.dat 0, .dat 0], f := F_spec_ParseStrike }
theorem M_spec_ParseStrike : Meets gl0 Tryd.prog 28 S_spec_ParseStrike := meets_of (P := Tryd.prog) (c := c_spec_ParseStrike) (fn := Tryd.f28) (pm := S_spec_ParseStrike.pm) (rm := S_spec_ParseStrike.rm) (by kernel_rfl) (lookCons M_spec_maGood (lookCons M_spec_maOf (lookCons M_spec_l1Split (lookCons M_spec_l1Read lookNil)))) follows_mixed Tryd.func28 (by kernel_rfl) (by kernel_rfl) rfl
/-- loop.example/g01054/impl.WidthOfStrike -/
@[reducible] noncomputable def c_impl_WidthOfStrike : Cx := { K := [.dat 0, .box 5 0 false, .dat 0, .dat 0, .dat 0, .dat 0, .dat 0, .ref 1, .dat 0, .ref 1, .dat 0, .dat 0, .ref 1, .dat 0, .dat 0], T := [(3, ty3), (25, ty25)], S := [(14, S_impl_IsStrike)], H := [], res := [.tmp 2, .tmp 3], ios := [], G := gl0 }
noncomputable def F_impl_WidthOfStrike : List D → Option Out := denF c_impl_WidthOfStrike Tryd.f29
@[reducible] noncomputable def S_impl_WidthOfStrike : FS := { pm := [.dat 0], rm := [.dat 0, .dat 0], f := F_impl_WidthOfStrike }
theorem M_impl_WidthOfStrike : Meets gl0 Tryd.prog 29 S_impl_WidthOfStrike := meets_of (P := Tryd.prog) (c := c_impl_WidthOfStrike) (fn := Tryd.f29) (pm := S_impl_WidthOfStrike.pm) (rm := S_impl_WidthOfStrike.rm) (by kernel_rfl) (lookCons M_impl_IsStrike lookNil) follows_mixed Tryd.func29 (by kernel_rfl) (by kernel_rfl) rfl
/-- loop.example/g01054/laws.FnStrikes -/
@[reducible] noncomputable def c_laws_FnStrikes : Cx := { K := [.dat 2, .dat 2, .no, .no, .dat 0, .box 5 0 false, .box 5 0 false, .dat 1, .dat 0, .dat 1, .dat 0, .dat 0, .dat 0, .dat 0, .dat 0, .box 5 0 false, .box 5 0 false, .dat 0, .dat 0, .dat 0, .dat 0, .dat 0, .dat 0, .dat 0, .dat 0, .dat 0, .box 5 0 false, .dat 0, .dat 0, .box 5 0 false, .dat 0, .box 5 0 false, .dat 0, .box 5 0 false, .dat 0, .box 5 0 false, .dat 0, .dat 0, .dat 0, .dat 0, .dat 0, .dat 0, .box 5 0 false, .dat 0, .box 5 0 false, .dat 0, .box 5 0 false, .dat 0, .dat 0, .dat 0, .dat 0, .dat 0, .dat 2, .dat 2, .dat 0, .tup [.dat 0, .dat 0], .dat 2, .tup [.dat 0, .dat 0], .dat 0, .dat 0, .tup [.own 1 0 false, .dat 0], .dat 0, .dat 0, .tup [.own 1 0 false, .dat 0], .dat 1, .dat 0, .tup [.own 1 0 false, .dat 0], .dat 0, .dat 0, .tup [.own 1 0 false, .dat 0], .dat 1, .dat 0, .tup [.dat 0, .dat 0], .dat 0, .dat 0, .tup [.dat 0, .dat 0], .dat 0, .dat 0, .tup [.dat 0, .dat 0], .dat 0, .dat 0, .tup [.dat 0, .dat 0], .dat 0, .dat 0, .dat 0, .dat 0, .dat 0, .dat 0, .dat 1, .dat 1, .dat 0, .dat 0, .dat 0, .dat 0, .dat 0, .dat 0, .dat 0, .dat 0, .dat 0, .dat 0, .dat 0, .dat 0, .dat 0, .dat 0, .dat 0, .dat 0, .dat 0, .dat 0, .dat 0, .dat 0, .dat 0, .dat 0, .dat 0, .dat 0, .dat 0, .dat 0, .dat 0, .dat 0, .dat 0, .dat 0, .dat 0, .dat 0, .dat 0, .dat 1, .dat 0, .dat 0, .dat 0, .ref 5, .dat 0, .dat 1, .dat 1, .dat 0, .dat 0, .ref 6, .dat 0, .dat 0, .dat 0, .dat 0, .ref 5, .dat 0, .dat 1, .dat 1, .dat 0, .dat 0, .ref 6, .dat 0, .dat 0, .dat 0, .dat 0, .dat 1, .dat 1, .dat 0, .dat 0, .dat 0, .dat 0, .ref 5, .dat 0, .dat 1, .dat 1, .dat 0, .dat 0, .ref 6, .dat 0, .dat 0, .dat 0, .dat 0, .ref 5, .dat 0, .dat 1, .dat 1, .dat 0, .dat 0, .ref 6, .dat 0, .dat 0, .dat 0, .dat 0, .tup [.dat 0, .dat 0, .dat 0], .dat 2, .tup [.dat 0, .dat 0, .dat 0], .dat 0, .dat 0, .dat 0, .tup [.dat 0, .dat 0], .dat 0, .dat 0, .dat 0, .tup [.dat 0, .dat 0], .dat 0, .dat 0, .tup [.dat 0, .dat 0], .dat 0, .dat 0, .dat 0, .tup [.dat 0, .dat 0], .dat 0, .dat 0, .dat 0, .dat 0, .dat 0, .dat 0, .dat 0, .dat 0, .dat 0, .dat 0, .dat 0, .tup [.dat 0, .dat 0], .dat 0, .dat 0, .tup [.dat 0, .dat 0], .dat 0, .dat 0, .dat 0, .dat 0, .dat 0, .dat 0, .ref 16, .dat 0, .dat 0, .dat 0, .dat 0, .dat 0, .dat 0, .dat 0, .tup [.dat 0, .dat 0], .dat 0, .dat 0, .dat 0, .tup [.dat 0, .dat 0], .dat 0, .dat 0, .dat 0, .dat 0, .dat 0, .dat 0, .ref 16, .dat 0, .dat 0, .dat 0, .dat 0, .dat 0, .tup [.dat 0, .dat 0, .dat 0], .dat 2, .tup [.dat 0, .dat 0, .dat 0], .dat 0, .dat 0, .dat 0, .tup [.dat 0, .dat 0], .dat 0, .dat 0, .dat 0, .tup [.dat 0, .dat 0], .dat 0, .dat 0, .tup [.dat 0, .dat 0], .dat 0, .dat 0, .dat 0, .tup [.dat 0, .dat 0], .dat 0, .dat 0, .tup [.dat 0, .dat 0], .dat 0, .tup [.dat 0, .dat 0], .dat 0, .dat 0, .tup [.dat 0, .dat 0], .dat 0, .tup [.dat 0, .dat 0], .dat 0, .dat 0, .tup [.dat 0, .dat 0], .dat 0, .tup [.dat 0, .dat 0], .dat 0, .dat 0, .tup [.dat 0, .dat 0], .dat 0, .tup [.dat 0, .dat 0], .dat 0, .dat 0, .dat 2, .dat 0, .tup [.dat 0, .dat 0], .dat 0, .tup [.dat 0, .dat 0], .dat 0, .dat 0, .tup [.dat 0, .dat 0], .dat 0, .tup [.dat 0, .dat 0], .dat 0, .dat 0, .dat 0, .dat 0, .dat 0, .dat 0, .dat 0, .dat 0, .dat 0, .dat 0, .dat 0, .dat 0, .dat 0, .dat 0, .dat 0, .dat 0, .dat 0, .dat 0, .dat 0, .dat 0, .dat 0, .dat 0, .dat 0, .dat 0, .dat 0, .dat 0, .dat 0, .dat 0, .dat 0, .dat 0, .dat 0, .dat 0, .dat 0, .dat 0, .dat 0, .dat 0, .dat 0, .dat 0, .dat 0, .dat 0, .dat 0, .dat 0, .dat 0, .dat 0, .dat 0, .dat 0, .dat 0, .dat 0, .dat 0, .dat 0, .dat 0, .dat 0, .tup [.dat 0, .dat 0], .dat 0, .tup [.dat 0, .dat 0], .dat 0, .dat 0, .tup [.dat 0, .dat 0], .dat 0, .tup [.dat 0, .dat 0], .dat 0, .dat 0, .tup [.dat 0, .dat 0], .dat 0, .tup [.dat 0, .dat 0], .dat 0, .dat 0, .dat 0, .dat 0, .dat 0, .dat 0, .dat 0, .dat 0, .dat 0, .dat 0, .dat 0, .dat 0, .dat 0, .dat 0, .dat 0, .dat 0, .dat 0, .dat 0, .dat 0, .dat 0, .ref 35, .dat 0, .ref 35, .dat 0, .dat 0, .dat 0], T := [(3, ty3), (4, ty4), (9, ty9), (25, ty25), (28, ty28)], S := [(7, S_laws_big), (8, S_spec_DrawFilingsFor), (9, S_impl_FilingsFor), (10, S_spec_FilingsFor), (11, S_impl_CanBeJustified), (12, S_spec_CanBeJustified), (13, S_laws_sameInts), (14, S_impl_IsStrike), (15, S_spec_DrawCastsLeft), (16, S_impl_CastsLeft), (17, S_spec_CastsLeft), (18, S_impl_DepthAfter), (19, S_spec_DrawFileStrike), (20, S_impl_FileStrike), (21, S_spec_FileStrike), (22, S_impl_CentreStrike), (23, S_spec_CentreStrike), (24, S_impl_StrikeText), (25, S_spec_StrikeText), (26, S_spec_DrawParseStrike), (27, S_impl_ParseStrike), (28, S_spec_ParseStrike), (29, S_impl_WidthOfStrike)], H := [], res := [.tmp 4], ios := [], G := gl2 }
@[reducible] def J_laws_FnStrikes : List (Nat × List Nat) := [(16383, [1])]
noncomputable def F_laws_FnStrikes : List D → Option Out := denFJ c_laws_FnStrikes J_laws_FnStrikes Tryd.f3
@[reducible] noncomputable def S_laws_FnStrikes : FS := { pm := [.dat 2, .dat 2], rm := [.dat 0], f := F_laws_FnStrikes }
theorem M_laws_FnStrikes : Meets gl2 Tryd.prog 3 S_laws_FnStrikes := meets_ofJ (J := J_laws_FnStrikes) (P := Tryd.prog) (c := c_laws_FnStrikes) (fn := Tryd.f3) (pm := S_laws_FnStrikes.pm) (rm := S_laws_FnStrikes.rm) (by kernel_rfl) (lookCons (meets_mono gl02 M_laws_big) (lookCons (meets_mono gl02 M_spec_DrawFilingsFor) (lookCons (meets_mono gl02 M_impl_FilingsFor) (lookCons (meets_mono gl02 M_spec_FilingsFor) (lookCons (meets_mono gl02 M_impl_CanBeJustified) (lookCons (meets_mono gl02 M_spec_CanBeJustified) (lookCons (meets_mono gl02 M_laws_sameInts) (lookCons (meets_mono gl02 M_impl_IsStrike) (lookCons (meets_mono gl02 M_spec_DrawCastsLeft) (lookCons (meets_mono gl02 M_impl_CastsLeft) (lookCons (meets_mono gl02 M_spec_CastsLeft) (lookCons (meets_mono gl02 M_impl_DepthAfter) (lookCons (meets_mono gl02 M_spec_DrawFileStrike) (lookCons (meets_mono gl02 M_impl_FileStrike) (lookCons (meets_mono gl02 M_spec_FileStrike) (lookCons (meets_mono gl02 M_impl_CentreStrike) (lookCons (meets_mono gl02 M_spec_CentreStrike) (lookCons (meets_mono gl12 M_impl_StrikeText) (lookCons (meets_mono gl02 M_spec_StrikeText) (lookCons (meets_mono gl02 M_spec_DrawParseStrike) (lookCons M_impl_ParseStrike (lookCons (meets_mono gl02 M_spec_ParseStrike) (lookCons (meets_mono gl02 M_impl_WidthOfStrike) lookNil))))))))))))))))))))))) follows_mixed (by kernel_rfl) Tryd.func3 (by kernel_rfl) (by kernel_rfl) rfl
/-- loop.example/g01054/impl.isGrams -/
@[reducible] noncomputable def c_impl_isGrams : Cx := { K := [.dat 0, .no, .dat 0, .dat 0, .dat 0], T := [], S := [(95, S_impl_within)], H := [], res := [.tmp 2], ios := [], G := gl0 }
noncomputable def F_impl_isGrams : List D → Option Out := denF c_impl_isGrams Tryd.f122
@[reducible] noncomputable def S_impl_isGrams : FS := { pm := [.dat 0], rm := [.dat 0], f := F_impl_isGrams }
theorem M_impl_isGrams : Meets gl0 Tryd.prog 122 S_impl_isGrams := meets_of (P := Tryd.prog) (c := c_impl_isGrams) (fn := Tryd.f122) (pm := S_impl_isGrams.pm) (rm := S_impl_isGrams.rm) (by kernel_rfl) (lookCons M_impl_within lookNil) follows_mixed Tryd.func122 (by kernel_rfl) (by kernel_rfl) rfl
/-- loop.example/g01054/impl.IsMelt -/
@[reducible] noncomputable def c_impl_IsMelt : Cx := { K := [.dat 0, .box 3 0 false, .dat 0, .ref 1, .dat 0, .dat 0, .dat 0, .ref 1, .dat 0, .dat 0, .dat 0, .dat 0, .ref 1, .dat 0, .dat 0, .dat 0], T := [(3, ty3), (51, ty51)], S := [(122, S_impl_isGrams)], H := [], res := [.tmp 2], ios := [], G := gl0 }
noncomputable def F_impl_IsMelt : List D → Option Out := denF c_impl_IsMelt Tryd.f42
@[reducible] noncomputable def S_impl_IsMelt : FS := { pm := [.dat 0], rm := [.dat 0], f := F_impl_IsMelt }
theorem M_impl_IsMelt : Meets gl0 Tryd.prog 42 S_impl_IsMelt := meets_of (P := Tryd.prog) (c := c_impl_IsMelt) (fn := Tryd.f42) (pm := S_impl_IsMelt.pm) (rm := S_impl_IsMelt.rm) (by kernel_rfl) (lookCons M_impl_isGrams lookNil) follows_mixed Tryd.func42 (by kernel_rfl) (by kernel_rfl) rfl
/-- (loop.example/g01054/impl.Melt).grams -/
@[reducible] noncomputable def c_impl_Melt_grams : Cx := { K := [.dat 0, .box 3 0 false, .dat 0, .ref 1, .dat 0, .ref 1, .dat 0, .dat 0, .ref 1, .dat 0, .dat 0], T := [(3, ty3), (51, ty51)], S := [], H := [], res := [.tmp 2], ios := [], G := gl0 }
noncomputable def F_impl_Melt_grams : List D → Option Out := denF c_impl_Melt_grams Tryd.f115
@[reducible] noncomputable def S_impl_Melt_grams : FS := { pm := [.dat 0], rm := [.dat 0], f := F_impl_Melt_grams }
theorem M_impl_Melt_grams : Meets gl0 Tryd.prog 115 S_impl_Melt_grams := meets_of (P := Tryd.prog) (c := c_impl_Melt_grams) (fn := Tryd.f115) (pm := S_impl_Melt_grams.pm) (rm := S_impl_Melt_grams.rm) (by kernel_rfl) lookNil follows_mixed Tryd.func115 (by kernel_rfl) (by kernel_rfl) rfl
end Go.Proofs.YtlphibidnkjpdaaDoor
