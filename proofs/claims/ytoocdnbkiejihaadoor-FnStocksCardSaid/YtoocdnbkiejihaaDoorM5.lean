/-
  How the evaluated texts are reckoned: plain laws of the operations on data, and of loops.
-/
import Derived.Test.YtoocdnbkiejihaaDoorRows
import Derived.Test.YtoocdnbkiejihaaDoorTie
import Derived.Test.YtoocdnbkiejihaaDoorCards
import Derived.Test.YtoocdnbkiejihaaDoorM4
namespace Go.V

section
variable {k : IntKind} {a b : Int} {bl : Bool} {eq : List Nat}
@[simp] theorem bin_add : bin .add bl eq (.v (.int k a)) (.v (.int k b)) = some (.v (.int k (k.wrap (a + b)))) := by simp [bin, intBin]
@[simp] theorem bin_sub : bin .sub bl eq (.v (.int k a)) (.v (.int k b)) = some (.v (.int k (k.wrap (a - b)))) := by simp [bin, intBin]
@[simp] theorem bin_mul : bin .mul bl eq (.v (.int k a)) (.v (.int k b)) = some (.v (.int k (k.wrap (a * b)))) := by simp [bin, intBin]
@[simp] theorem bin_quo : bin .quo bl eq (.v (.int k a)) (.v (.int k b)) = if b = 0 then none else some (.v (.int k (k.wrap (a.tdiv b)))) := by simp [bin, intBin]
@[simp] theorem bin_rem : bin .rem bl eq (.v (.int k a)) (.v (.int k b)) = if b = 0 then none else some (.v (.int k (a.tmod b))) := by simp [bin, intBin]
@[simp] theorem bin_lss : bin .lss bl eq (.v (.int k a)) (.v (.int k b)) = some (B (decide (a < b))) := by simp [bin, intBin]
@[simp] theorem bin_leq : bin .leq bl eq (.v (.int k a)) (.v (.int k b)) = some (B (decide (a ≤ b))) := by simp [bin, intBin]
@[simp] theorem bin_gtr : bin .gtr bl eq (.v (.int k a)) (.v (.int k b)) = some (B (decide (b < a))) := by simp [bin, intBin]
@[simp] theorem bin_geq : bin .geq bl eq (.v (.int k a)) (.v (.int k b)) = some (B (decide (b ≤ a))) := by simp [bin, intBin]
@[simp] theorem bin_eql : bin .eql bl eq (.v (.int k a)) (.v (.int k b)) = some (B (decide (a = b))) := by
  have : (a == b) = decide (a = b) := rfl
  simp [bin, intBin, this]
@[simp] theorem bin_neq : bin .neq bl eq (.v (.int k a)) (.v (.int k b)) = some (B (!decide (a = b))) := by
  have : (a != b) = !decide (a = b) := rfl
  simp [bin, intBin, this]
@[simp] theorem bin_eqlB {a b : Bool} : bin .eql true eq (B a) (B b) = some (B (a == b)) := by simp [bin]
@[simp] theorem bin_neqB {a b : Bool} : bin .neq true eq (B a) (B b) = some (B !(a == b)) := by simp [bin]
@[simp] theorem bin_addS {a b : ByteArray} : bin .add bl eq (T a) (T b) = if a.size + b.size ≤ 1152921504606846976 then some (T (a ++ b)) else none := by simp [bin, strBin]
@[simp] theorem bin_eqlS {a b : ByteArray} : bin .eql bl eq (T a) (T b) = some (B (decide (a = b))) := by
  have : (a.toList == b.toList) = decide (a = b) := by
    rw [Bool.eq_iff_iff, beq_iff_eq, decide_eq_true_eq]
    constructor
    · intro h
      have h1 : ∀ s : ByteArray, s.toList = s.data.toList := fun s => by simp [ByteArray.toList_eq]
      rw [h1, h1] at h
      cases a; cases b
      simp at h
      simp [h]
    · rintro rfl; rfl
  simp [bin, strBin, this]
@[simp] theorem bin_neqS {a b : ByteArray} : bin .neq bl eq (T a) (T b) = some (B (!decide (a = b))) := by
  have h := bin_eqlS (a := a) (b := b) (bl := bl) (eq := eq)
  simp only [bin, strBin, Option.some.injEq, D.v.injEq, Value.bool.injEq] at h ⊢
  rw [h]
@[simp] theorem un_not {b : Bool} : un .not (B b) = some (B !b) := rfl
@[simp] theorem un_neg : un .neg (.v (.int k a)) = some (.v (.int k (k.wrap (-a)))) := by simp [un]

theorem wrap_id (h1 : -9223372036854775808 ≤ a) (h2 : a < 9223372036854775808) : IntKind.i64.wrap a = a := by
  simp [IntKind.wrap, IntKind.bits, IntKind.signed]
  split <;> omega
end

@[simp] theorem ifD_B {c : Bool} {t e : Option Out} : ifD (B c) t e = if c = true then t else e := by cases c <;> rfl
@[simp] theorem ifN_B {c : Bool} {t e : Option Out} : ifN c t e = if c = true then t else e := by cases c <;> rfl
@[simp] theorem gate_t {v : D} {c : Bool} {r : Option D} : gate v (B c) true r = if c = true then r else some v := by cases c <;> rfl
@[simp] theorem gate_f {v : D} {c : Bool} {r : Option D} : gate v (B c) false r = if c = true then some v else r := by cases c <;> rfl
@[simp] theorem gate_s {v : D} {p : Bool} {l : List D} {r : Option D} : gate v (.tup l) p r = some v := rfl
@[simp] theorem gateC_s {p : Bool} {l : List D} {r : Option Out} {alt : List D} {k : List D → Option Out} : gateC (.tup l) p r alt k = k alt := rfl
def nrmK (r : Option Out) (k : List D → Option Out) : Option Out :=
  match r with
  | some (.nrm l) => k l
  | _ => none
@[simp] theorem nrmK_some {l : List D} {k : List D → Option Out} : nrmK (some (.nrm l)) k = k l := rfl
@[simp] theorem gateC_t {c : Bool} {r : Option Out} {alt : List D} {k : List D → Option Out} : gateC (B c) true r alt k = if c = true then nrmK r k else k alt := by cases c <;> rfl
@[simp] theorem gateC_f {c : Bool} {r : Option Out} {alt : List D} {k : List D → Option Out} : gateC (B c) false r alt k = if c = true then k alt else nrmK r k := by cases c <;> rfl
@[simp] theorem pickD_B {c : Bool} {a b : D} : pickD (B c) a b = some (if c = true then a else b) := by cases c <;> rfl
@[simp] theorem callK_ret {rs us : List D} {k : List D → List D → Option Out} : callK (some (.ret rs us)) k = k rs us := rfl
@[simp] theorem outK_ext {i : Nat} {s : List D} {x : Nat → List D → Option Out} {r : List D → List D → Option Out} : outK (.ext i s) x r = x i s := rfl
@[simp] theorem outK_ret {a b : List D} {x : Nat → List D → Option Out} {r : List D → List D → Option Out} : outK (.ret a b) x r = r a b := rfl
@[simp] theorem liveD_v {v : Value} {x : D} : liveD (.v v) x = some x := rfl
@[simp] theorem liveD_arr {z : Nat} {l : List D} {x : D} : liveD (.arr z l) x = some x := rfl
@[simp] theorem liveD_agg {l : List D} {x : D} : liveD (.agg l) x = some x := rfl
@[simp] theorem liveD_ref {i f : Nat} {x : D} : liveD (.ref i f) x = some x := rfl
@[simp] theorem liveD_tup {l : List D} {x : D} : liveD (.tup l) x = some x := rfl
@[simp] theorem lenD_arr {z : Nat} {l : List D} : lenD false (.arr z l) = some (I l.length) := rfl
@[simp] theorem lenD_str {s : ByteArray} : lenD true (T s) = some (I s.size) := rfl
@[simp] theorem sl_zero {a : D} {l : List D} : sl (a :: l) 0 = a := rfl
@[simp] theorem sl_succ {a : D} {l : List D} {n : Nat} : sl (a :: l) (n + 1) = sl l n := rfl
@[simp] theorem fldD_agg {ag : Bool} {n off : Nat} {l : List D} : fldD ag n off (.agg l) = takeD ag n (l.drop off) := rfl
@[simp] theorem ldD_ptr {ag : Bool} {n : Nat} {l : List D} : ldD ag n (.ptr l) = takeD ag n l := rfl
@[simp] theorem offD_ptr {off : Nat} {l : List D} : offD off (.ptr l) = some (.ptr (l.drop off)) := rfl
@[simp] theorem takeD_t {n : Nat} {l : List D} : takeD true n l = if n ≤ l.length then some (.agg (l.take n)) else none := rfl
@[simp] theorem takeD_f {n : Nat} {a : D} {l : List D} : takeD false n (a :: l) = some a := rfl
@[simp] theorem atD_agg {l : List D} {i f : Nat} : atD (.agg l) (.ref i f) = some (l.drop f) := rfl
@[simp] theorem atD_arr {z : Nat} {l : List D} {i f : Nat} : atD (.arr z l) (.ref i f) = (l[i]?).map fun d => d.cells.drop f := rfl
@[simp] theorem refAdd_ref {off i f : Nat} : refAdd off (.ref i f) = some (.ref i (f + off)) := rfl
@[simp] theorem elemD_nat {z : Nat} {l : List D} {k : IntKind} {i : Nat} : elemD z (.arr z l) (.v (.int k (i : Int))) = (l[i]?).map D.cells := by simp [elemD]
theorem elemD_int {z : Nat} {l : List D} {k : IntKind} {n : Int} (h : 0 ≤ n) : elemD z (.arr z l) (.v (.int k n)) = (l[n.toNat]?).map D.cells := by simp [elemD, h]
@[simp] theorem refI_nat {z : Nat} {l : List D} {k : IntKind} {i : Nat} : refI z (.arr z l) (.v (.int k (i : Int))) = if i < l.length then some (.ref i 0) else none := by simp [refI]
@[simp] theorem D_cells_agg {l : List D} : (D.agg l).cells = l := rfl
@[simp] theorem D_cells_v {v : Value} : (D.v v).cells = [.v v] := rfl
@[simp] theorem D_cells_arr {z : Nat} {l : List D} : (D.arr z l).cells = [.arr z l] := rfl
@[simp] theorem chkV_v {v : Value} : chkV (.v v) = some (.v v) := rfl
@[simp] theorem chkV_agg {l : List D} : chkV (.agg l) = if l.all isVs = true then some (.agg l) else none := by
  have : (D.agg l).isV = l.all isVs := by
    simp only [D.isV]
    congr 1
  simp [chkV, this]
@[simp] theorem isVs_v {v : Value} : isVs (.v v) = true := rfl
@[simp] theorem isVs_arr {z : Nat} {l : List D} : isVs (.arr z l) = false := rfl
@[simp] theorem single_v {v : Value} : (D.v v).single = true := rfl
@[simp] theorem single_arr {z : Nat} {l : List D} : (D.arr z l).single = true := rfl
@[simp] theorem width_agg {l : List D} : (D.agg l).width = l.length := rfl
@[simp] theorem width_v {v : Value} : (D.v v).width = 1 := rfl
@[simp] theorem width_arr {z : Nat} {l : List D} : (D.arr z l).width = 1 := rfl
@[simp] theorem boxD_eq {n : Nat} {x : D} : boxD n x = if x.cells.length = n ∧ x.cells.all D.single = true then some (.agg x.cells) else none := rfl
@[simp] theorem stD_agg {n i f : Nat} {l : List D} {x : D} : stD n (.agg l) (.ref i f) x = if x.cells.length = n ∧ f + n ≤ l.length ∧ x.cells.all D.single = true then some (.agg (putCells l f x.cells)) else none := rfl
@[simp] theorem putCells_eq {l : List D} {f : Nat} {vs : List D} : putCells l f vs = l.take f ++ vs ++ l.drop (f + vs.length) := rfl
@[simp] theorem tupAt_tup {l : List D} {i : Nat} : tupAt (.tup l) i = match l[i]? with
    | some .bad => none
    | some (.tup _) => none
    | r => r := rfl
@[simp] theorem tupCut_tup {l : List D} {i : Nat} : tupCut (.tup l) i = .tup (l.set i .bad) := rfl
@[simp] theorem ref0_eq {x : D} : ref0 (.ref 0 0) x = some x := rfl
@[simp] theorem appD_eq {z eb : Nat} {l m : List D} : appD z eb (.arr z l) (.arr z m) = if (l.length + m.length) * eb ≤ 140737488355328 ∧ l.length + m.length ≤ 1152921504606846976 then some (.arr z (l ++ m)) else none := by simp [appD]

@[simp] theorem elemD_nat1 {z : Nat} {l : List D} {k : IntKind} {i : Nat} : elemD z (.arr z l) (.v (.int k ((i : Int) + 1))) = (l[i + 1]?).map D.cells := elemD_nat (i := i + 1)
@[simp] theorem elemD_zero {z : Nat} {l : List D} {k : IntKind} : elemD z (.arr z l) (.v (.int k 0)) = (l[0]?).map D.cells := elemD_nat (i := 0)
@[simp] theorem makD_nat {z eb : Nat} {x : D} {k k' : IntKind} {n m : Nat} : makD z eb x (.v (.int k (n : Int))) (.v (.int k' (m : Int))) = if n ≤ m ∧ m * eb ≤ 140737488355328 ∧ m ≤ 140737488355328 then some (.arr z (List.replicate n x)) else none := by
  have h : ((n : Int) ≤ m ∧ (m : Int) * (eb : Int) ≤ 140737488355328 ∧ (m : Int) ≤ 140737488355328) ↔ (n ≤ m ∧ m * eb ≤ 140737488355328 ∧ m ≤ 140737488355328) := by
    rw [← Int.natCast_mul]
    omega
  simp only [makD, Int.natCast_nonneg, true_and, h, Int.toNat_natCast]

/-- An element of an owned slice that is written whole. -/
theorem stD_arr {n z i : Nat} {L c v : List D} (h : L[i]? = some (.agg c)) (hc : c.length = n) (hv : v.length = n) (hs : v.all D.single = true) : stD n (.arr z L) (.ref i 0) (.agg v) = some (.arr z (L.set i (.agg v))) := by
  have e : (D.agg c).ofCells (putCells c 0 v) = .agg v := by
    simp only [D.ofCells, putCells, List.take_zero, List.nil_append, Nat.zero_add, hv, ← hc, List.drop_length, List.append_nil]
  have h2 : (D.agg v).cells = v := rfl
  simp only [stD, h, h2, e, width_agg, hc, hv, hs, Nat.zero_add, Nat.le_refl, and_self, if_true, D_cells_agg]
theorem stD_arr1 {z i : Nat} {L : List D} {v w : Value} (h : L[i]? = some (.v w)) : stD 1 (.arr z L) (.ref i 0) (.v v) = some (.arr z (L.set i (.v v))) := by
  simp [stD, h, D.ofCells]

/-- A list that is filled from the left. -/
def fillL {β : Type} (f : β → D) (z : D) (l : List β) (i : Nat) : List D := (l.take i).map f ++ List.replicate (l.length - i) z
section
variable {β : Type} {f : β → D} {z : D} {l : List β} {i : Nat}
theorem fillL_zero : List.replicate l.length z = fillL f z l 0 := by simp [fillL]
theorem fillL_full : fillL f z l l.length = l.map f := by simp [fillL]
@[simp] theorem fillL_length (h : i ≤ l.length) : (fillL f z l i).length = l.length := by simp [fillL]; omega
theorem fillL_get (h : i < l.length) : (fillL f z l i)[i]? = some z := by
  rw [fillL, List.getElem?_append_right (by simp; omega)]
  simp [List.getElem?_replicate]
  omega
theorem fillL_set {x : β} (h : l[i]? = some x) : (fillL f z l i).set i (f x) = fillL f z l (i + 1) := by
  have hi : i < l.length := (List.getElem?_eq_some_iff.1 h).1
  have hx : l[i] = x := (List.getElem?_eq_some_iff.1 h).2
  obtain ⟨m, hm⟩ : ∃ m, l.length - i = m + 1 := ⟨l.length - i - 1, by omega⟩
  rw [fillL, fillL, hm, show l.length - (i + 1) = m from by omega, List.replicate_succ, List.set_append_right _ _ (by simp; omega)]
  have : i - (List.map f (l.take i)).length = 0 := by simp; omega
  rw [this, List.set_cons_zero, List.take_succ_eq_append_getElem hi, List.map_append, hx]
  simp
end

/-- Some cells of an element of an owned slice are written. -/
theorem stD_part {z i f : Nat} {L c : List D} {v : Value} (h : L[i]? = some (.agg c)) (hf : f < c.length) : stD 1 (.arr z L) (.ref i f) (.v v) = some (.arr z (L.set i (.agg (putCells c f [.v v])))) := by
  have h2 : (D.v v).cells = [.v v] := rfl
  have h3 : f + 1 ≤ c.length := hf
  simp [stD, h, h2, h3, D.ofCells]

/-- A list that is marked from the left. -/
def markL {β : Type} (g : Nat → D) (f : β → D) (l : List β) (i : Nat) : List D := (List.range i).map g ++ (l.drop i).map f
section
variable {β : Type} {g : Nat → D} {f : β → D} {l : List β} {i : Nat}
theorem markL_zero : l.map f = markL g f l 0 := by simp [markL]
theorem markL_full : markL g f l l.length = (List.range l.length).map g := by simp [markL]
@[simp] theorem markL_length (h : i ≤ l.length) : (markL g f l i).length = l.length := by simp [markL]; omega
theorem markL_get (h : i < l.length) : (markL g f l i)[i]? = some (f l[i]) := by
  rw [markL, List.getElem?_append_right (by simp)]
  simp [h]
theorem markL_set (h : i < l.length) : (markL g f l i).set i (g i) = markL g f l (i + 1) := by
  rw [markL, markL, List.drop_eq_getElem_cons h, List.set_append_right _ _ (by simp), List.map_cons, List.length_map, List.length_range, Nat.sub_self, List.set_cons_zero, List.range_succ, List.map_append]
  simp
end

theorem mkArr_nil {z : Nat} : mkArr z [] = some (.arr z []) := rfl
@[simp] theorem chkA_map {β : Type} {z : Nat} {l : List β} {f : β → D} (h : ∀ x, (f x).isV = true) : chkA (.arr z (l.map f)) = some (.arr z (l.map f)) := by
  have : (l.map f).all D.isV = true := by simp [h]
  simp only [chkA, this, if_true]
theorem sliceD_nat {z i j : Nat} {l : List D} {k k' : IntKind} (h1 : i ≤ j) (h2 : j ≤ l.length) : sliceD false z (.arr z l) (.v (.int k (i : Int))) (.v (.int k' (j : Int))) = some (.arr z ((l.take j).drop i)) := by
  simp only [sliceD, Int.toNat_natCast, true_and]
  rw [if_pos]
  omega
theorem sliceHi_nat {z i : Nat} {l : List D} {k : IntKind} (h : i ≤ l.length) : sliceHi false z (.arr z l) (.v (.int k (i : Int))) = some (.arr z (l.drop i)) := by
  simp only [sliceHi, Int.toNat_natCast, true_and]
  rw [if_pos]
  omega
theorem wrap_neg {a b : Int} : IntKind.i64.wrap (a + IntKind.i64.wrap (-b)) = IntKind.i64.wrap (a - b) := by
  simp only [IntKind.wrap_i64]
  omega
@[simp] theorem ite_B {p : Prop} [Decidable p] {a b : Bool} : (if p then D.v (.bool a) else D.v (.bool b)) = D.v (.bool (if p then a else b)) := by split <;> rfl

/-! ### loops -/
theorem iter_mono {body : List D → Option Out} : ∀ (n : Nat) (s : List D) (o : Out), iter body n s = some o → ∀ m, n ≤ m → iter body m s = some o
  | 0, _, _, h, _, _ => by simp [iter] at h
  | n + 1, s, o, h, m, hm => by
    obtain ⟨m, rfl⟩ : ∃ q, m = q + 1 := ⟨m - 1, by omega⟩
    simp only [iter] at h ⊢
    split at h
    · rename_i s' hb
      exact iter_mono n s' o h m (by omega)
    · exact h

theorem loopC_of {body : List D → Option Out} {s : List D} {o : Out} (n : Nat) (h : iter body n s = some o) : loopC body s = some o := by
  have hex : ∃ n, (iter body n s).isSome = true := ⟨n, by rw [h]; rfl⟩
  unfold loopC
  rw [dif_pos hex]
  obtain ⟨o', ho⟩ := Option.isSome_iff_exists.1 (Classical.choose_spec hex)
  rw [ho]
  have h1 := iter_mono _ _ _ ho (max n (Classical.choose hex)) (by omega)
  have h2 := iter_mono _ _ _ h (max n (Classical.choose hex)) (by omega)
  rw [h1] at h2
  exact h2

/-- A loop that comes to an end in some number of rounds. -/
inductive Runs (body : List D → Option Out) : List D → Out → Prop where
  | ext {s : List D} {i : Nat} {δ : List D} : body s = some (.ext i δ) → Runs body s (.ext i δ)
  | ret {s : List D} {rs us : List D} : body s = some (.ret rs us) → Runs body s (.ret rs us)
  | nrm {s s' : List D} {o : Out} : body s = some (.nrm s') → Runs body s' o → Runs body s o

theorem Runs.iter {body : List D → Option Out} {s : List D} {o : Out} (h : Runs body s o) : ∃ n, V.iter body n s = some o := by
  induction h with
  | ext h => exact ⟨1, by simp [V.iter, h]⟩
  | ret h => exact ⟨1, by simp [V.iter, h]⟩
  | nrm h _ ih =>
    obtain ⟨n, hn⟩ := ih
    exact ⟨n + 1, by simp [V.iter, h, hn]⟩
theorem Runs.loop {body : List D → Option Out} {s : List D} {o : Out} (h : Runs body s o) : loopC body s = some o := by
  obtain ⟨n, hn⟩ := h.iter
  exact loopC_of n hn

/-- A loop over a list; the state is a function of the place and of what is gathered. -/
def goL {α β : Type} (g : Nat → β → α → α ⊕ Out) (fin : α → Out) : Nat → List β → α → Out
  | _, [], a => fin a
  | i, x :: l, a => match g i x a with
    | .inl a' => goL g fin (i + 1) l a'
    | .inr o => o
def Out.ends : Out → Bool
  | .nrm _ => false
  | _ => true
theorem Runs.one {body : List D → Option Out} {s : List D} {o : Out} (h : body s = some o) (ho : o.ends = true) : Runs body s o := by
  cases o with
  | nrm _ => simp [Out.ends] at ho
  | ext _ _ => exact .ext h
  | ret _ _ => exact .ret h

theorem Runs.list {α β : Type} {body : List D → Option Out} (l : List β) (st : Nat → α → List D) (Inv : Nat → α → Prop) (g : Nat → β → α → α ⊕ Out) (fin : α → Out)
    (hs : ∀ i x a, l[i]? = some x → Inv i a → match g i x a with
      | .inl a' => body (st i a) = some (.nrm (st (i + 1) a')) ∧ Inv (i + 1) a'
      | .inr o => body (st i a) = some o ∧ o.ends = true)
    (he : ∀ a, Inv l.length a → body (st l.length a) = some (fin a) ∧ (fin a).ends = true) (a : α) (h0 : Inv 0 a) : Runs body (st 0 a) (goL g fin 0 l a) := by
  have key : ∀ (n i : Nat) (a : α), i + n = l.length → Inv i a → Runs body (st i a) (goL g fin i (l.drop i) a) := by
    intro n
    induction n with
    | zero =>
      intro i a hi hI
      have : i = l.length := by omega
      subst this
      rw [List.drop_length]
      exact Runs.one (he a hI).1 (he a hI).2
    | succ n ih =>
      intro i a hi hI
      have hlt : i < l.length := by omega
      rw [List.drop_eq_getElem_cons hlt]
      have h := hs i l[i] a (List.getElem?_eq_getElem hlt) hI
      simp only [goL]
      split at h
      · exact .nrm h.1 (ih (i + 1) _ (by omega) h.2)
      · exact Runs.one h.1 h.2
  simpa using key l.length 0 a (by omega) h0

theorem loop_list {α β : Type} {body : List D → Option Out} (l : List β) (st : Nat → α → List D) (Inv : Nat → α → Prop) (g : Nat → β → α → α ⊕ Out) (fin : α → Out)
    (hs : ∀ i x a, l[i]? = some x → Inv i a → match g i x a with
      | .inl a' => body (st i a) = some (.nrm (st (i + 1) a')) ∧ Inv (i + 1) a'
      | .inr o => body (st i a) = some o ∧ o.ends = true)
    (he : ∀ a, Inv l.length a → body (st l.length a) = some (fin a) ∧ (fin a).ends = true) (a : α) (h0 : Inv 0 a) {s0 : List D} (h : s0 = st 0 a) : loopC body s0 = some (goL g fin 0 l a) := by
  rw [h]
  exact (Runs.list l st Inv g fin hs he a h0).loop

/-- A loop whose state at each round is known: n rounds, then the end. -/
theorem loop_for {body : List D → Option Out} (n : Nat) (st : Nat → List D) (o : Out) (hs : ∀ i, i < n → body (st i) = some (.nrm (st (i + 1)))) (he : body (st n) = some o) (ho : o.ends = true) {s0 : List D} (h : s0 = st 0) : loopC body s0 = some o := by
  rw [h]
  have key : ∀ (m i : Nat), i + m = n → Runs body (st i) o := by
    intro m
    induction m with
    | zero =>
      intro i hi
      have : i = n := by omega
      subst this
      exact Runs.one he ho
    | succ m ih => exact fun i hi => .nrm (hs i (by omega)) (ih (i + 1) (by omega))
  exact (key n 0 (by omega)).loop

/-- A loop that goes over a list as long as all is well. -/
def allI {β : Type} (p : Nat → β → Bool) : Nat → List β → Bool
  | _, [] => true
  | i, x :: l => p i x && allI p (i + 1) l
theorem loop_all {β : Type} {body : List D → Option Out} (l : List β) (st : Nat → List D) (p : Nat → β → Bool) (o1 o2 : Out) (hs : ∀ (i : Nat) (hi : i < l.length), body (st i) = some (if p i l[i] = true then .nrm (st (i + 1)) else o1)) (he : body (st l.length) = some o2)
    (h1 : o1.ends = true) (h2 : o2.ends = true) {s0 : List D} (h : s0 = st 0) : loopC body s0 = some (if allI p 0 l = true then o2 else o1) := by
  have e : ∀ (m : List β) (i : Nat), goL (fun i x (_ : Unit) => if p i x = true then .inl () else .inr o1) (fun _ => o2) i m () = if allI p i m = true then o2 else o1 := by
    intro m
    induction m with
    | nil => intro i; simp [goL, allI]
    | cons x m ih =>
      intro i
      simp only [goL, allI]
      by_cases hp : p i x = true
      · simp [hp, ih]
      · simp [hp]
  rw [← e]
  refine loop_list l (fun i _ => st i) (fun _ _ => True) _ _ (fun i x a hx _ => ?_) (fun _ _ => ⟨he, h2⟩) () trivial h
  have hi : i < l.length := (List.getElem?_eq_some_iff.1 hx).1
  have hxe : l[i] = x := (List.getElem?_eq_some_iff.1 hx).2
  have := hs i hi
  rw [hxe] at this
  by_cases hp : p i x = true
  · simpa [hp] using this
  · simpa [hp, h1] using this

/-- A loop that gathers over a list. -/
theorem loop_foldl {α β : Type} {body : List D → Option Out} (l : List β) (st : Nat → α → List D) (f : α → β → α) (fin : α → Out) (a : α) (hs : ∀ (i : Nat) (a : α) (hi : i < l.length), body (st i a) = some (.nrm (st (i + 1) (f a l[i])))) (he : ∀ a, body (st l.length a) = some (fin a))
    (h1 : ∀ a, (fin a).ends = true) {s0 : List D} (h : s0 = st 0 a) : loopC body s0 = some (fin (l.foldl f a)) := by
  have e : ∀ (m : List β) (i : Nat) (a : α), goL (fun _ x a => .inl (f a x)) fin i m a = fin (m.foldl f a) := by
    intro m
    induction m with
    | nil => intro i a; rfl
    | cons x m ih => intro i a; simp only [goL, List.foldl_cons]; exact ih (i + 1) (f a x)
  rw [← e l 0 a]
  exact loop_list l st (fun _ _ => True) (fun _ x a => .inl (f a x)) _ (fun i x a hx _ => ⟨by
    have hi : i < l.length := (List.getElem?_eq_some_iff.1 hx).1
    have hxe : l[i] = x := (List.getElem?_eq_some_iff.1 hx).2
    rw [← hxe]
    exact hs i a hi, trivial⟩) (fun a _ => ⟨he a, h1 a⟩) a trivial h

/-- A loop that gathers over a list, and looks at the place too. -/
def foldI {α β : Type} (f : Nat → α → β → α) : Nat → List β → α → α
  | _, [], a => a
  | i, x :: l, a => foldI f (i + 1) l (f i a x)
theorem loop_foldi {α β : Type} {body : List D → Option Out} (l : List β) (st : Nat → α → List D) (Inv : Nat → α → Prop) (f : Nat → α → β → α) (fin : α → Out) (a : α) (hs : ∀ (i : Nat) (a : α) (hi : i < l.length), Inv i a → body (st i a) = some (.nrm (st (i + 1) (f i a l[i]))) ∧ Inv (i + 1) (f i a l[i]))
    (he : ∀ a, Inv l.length a → body (st l.length a) = some (fin a)) (h1 : ∀ a, (fin a).ends = true) (h0 : Inv 0 a) {s0 : List D} (h : s0 = st 0 a) : loopC body s0 = some (fin (foldI f 0 l a)) := by
  have e : ∀ (m : List β) (i : Nat) (a : α), goL (fun i x a => .inl (f i a x)) fin i m a = fin (foldI f i m a) := by
    intro m
    induction m with
    | nil => intro i a; rfl
    | cons x m ih => intro i a; simp only [goL, foldI]; exact ih (i + 1) (f i a x)
  rw [← e l 0 a]
  refine loop_list l st Inv (fun i x a => .inl (f i a x)) _ (fun i x a hx hI => ?_) (fun a hI => ⟨he a hI, h1 a⟩) a h0 h
  have hi : i < l.length := (List.getElem?_eq_some_iff.1 hx).1
  have hxe : l[i] = x := (List.getElem?_eq_some_iff.1 hx).2
  rw [← hxe]
  exact hs i a hi hI

theorem loop_bind {body : List D → Option Out} {s0 : List D} {K : Out → Option Out} {r : Option Out} (o : Out) (h : loopC body s0 = some o) (hk : K o = r) : (loopC body s0).bind K = r := by
  rw [h]
  exact hk

/-- A loop whose measure falls. -/
theorem loop_wf {α : Type} {body : List D → Option Out} (st : α → List D) (Inv : α → Prop) (μ : α → Nat) (Q : α → Out → Prop)
    (hs : ∀ a, Inv a → (∃ a', body (st a) = some (.nrm (st a')) ∧ Inv a' ∧ μ a' < μ a ∧ ∀ o, Q a' o → Q a o) ∨ ∃ o, body (st a) = some o ∧ o.ends = true ∧ Q a o) (a : α) (h : Inv a) {s0 : List D} (h0 : s0 = st a) : ∃ o, loopC body s0 = some o ∧ Q a o := by
  rw [h0]
  have key : ∀ (n : Nat) (a : α), μ a < n → Inv a → ∃ o, Runs body (st a) o ∧ Q a o := by
    intro n
    induction n with
    | zero => exact fun a h => by omega
    | succ n ih =>
      intro a hn hI
      rcases hs a hI with ⟨a', h1, h2, h3, h4⟩ | ⟨o, h1, h2, h3⟩
      · obtain ⟨o, h5, h6⟩ := ih a' (by omega) h2
        exact ⟨o, .nrm h1 h5, h4 o h6⟩
      · exact ⟨o, Runs.one h1 h2, h3⟩
  obtain ⟨o, h1, h2⟩ := key (μ a + 1) a (by omega) h
  exact ⟨o, h1.loop, h2⟩

theorem loop_wf_bind {α : Type} {body : List D → Option Out} {K : Out → Option Out} (R : Option Out → Prop) (st : α → List D) (Inv : α → Prop) (μ : α → Nat) (Q : Out → Prop)
    (hs : ∀ a, Inv a → (∃ a', body (st a) = some (.nrm (st a')) ∧ Inv a' ∧ μ a' < μ a) ∨ ∃ o, body (st a) = some o ∧ o.ends = true ∧ Q o) (a : α) (h : Inv a) {s0 : List D} (h0 : s0 = st a) (hk : ∀ o, Q o → R (K o)) : R ((loopC body s0).bind K) := by
  obtain ⟨o, h1, h2⟩ := loop_wf st Inv μ (fun _ o => Q o) (fun a ha => by
    rcases hs a ha with ⟨a', g1, g2, g3⟩ | h
    · exact .inl ⟨a', g1, g2, g3, fun _ h => h⟩
    · exact .inr h) a h h0
  rw [h1]
  exact hk o h2

end Go.V
/-
  strings.FieldsFunc at 'c < '0' || c > '9''.
-/
namespace Go.Proofs.YtoocdnbkiejihaaDoor
open Go Go.V

theorem e_impl_numbersIn_1 (x : Int) : F_impl_numbersIn_1 [.v (.int .i32 x)] = some (.ret [B (decide (x < 48) || decide (57 < x))] []) := by
  rw [t_impl_numbersIn_1]
  by_cases h : x < 48 <;> simp [h]
/-- No digit. -/
def isSep (x : Nat) : Bool := decide (x < 48) || decide (57 < x)
@[reducible] def S_strings_FieldsFunc : FS := S_FieldsFunc 90 isSep
set_option maxRecDepth 100000 in
theorem M_strings_FieldsFunc : Meets gl0 Tryd.prog 89 S_strings_FieldsFunc :=
  M_FieldsFunc Tryd.lays229 (by kernel_rfl) (Go.Proofs.enters_of Tryd.func90 (by kernel_rfl) rfl) M_impl_numbersIn_1 rfl rfl
    (fun x _ => by
      show F_impl_numbersIn_1 _ = _
      rw [e_impl_numbersIn_1]
      have h1 : ((x : Int) < 48) ↔ x < 48 := by omega
      have h2 : ((57 : Int) < x) ↔ 57 < x := by omega
      simp only [isSep, h1, h2]) (by kernel_rfl) (by kernel_rfl)
end Go.Proofs.YtoocdnbkiejihaaDoor
/-
  The evaluator with recasts: from some place of a function on, slots that own a slice hold plain data (what is handed back, and read beside).
-/
namespace Go.V
open Go.RowKit
set_option linter.unusedSimpArgs false

@[reducible] def frz1 (K : List Kd) (fz : List Nat) (s : Nat) (k : Kd) : Kd :=
  match k with
  | .own z lv false => match memN s fz with
    | true => .dat (maxN 1 lv)
    | false => .own z lv false
  | .via r => match memN r fz with
    | true => .dat (maxN 1 (rootLv K r))
    | false => .via r
  | .ref r => match memN r fz with
    | true => .dat (maxN 1 (rootLv K r))
    | false => .ref r
  | k => k
@[reducible] def frzL (K : List Kd) (fz : List Nat) : List Kd → Nat → List Kd
  | [], _ => []
  | k :: l, s => frz1 K fz s k :: frzL K fz l (Nat.succ s)
@[reducible] def rcx (c : Cx) (fz : List Nat) : Cx := { c with K := frzL c.K fz c.K 0 }
@[reducible] def retO (k : Out → Option Out) (o : Out) : Option Out :=
  match o with
  | .nrm _ => none
  | .ext _ _ => none
  | .ret a b => k (.ret a b)
/-- What a copy of a slot holds, once that slot's slice is plain data. -/
def viaD (p x : D) : D :=
  match p with
  | .bad => .bad
  | _ => x
@[reducible] def viaC (K : List Kd) (δ : List D) : List Nat → (List D → Option Out) → Option Out
  | [], k => k []
  | s :: ss, k => match nthK K s with
    | .via r => nthC δ s fun p => nthC δ r fun x => viaC K δ ss fun l => k (viaD p x :: l)
    | _ => viaC K δ ss fun l => k (.bad :: l)
@[reducible] noncomputable def denR (c : Cx) (R : List (Nat × List Nat)) : Nat → Nat → Code → List D → (Out → Option Out) → Option Out
  | p, bid, .seq a b, δ, k => denR c R (Nat.mul 2 p) bid a δ fun o => seqK o (fun δ' => match look R p with
      | some fz => viaC c.K δ' (depsAll c.K fz) fun l => setManyC δ' (depsAll c.K fz) l fun δ'' => den (rcx c fz) bid b δ'' (retO k)
      | none => denR c R (Nat.add (Nat.mul 2 p) 1) bid b δ' k) k
  | p, bid, .cond x t e, δ, k => opC δ x fun q => ifD q (denR c R (Nat.mul 2 p) bid t δ k) (denR c R (Nat.add (Nat.mul 2 p) 1) bid e δ k)
  | p, _, .block id b, δ, k => denR c R (Nat.mul 2 p) id b δ fun o => blkK id o k
  | _, bid, x, δ, k => den c bid x δ k
@[reducible] noncomputable def denFR (c : Cx) (R : List (Nat × List Nat)) (fn : Func) (ds : List D) : Option Out :=
  match fn.body with
  | none => none
  | some b => denR c R 1 0 b (padTo fn.ntmps ds) fun o => match o with
    | .nrm δ => resC c δ c.res fun rs => getC δ c.ios fun us => usK us (some (.ret rs us))
    | .ext _ _ => none
    | .ret rs us => some (.ret rs us)
def resSl : List ResultVar → List Nat
  | [] => []
  | .tmp t :: l => t :: resSl l
  | .cell a _ :: l => a :: resSl l
def chgS (c : Cx) (fz : List Nat) : List Nat := fz ++ depsAll c.K fz
def okFz (c : Cx) (fz : List Nat) : Bool :=
  (fz.all fun s => match nthK c.K s with
    | .own _ _ false => true
    | _ => false) && ((resSl c.res).all fun s => !memN s (chgS c fz)) && (c.ios.all fun s => !memN s (chgS c fz))
def okCodeR (c : Cx) (R : List (Nat × List Nat)) : Nat → Nat → Code → Bool
  | p, bid, .seq a b => okCodeR c R (Nat.mul 2 p) bid a && (match look R p with
      | some fz => okFz c fz && okCode (rcx c fz) bid b
      | none => okCodeR c R (Nat.add (Nat.mul 2 p) 1) bid b)
  | p, bid, .cond x t e => Nat.ble (lvOf c.K x) 2 && okCodeR c R (Nat.mul 2 p) bid t && okCodeR c R (Nat.add (Nat.mul 2 p) 1) bid e
  | p, _, .block id b => okCodeR c R (Nat.mul 2 p) id b
  | _, bid, x => okCode c bid x
def okFnR (c : Cx) (R : List (Nat × List Nat)) (fn : Func) (pm rm : List Kd) : Bool :=
  (match fn.body with
    | some b => okCodeR c R 1 0 b
    | none => false) && Nat.beq (lenN c.K) fn.ntmps && prefK pm c.K && okPm pm && okRes c c.res rm && decide (c.ios = ioIdx 0 pm)

section
variable {P : Program} {c : Cx} {B : Nat} {X : Nat → Prop} {w0 : World} {F0 F : Nat → Prop} {O : Nat → Option (Nat × Nat)} {a : Act} {w : World} {δ : List D} {fz : List Nat}

theorem len_frzL (K : List Kd) (fz : List Nat) : ∀ (l : List Kd) (s : Nat), (frzL K fz l s).length = l.length
  | [], _ => rfl
  | _ :: l, s => by simp [frzL, len_frzL K fz l]
theorem nthK_frzL (K : List Kd) (fz : List Nat) : ∀ (l : List Kd) (s i : Nat), nthK (frzL K fz l s) i = frz1 K fz (s + i) (nthK l i)
  | [], s, i => by simp [frzL, nthK, frz1]
  | k :: l, s, 0 => by simp [frzL, nthK]
  | k :: l, s, i + 1 => by
    simp only [frzL, nthK]
    rw [nthK_frzL K fz l (Nat.succ s) i, show Nat.succ s + i = s + (i + 1) by omega]
theorem nthK_rcx (c : Cx) (fz : List Nat) (s : Nat) : nthK (rcx c fz).K s = frz1 c.K fz s (nthK c.K s) := by
  show nthK (frzL c.K fz c.K 0) s = _
  rw [nthK_frzL, Nat.zero_add]
theorem okFz_own (h : okFz c fz = true) {s : Nat} (hs : s ∈ fz) : ∃ z lv, nthK c.K s = .own z lv false := by
  unfold okFz at h
  simp only [Bool.and_eq_true, List.all_eq_true] at h
  have := h.1.1 s hs
  split at this
  · exact ⟨_, _, ‹_›⟩
  · cases this
theorem memN_t {s : Nat} {l : List Nat} (h : s ∈ l) : memN s l = true := by rw [memN_eq]; exact decide_eq_true h
theorem memN_f {s : Nat} {l : List Nat} (h : s ∉ l) : memN s l = false := by rw [memN_eq]; exact decide_eq_false h
theorem frz_root {r : Nat} (hr : r ∉ fz) (h : isRoot c.K r) : nthK (rcx c fz).K r = nthK c.K r := by
  rw [nthK_rcx]
  unfold isRoot at h
  generalize nthK c.K r = k at h
  cases k
  case own z lv io => cases io <;> simp [frz1, memN_f hr]
  case box n lv io => rfl
  all_goals exact h.elim
theorem frz_back {r : Nat} (h : isRoot (rcx c fz).K r) : isRoot c.K r ∧ nthK (rcx c fz).K r = nthK c.K r := by
  unfold isRoot at h ⊢
  rw [nthK_rcx] at h ⊢
  generalize nthK c.K r = k at h
  cases k
  case own z lv io =>
    refine ⟨trivial, ?_⟩
    cases io
    case true => rfl
    by_cases hr : r ∈ fz
    · simp [frz1, memN_t hr] at h
    · simp [frz1, memN_f hr]
  case box n lv io => exact ⟨trivial, rfl⟩
  case via r' => by_cases hr : r' ∈ fz <;> simp [frz1, memN_t, memN_f, hr] at h
  case ref r' => by_cases hr : r' ∈ fz <;> simp [frz1, memN_t, memN_f, hr] at h
  all_goals exact h.elim
theorem frz_io (s : Nat) : isIo (nthK (rcx c fz).K s) = isIo (nthK c.K s) := by
  rw [nthK_rcx]
  generalize nthK c.K s = k
  cases k
  case own z lv io =>
    cases io
    case true => rfl
    by_cases hr : s ∈ fz
    · simp [frz1, memN_t hr, isIo]
    · simp [frz1, memN_f hr]
  case via r' => by_cases hr : r' ∈ fz <;> simp [frz1, memN_t, memN_f, hr, isIo]
  case ref r' => by_cases hr : r' ∈ fz <;> simp [frz1, memN_t, memN_f, hr, isIo]
  all_goals rfl
theorem isOwn_of {K K' : List Kd} {r : Nat} (h : nthK K' r = nthK K r) : isOwn K' r = isOwn K r := by unfold isOwn; rw [h]
theorem FB_one {F' : Nat → Prop} {b lv : Nat} (h1 : F' b) (h2 : B ≤ b) : FB F' B (maxN 1 lv) b := by
  rw [maxN_eq]
  match lv with
  | 0 => exact ⟨h1, h2⟩
  | 1 => exact ⟨h1, h2⟩
  | n + 2 =>
    rw [Nat.max_eq_right (by omega)]
    exact h1

def viaF (K : List Kd) (δ : List D) (s : Nat) : D :=
  match nthK K s with
  | .via r => viaD (nth δ s) (nth δ r)
  | _ => .bad
theorem viaC_eq (K : List Kd) (δ : List D) : ∀ (ss : List Nat) (k : List D → Option Out), viaC K δ ss k = k (ss.map (viaF K δ))
  | [], _ => rfl
  | s :: ss, k => by
    simp only [viaC, List.map_cons, viaF]
    split
    · simp only [nthC_eq]
      exact viaC_eq K δ ss _
    · exact viaC_eq K δ ss _
theorem nth_setMany_map (f : Nat → D) : ∀ (ss : List Nat) (δ : List D) (s : Nat), s ∈ ss → nth (setMany δ ss (ss.map f)) s = if s < δ.length then f s else .bad
  | i :: ss, δ, s, h => by
    simp only [List.map_cons, setMany]
    by_cases hs : s ∈ ss
    · rw [nth_setMany_map f ss _ s hs, len_setAt]
    · rw [nth_setMany_notin _ _ _ _ hs]
      have : s = i := by simpa [hs] using h
      subst this
      exact nth_setAt_eq _ _ _

open Classical in
/-- What some slots own is from now on plain data. -/
theorem Inv.recast (h : Inv c B X w0 F0 F O a w δ) (hfz : okFz c fz = true) : ∃ F' O', Inv (rcx c fz) B X w0 F0 F' O' a w (setMany δ (depsAll c.K fz) ((depsAll c.K fz).map (viaF c.K δ))) := by
  let G : Nat → Prop := fun b => ∃ s ∈ fz, O b = some (s, 0) ∧ B ≤ b
  have hF : ∀ b, F b → F b ∨ G b := fun b hb => .inl hb
  have hG : ∀ (b s i : Nat), O b = some (s, i) → (i = 0 → s ∉ fz) → ¬ G b := by
    rintro b s i h1 h2 ⟨s', h3, h4, _⟩
    rw [h1] at h4
    cases h4
    exact h2 rfl h3
  refine ⟨fun b => F b ∨ G b, fun b => if G b then none else O b, ?_⟩
  have hO : ∀ (b s i : Nat), (i = 0 → s ∉ fz) → O b = some (s, i) → (if G b then none else O b) = some (s, i) := fun b s i h2 h1 => by rw [if_neg (hG b s i h1 h2), h1]
  have own : ∀ r ∈ fz, nth δ r ≠ .bad → RepV w (FB (fun b => F b ∨ G b) B (maxN 1 (rootLv c.K r))) (nth δ r) (av a r) := by
    intro r hr hb
    obtain ⟨z, lv, hk⟩ := okFz_own hfz hr
    have h0 := (h.slot r).resolve_left hb
    rw [hk] at h0
    have h1 := h0.resolve_left hb
    simp only [rootLv, hk]
    refine RepV_mono (fun b hb => ?_) (fun _ _ => rfl) (OwnV_rep h1)
    rcases hb with hb | hb
    · exact FB_le (by rw [maxN_eq]; exact Nat.le_max_right _ _) b (FB_mono hF b hb)
    · exact FB_one (.inr ⟨r, hr, hb.1, hb.2 rfl⟩) (hb.2 rfl)
  refine ⟨h.la.trans (len_frzL _ _ _ _).symm, (len_setMany _ _ _).trans (h.ld.trans (len_frzL _ _ _ _).symm), h.df, fun s => ?_, fun b hb => ?_, fun b p hp => ?_, fun b hb => .inl (h.f0 b hb), fun b hb => ?_, h.bb, h.os, h.tape, h.output, h.keep, gOk_mono (fun b hb => .inl hb) (fun _ _ => rfl) h.gl⟩
  · by_cases hd : s ∈ depsAll c.K fz
    · by_cases hlt : s < δ.length
      case neg =>
        refine .inl ?_
        rw [nth_setMany_map _ _ _ _ hd, if_neg hlt]
      have e : nth (setMany δ (depsAll c.K fz) ((depsAll c.K fz).map (viaF c.K δ))) s = viaF c.K δ s := by rw [nth_setMany_map _ _ _ _ hd, if_pos hlt]
      obtain ⟨r, hr, hk⟩ := depsAll_kind _ hd
      rcases hk with hk | hk
      case inr => exact .inl (e.trans (by simp only [viaF, hk]))
      have e2 : viaF c.K δ s = viaD (nth δ s) (nth δ r) := by simp only [viaF, hk]
      by_cases hb : nth δ s = .bad
      · refine .inl (e.trans (e2.trans ?_))
        rw [hb]
        rfl
      have e3 : viaD (nth δ s) (nth δ r) = nth δ r := by
        generalize nth δ s = q at hb
        cases q <;> first | rfl | exact absurd rfl hb
      have h0 := (h.slot s).resolve_left hb
      rw [hk] at h0
      obtain ⟨b1, b2, b3, b4⟩ := h0
      refine .inr ?_
      rw [nthK_rcx, hk, e, e2, e3]
      simp only [frz1, memN_t hr]
      exact .inr (by rw [b1]; exact own r hr b3)
    have e : nth (setMany δ (depsAll c.K fz) ((depsAll c.K fz).map (viaF c.K δ))) s = nth δ s := nth_setMany_notin _ _ _ _ hd
    by_cases hb : nth δ s = .bad
    · exact .inl (e.trans hb)
    have h0 := (h.slot s).resolve_left hb
    refine .inr ?_
    have hkeep : ∀ r, isRoot c.K r → nth (setMany δ (depsAll c.K fz) ((depsAll c.K fz).map (viaF c.K δ))) r = nth δ r := fun r hr => nth_setMany_notin _ _ _ _ (root_notinAll hr _)
    rw [nthK_rcx, e]
    generalize hk : nthK c.K s = k at h0
    cases k
    case dat lv => exact h0.imp id (RepV_mono (FB_mono hF) (fun _ _ => rfl))
    case own z lv io =>
      have h1 := h0.resolve_left hb
      by_cases hs : s ∈ fz
      · obtain ⟨z', lv', hk'⟩ := okFz_own hfz hs
        rw [hk] at hk'
        cases hk'
        simp only [frz1, memN_t hs]
        have ho := own s hs hb
        simp only [rootLv, hk] at ho
        exact .inr ho
      · have e2 : frz1 c.K fz s (.own z lv io) = .own z lv io := by cases io <;> simp [frz1, memN_f hs]
        rw [e2]
        exact .inr (OwnV_mono (FB_mono hF) (fun _ _ => rfl) (fun g hg => ⟨⟨hO g s 0 (fun _ => hs) hg.1, hg.2⟩, rfl⟩) h1)
    case box n lv io =>
      have h1 := h0.resolve_left hb
      have hs : s ∉ fz := fun hs => by
        obtain ⟨z', lv', hk'⟩ := okFz_own hfz hs
        rw [hk] at hk'
        cases hk'
      exact .inr (BoxV_mono (FB_mono hF) (fun _ _ => rfl) (fun g hg => ⟨⟨hO g s 0 (fun _ => hs) hg.1, hg.2⟩, rfl⟩) h1)
    case via r =>
      have hr : r ∉ fz := fun hr => hd (mem_depsAll (.inl hk) _ hr)
      obtain ⟨b1, b2, b3, b4⟩ := h0
      simp only [frz1, memN_f hr]
      exact ⟨b1, b2, by rw [hkeep r (isOwn_root b4)]; exact b3, by rw [isOwn_of (frz_root hr (isOwn_root b4))]; exact b4⟩
    case ref r =>
      have hr : r ∉ fz := fun hr => hd (mem_depsAll (.inr hk) _ hr)
      obtain ⟨i, f, b1, b2, b3⟩ := h0
      simp only [frz1, memN_f hr]
      exact ⟨i, f, b1, by rw [hkeep r (RefV_root b3)]; exact b2, by rw [frz_root hr (RefV_root b3)]; exact b3⟩
    case tup ms =>
      obtain ⟨l, vs, b1, b2, b3⟩ := h0
      exact ⟨l, vs, b1, b2, fun i => Lone_mono hF (fun _ _ => rfl) (fun g hg => ⟨hO g s (i + 1) (fun h => by omega) hg, rfl⟩) (b3 i)⟩
    case no => trivial
  · rcases hb with hb | hb
    · obtain ⟨h1, h2⟩ := h.fl b hb
      refine ⟨h1, ?_⟩
      simp only [h2]
      split <;> rfl
    · obtain ⟨s, h1, h2, h3⟩ := hb
      exact ⟨(h.ol b _ h2).1, if_pos ⟨s, h1, h2, h3⟩⟩
  · split at hp
    · cases hp
    · exact h.ol b p hp
  · rcases hb with hb | ⟨s, h1, h2, h3⟩
    · exact h.fn b hb
    · exact .inr h3
/-- Back to the function's own kinds: what was recast is void. -/
theorem Inv.uncast (h : Inv (rcx c fz) B X w0 F0 F O a w δ) : Inv c B X w0 F0 F O a w (setMany δ (chgS c fz) []) := by
  refine ⟨h.la.trans (len_frzL _ _ _ _), (len_setMany _ _ _).trans (h.ld.trans (len_frzL _ _ _ _)), h.df, fun s => ?_, h.fl, h.ol, h.f0, h.fn, h.bb, h.os, h.tape, h.output, h.keep, h.gl⟩
  by_cases hd : s ∈ chgS c fz
  · exact .inl (nth_kill _ _ _ hd)
  have e : nth (setMany δ (chgS c fz) []) s = nth δ s := nth_setMany_notin _ _ _ _ hd
  by_cases hb : nth δ s = .bad
  · exact .inl (e.trans hb)
  have h0 := (h.slot s).resolve_left hb
  refine .inr ?_
  have hs : s ∉ fz := fun hs => hd (List.mem_append_left _ hs)
  have hdp : s ∉ depsAll c.K fz := fun hs => hd (List.mem_append_right _ hs)
  have hkeep : ∀ r, r ∉ fz → isRoot c.K r → nth (setMany δ (chgS c fz) []) r = nth δ r := fun r h1 h2 => nth_setMany_notin _ _ _ _ fun hm => by
    rcases List.mem_append.1 hm with hm | hm
    · exact h1 hm
    · exact root_notinAll h2 _ hm
  rw [nthK_rcx] at h0
  rw [e]
  generalize hk : nthK c.K s = k at h0
  cases k
  case own z lv io =>
    have e2 : frz1 c.K fz s (.own z lv io) = .own z lv io := by cases io <;> simp [frz1, memN_f hs]
    rw [e2] at h0
    exact h0
  case via r =>
    have hr : r ∉ fz := fun hr => hdp (mem_depsAll (.inl hk) _ hr)
    simp only [frz1, memN_f hr] at h0
    obtain ⟨b1, b2, b3, b4⟩ := h0
    obtain ⟨g1, g2⟩ := frz_back (isOwn_root b4)
    exact ⟨b1, b2, by rw [hkeep r hr g1]; exact b3, by rw [← isOwn_of g2]; exact b4⟩
  case ref r =>
    have hr : r ∉ fz := fun hr => hdp (mem_depsAll (.inr hk) _ hr)
    simp only [frz1, memN_f hr] at h0
    obtain ⟨i, f, b1, b2, b3⟩ := h0
    obtain ⟨g1, g2⟩ := frz_back (RefV_root b3)
    exact ⟨i, f, b1, by rw [hkeep r hr g1]; exact b2, by rw [← g2]; exact b3⟩
  all_goals exact h0

theorem resC_recast : ∀ (l : List ResultVar) (δ δ' : List D) (k : List D → Option Out), (∀ t ∈ resSl l, nth δ t = nth δ' t) → resC (rcx c fz) δ l k = resC c δ' l k
  | [], _, _, _, _ => rfl
  | .tmp t :: l, δ, δ', k, h => by
    simp only [resC, nthC_eq]
    rw [h t (by simp [resSl])]
    exact resC_recast l δ δ' _ fun t ht => h t (by simp [resSl, ht])
  | .cell b t :: l, δ, δ', k, h => by
    simp only [resC, nthC_eq]
    rw [h b (by simp [resSl])]
    cases look c.T t with
    | none => rfl
    | some i =>
      simp only
      refine congrArg _ (funext fun y => ?_)
      exact resC_recast l δ δ' _ fun t ht => h t (by simp [resSl, ht])
theorem ret_recast {V : Nat → Value} {k : Out → Option Out} {r : Out} (hfz : okFz c fz = true) (h : NextV (rcx c fz) B X w0 F0 V (fun δ => retK (rcx c fz) δ (retO k)) r a w) : NextV c B X w0 F0 V (fun δ => retK c δ k) r a w := by
  obtain ⟨⟨F, O, δ, hI, hk⟩, hV⟩ := h
  obtain ⟨rs, h1, h2, h3⟩ := retK_is hk
  unfold okFz at hfz
  simp only [Bool.and_eq_true, List.all_eq_true, Bool.not_eq_true'] at hfz
  have out : ∀ s, memN s (chgS c fz) = false → nth (setMany δ (chgS c fz) []) s = nth δ s := fun s hs => nth_setMany_notin _ _ _ _ fun hm => by
    rw [memN_t hm] at hs
    cases hs
  have hg : getAll (setMany δ (chgS c fz) []) c.ios = getAll δ c.ios := by
    have : ∀ l : List Nat, (∀ s ∈ l, memN s (chgS c fz) = false) → getAll (setMany δ (chgS c fz) []) l = getAll δ l := by
      intro l
      induction l with
      | nil => intro _; rfl
      | cons s l ih =>
        intro hl
        simp only [getAll]
        rw [out s (hl s (by simp)), ih fun t ht => hl t (by simp [ht])]
    exact this _ hfz.2
  refine ⟨⟨F, O, _, hI.uncast, retK_of (rs := rs) ?_ ?_ ?_⟩, fun s hs => hV s (by rw [frz_io]; exact hs)⟩
  · rw [← resC_recast (fz := fz) c.res δ _ _ fun t ht => (out t (hfz.1.2 t ht)).symm]
    exact h1
  · rw [hg]
    exact h2
  · rw [hg]
    exact h3

theorem denR_sound (hT : okT P c.T = true) (hS : ∀ f S, look c.S f = some S → Meets c.G P f S) (hm : P.follows .mixedOrders = true) {V : Nat → Value} {R : List (Nat × List Nat)} : ∀ (b : Code) (p bid : Nat), okCodeR c R p bid b = true → ∀ (F : Nat → Prop) (O : Nat → Option (Nat × Nat)) (a : Act) (w : World) (δ : List D),
    Inv c B X w0 F0 F O a w δ → IoV c V a → ∀ (k : Out → Option Out) (r : Out), denR c R p bid b δ k = some r → ∀ Q, (∀ e a w, Post c B X w0 F0 V k r e a w → Q e a w) → b.wp P Q a w
  | .seq x y, p, bid, hok, F, O, a, w, δ, hI, hV, k, r, hg, Q, hQ => by
    simp only [okCodeR, Bool.and_eq_true] at hok
    simp only [denR] at hg
    refine wp_seq (denR_sound hT hS hm x _ bid hok.1 F O a w δ hI hV _ r hg _ (fun e a' w' hp => ?_))
    cases e with
    | normal =>
      obtain ⟨⟨F', O', δ', hI', hk'⟩, hV'⟩ := hp
      have hok2 := hok.2
      simp only [seqK] at hk'
      cases hH : look R p with
      | none =>
        rw [hH] at hk' hok2
        exact denR_sound hT hS hm y _ bid hok2 F' O' a' w' δ' hI' hV' k r hk' Q hQ
      | some fz =>
        rw [hH] at hk' hok2
        simp only [Bool.and_eq_true] at hok2
        simp only [viaC_eq, setManyC_eq] at hk'
        obtain ⟨F2, O2, hI2⟩ := hI'.recast hok2.1
        refine den_sound (c := rcx c fz) hT hS hm y bid hok2.2 F2 O2 a' w' _ hI2 (fun s hs => hV' s (by rw [← frz_io (fz := fz)]; exact hs)) (retO k) r hk' Q (fun e a w hp => ?_)
        cases e with
        | normal => obtain ⟨⟨_, _, _, _, h⟩, _⟩ := hp; cases h
        | exit i => obtain ⟨⟨_, _, _, _, h⟩, _⟩ := hp; cases h
        | ret => exact hQ .ret _ _ (ret_recast hok2.1 hp)
        | _ => exact hp.elim
    | exit id => exact hQ _ _ _ hp
    | ret => exact hQ _ _ _ hp
    | _ => exact hp.elim
  | .cond x t e, p, bid, hok, F, O, a, w, δ, hI, hV, k, r, hg, Q, hQ => by
    simp only [okCodeR, Bool.and_eq_true] at hok
    obtain ⟨⟨hlv, hok1⟩, hok2⟩ := hok
    have hop := hI.opd (ble_iff.1 hlv)
    have key : ifD (opD δ x) (denR c R (Nat.mul 2 p) bid t δ k) (denR c R (Nat.add (Nat.mul 2 p) 1) bid e δ k) = some r := by
      simp only [denR] at hg
      cases x with
      | tmp s => simpa only [opC, nthC_eq, opD] using hg
      | const v => simpa only [opC, opD] using hg
      | func f => simpa only [opC, opD] using hg
      | global g => simp [opC] at hg
    unfold ifD at key
    split at key
    · rename_i hd
      rw [hd] at hop
      exact wp_cond_true (RepB_v hop).1 (denR_sound hT hS hm t _ bid hok1 F O a w δ hI hV k r key Q hQ)
    · rename_i hd
      rw [hd] at hop
      exact wp_cond_false (RepB_v hop).1 (denR_sound hT hS hm e _ bid hok2 F O a w δ hI hV k r key Q hQ)
    · cases key
  | .block id b, p, bid, hok, F, O, a, w, δ, hI, hV, k, r, hg, Q, hQ => by
    simp only [okCodeR] at hok
    refine wp_block (denR_sound hT hS hm b _ id hok F O a w δ hI hV _ r hg _ (fun e a' w' hp => ?_))
    cases e with
    | normal => exact hQ .normal _ _ hp
    | exit i =>
      simp only [Exit.inBlock]
      have hp' : NextV c B X w0 F0 V (fun δ => blkK id (.ext i δ) k) r a' w' := hp
      split
      · rename_i hi
        refine hQ .normal _ _ (NextV_mono hp' fun δ F O _ h => ?_)
        simp only [blkK] at h
        rw [beq_iff.2 (by simpa using hi)] at h
        exact h
      · rename_i hi
        refine hQ (.exit i) _ _ (NextV_mono hp' fun δ F O _ h => ?_)
        simp only [blkK] at h
        cases hb : Nat.beq i id
        · rw [hb] at h; exact h
        · exact absurd (by simpa using beq_iff.1 hb) hi
    | ret => exact hQ .ret _ _ hp
    | _ => exact hp.elim
  | .skip, p, bid, hok, F, O, a, w, δ, hI, hV, k, r, hg, Q, hQ => den_sound hT hS hm .skip bid hok F O a w δ hI hV k r hg Q hQ
  | .region id ops d, p, bid, hok, F, O, a, w, δ, hI, hV, k, r, hg, Q, hQ => den_sound hT hS hm (.region id ops d) bid hok F O a w δ hI hV k r hg Q hQ
  | .loop b, p, bid, hok, F, O, a, w, δ, hI, hV, k, r, hg, Q, hQ => den_sound hT hS hm (.loop b) bid hok F O a w δ hI hV k r hg Q hQ
  | .exit id, p, bid, hok, F, O, a, w, δ, hI, hV, k, r, hg, Q, hQ => den_sound hT hS hm (.exit id) bid hok F O a w δ hI hV k r hg Q hQ
  | .ret, p, bid, hok, F, O, a, w, δ, hI, hV, k, r, hg, Q, hQ => den_sound hT hS hm .ret bid hok F O a w δ hI hV k r hg Q hQ
  | .label _, _, _, hok, _, _, _, _, _, _, _, _, _, _, _, _ => by simp [okCodeR, okCode] at hok
  | .goto _, _, _, hok, _, _, _, _, _, _, _, _, _, _, _, _ => by simp [okCodeR, okCode] at hok
  | .scope _, _, _, hok, _, _, _, _, _, _, _, _, _, _, _, _ => by simp [okCodeR, okCode] at hok

theorem fn_callsR (hT : okT P c.T = true) (hS : ∀ f S, look c.S f = some S → Meets c.G P f S) (hm : P.follows .mixedOrders = true) {R : List (Nat × List Nat)} {f : FuncId} {fn : Func} (hf : P.funcs[f]? = some fn) {pm rm : List Kd} (hok : okFnR c R fn pm rm = true) (hres : c.res = fn.results.toList)
    {ds rs us : List D} (hd : denFR c R fn ds = some (.ret rs us)) {args : Array Value} {w : World} {F : Nat → Prop} {ow : Nat → Option Nat} (hgl : gOk c.G w F) (ha : ArgsOk w F ow 0 pm ds args.toList) (hF : ∀ b, F b → b < w.heap.size ∧ ow b = none) (hO : ∀ b i, ow b = some i → b < w.heap.size) :
    Calls P f args w fun e w' => ∃ v, e = .returned v ∧ ∃ F' R' vs, v = resV vs ∧ CallPost { pm := pm, rm := rm, f := denFR c R fn } args rs us w F ow F' R' vs w' := by
  unfold okFnR at hok
  simp only [Bool.and_eq_true, decide_eq_true_eq] at hok
  obtain ⟨⟨⟨⟨⟨hcode, hlenK⟩, hpre⟩, hpm⟩, hokr⟩, hios⟩ := hok
  rw [beq_iff, lenN_eq] at hlenK
  obtain ⟨hpl, hpn⟩ := prefK_nth hpre
  obtain ⟨hdl, hal, hargs⟩ := ArgsOk_at pm ds args.toList 0 ha
  have hasz : args.size = pm.length := by simpa using hal
  unfold denFR at hd
  cases hb : fn.body with
  | none => rw [hb] at hd; cases hd
  | some b =>
    rw [hb] at hd hcode
    simp only at hd hcode
    refine calls_of_wp hf hb ?_
    have hav : ∀ s, s < pm.length → av ({ tmps := args ++ Array.replicate (fn.ntmps - args.size) undef, defers := [] } : Act) s = args.toList.getD s undef := fun s hs => by
      have h1 : s < args.size := by omega
      simp only [av, Array.getD_eq_getD_getElem?, List.getD_eq_getElem?_getD, Array.getElem?_toList]
      rw [Array.getElem?_append_left h1]
    have hinit : Inv c w.heap.size (fun b => ow b ≠ none) w F F (fun b => (ow b).map fun i => (i, 0)) { tmps := args ++ Array.replicate (fn.ntmps - args.size) undef, defers := [] } w (padTo fn.ntmps ds) := by
      refine ⟨by simp; omega, by rw [padTo_len, hlenK], rfl, fun s => ?_, fun b hb => ⟨(hF b hb).1, by simp [(hF b hb).2]⟩, fun b p hp => ?_, fun _ h => h, fun _ h => .inl h, Nat.le_refl _, rfl, rfl, rfl, fun _ _ _ => rfl, hgl⟩
      · unfold SlotOk
        rw [padTo_nth _ _ _ (by rw [hdl]; omega)]
        by_cases hs : s < pm.length
        · rw [hpn s hs, hav s hs]
          rcases hargs s hs with hbad | harg
          · exact .inl hbad
          refine .inr ?_
          have hlv : ∀ lv, lv ≠ 1 → ∀ b, FB F 0 lv b → FB F w.heap.size lv b := fun lv h1 b hb => by
            match lv, h1 with
            | 0, _ => exact hb
            | _ + 2, _ => exact hb
          rcases okPm_at hpm s hs with ⟨lv, hk, h1⟩ | ⟨z, lv, hk, h1⟩ | ⟨n, lv, hk, h1⟩
          · rw [hk] at harg ⊢
            exact .inr (RepV_mono (hlv lv h1) (fun _ _ => rfl) harg)
          · rw [hk] at harg ⊢
            exact .inr (OwnV_mono' (hlv lv h1) (fun _ _ => rfl) (fun g _ hg => ⟨⟨by simp only [Nat.zero_add] at hg; simp [hg], fun h => by cases h⟩, rfl⟩) harg)
          · rw [hk] at harg ⊢
            exact .inr (BoxV_mono' (hlv lv h1) (fun _ _ => rfl) (fun g _ hg => ⟨⟨by simp only [Nat.zero_add] at hg; simp [hg], fun h => by cases h⟩, rfl⟩) harg)
        · refine .inl ?_
          rw [nth_eq, List.getD_eq_getElem?_getD, List.getElem?_eq_none (by omega)]
          rfl
      · obtain ⟨i, hi, rfl⟩ := Option.map_eq_some_iff.1 hp
        exact ⟨hO b i hi, .inr (by rw [hi]; simp)⟩
    refine denR_sound hT hS hm b 1 0 hcode F _ _ w _ hinit (V := av { tmps := args ++ Array.replicate (fn.ntmps - args.size) undef, defers := [] }) (fun _ _ => rfl) _ _ hd _ (fun e a' w' hp => ?_)
    have fin : NextV c w.heap.size (fun b => ow b ≠ none) w F (av { tmps := args ++ Array.replicate (fn.ntmps - args.size) undef, defers := [] }) (fun δ => retK c δ some) (.ret rs us) a' w' → a'.defers = [] ∧ ∃ v, (results fn a'.tmps).run P w' = .ok v w' ∧ ∃ v', Ending.returned v = .returned v' ∧ ∃ F' R' vs, v' = resV vs ∧ CallPost { pm := pm, rm := rm, f := denFR c R fn } args rs us w F ow F' R' vs w' := by
      rintro ⟨⟨F', O', δ', hI', hk⟩, hV'⟩
      obtain ⟨rs', h1, h2, h3⟩ := retK_is hk
      simp only [Option.some.injEq, Out.ret.injEq] at h3
      obtain ⟨rfl, rfl⟩ := h3
      obtain ⟨vs, g1, g2, g3, g4⟩ := res_run (P := P) hT hI' c.res rm rs' hokr h1
      refine ⟨hI'.df, resV vs, ?_, _, rfl, F', fun b => if w.heap.size ≤ b then (match O' b with
        | some (t, 0) => resIx c.res t 0
        | _ => none) else none, vs, rfl, ?_⟩
      · have hrun : (fn.results.mapM (getRes a'.tmps)).run P w' = .ok vs.toArray w' := by
          rw [Array.mapM_eq_mapM_toList, ← hres]
          simp [g1]
        have hrw : results fn a'.tmps = (do
            let vs ← fn.results.mapM (getRes a'.tmps)
            pure (if h : vs.size = 1 then vs[0] else .tuple vs)) := by
          unfold results
          congr 1
        rw [hrw]
        simp only [Sem.run_bind, hrun, Result.andThen_ok, Sem.run_pure]
        congr 1
        rcases vs with _ | ⟨y, _ | ⟨y', vs⟩⟩
        · simp [resV]
        · simp [resV]
        · simp [resV]
      · refine ⟨hI'.os, hI'.tape, hI'.output, hI'.bb, fun b hb ho => hI'.keep b hb (by simp [ho]), hI'.f0, fun b hb => ⟨hI'.fn b hb, (hI'.fl b hb).1, by simp only [(hI'.fl b hb).2]; split <;> rfl⟩, fun b j hj => ?_, g2, g3, fun j => ?_, ?_⟩
        · split at hj
          case isFalse => cases hj
          rename_i hB
          refine ⟨hB, ?_⟩
          split at hj
          · rename_i t he; exact (hI'.ol b _ he).1
          · cases hj
        · refine ResOk_mono (fun hk g hg => ?_) (g4 j)
          obtain ⟨z, lv, hk⟩ := hk
          obtain ⟨e1, t, e2, e3⟩ := hg
          rw [if_pos e1]
          simp only [e3]
          have := (resIx_own c.res rm hokr j t 0 z lv hk e2).1
          simpa using this
        · rw [hios]
          refine UsOk_of pm args.toList 0 hal (fun j hj hio => ?_)
          rw [Nat.zero_add]
          have hkj := hpn j hj
          have hbj : nth δ' j ≠ .bad := by
            refine h2 _ ?_
            rw [hios, getAll_map]
            exact List.mem_map_of_mem (by simpa using ioIdx_mem pm 0 j hj hio)
          have havj : av a' j = args.toList.getD j undef := (hV' j (by rw [hkj]; exact hio)).trans (hav j hj)
          have hlv : ∀ lv, lv ≠ 1 → ∀ b, FB F' w.heap.size lv b → FB F' 0 lv b := fun lv h1 b hb => by
            match lv, h1 with
            | 0, _ => exact hb
            | _ + 2, _ => exact hb
          refine ⟨hbj, .inr ?_⟩
          rcases okPm_at hpm j hj with ⟨lv, hk, h1⟩ | ⟨z, lv, hk, h1⟩ | ⟨n, lv, hk, h1⟩
          · rw [hk] at hio; cases hio
          · have h5 := hI'.own (hkj.trans hk) hbj
            rw [havj] at h5
            rw [hk]
            exact OwnV_mono' (hlv lv h1) (fun _ _ => rfl) (fun _ _ _ => ⟨trivial, rfl⟩) h5
          · have h5 := hI'.box (hkj.trans hk) hbj
            rw [havj] at h5
            rw [hk]
            exact BoxV_mono' (hlv lv h1) (fun _ _ => rfl) (fun _ _ _ => ⟨trivial, rfl⟩) h5
    cases e with
    | normal => exact fin hp
    | exit i =>
      obtain ⟨⟨_, _, _, _, h⟩, _⟩ := hp
      cases h
    | ret =>
      refine fin (NextV_mono hp fun δ F O _ h => ?_)
      obtain ⟨rs', h1, h2, h3⟩ := retK_is h
      exact retK_of h1 h2 h3
    | _ => exact hp.elim

theorem meets_ofR (hT : okT P c.T = true) (hS : ∀ f S, look c.S f = some S → Meets c.G P f S) (hm : P.follows .mixedOrders = true) {R : List (Nat × List Nat)} {f : FuncId} {fn : Func} (hf : P.funcs[f]? = some fn) (hname : (fn.name == "runtime.NumGoroutine") = false) {pm rm : List Kd} (hok : okFnR c R fn pm rm = true) (hres : c.res = fn.results.toList) :
    Meets c.G P f { pm := pm, rm := rm, f := denFR c R fn } := by
  intro ds rs us hd args w F ow hgl ha hF hO o a next Q hn
  have hbody : ∃ b, fn.body = some b := by
    have hd' : denFR c R fn ds = some (.ret rs us) := hd
    unfold denFR at hd'
    cases hb : fn.body with
    | none => rw [hb] at hd'; cases hd'
    | some b => exact ⟨b, rfl⟩
  obtain ⟨b, hb⟩ := hbody
  have hrun : (callFunc f args).run P w = .ok (.enter f args) w := by
    have h1 : ¬ fn.name = "runtime.NumGoroutine" := by simpa using hname
    simp [callFunc, hf, h1, hb]
  rw [hrun, Oper.upon_enter]
  refine Calls.mono (fn_callsR hT hS hm hf hok hres hd hgl ha hF hO) (fun e w' he => ?_)
  obtain ⟨v, rfl, F', R', vs, h1, h2⟩ := he
  exact hn v w' ⟨F', R', vs, h1, h2⟩


end
end Go.V
/-
  The evaluator with recasts of single regions: in them, slots that own a slice hold plain data (what is put into another slice, or handed back); after them these slots are void.
-/
namespace Go.V
open Go.RowKit
set_option linter.unusedSimpArgs false

@[reducible] noncomputable def denQ (c : Cx) (Z : List (Nat × List Nat)) : Nat → Code → List D → (Out → Option Out) → Option Out
  | _, .skip, δ, k => k (.nrm δ)
  | _, .region id ops _, δ, k => match look Z id with
    | some fz => viaC c.K δ (depsAll c.K fz) fun l => setManyC δ (depsAll c.K fz) l fun δ' => runOps (rcx c fz) ops.toList ops.toList δ' fun δ2 => setManyC δ2 fz [] fun δ3 => setManyC δ3 (depsAll c.K fz) [] fun δ4 => k (.nrm δ4)
    | none => runOps c ops.toList ops.toList δ fun δ' => k (.nrm δ')
  | bid, .seq a b, δ, k => denQ c Z bid a δ fun o => seqK o (fun δ' => denQ c Z bid b δ' k) k
  | bid, .cond x t e, δ, k => opC δ x fun q => ifD q (denQ c Z bid t δ k) (denQ c Z bid e δ k)
  | _, .block id b, δ, k => denQ c Z id b δ fun o => blkK id o k
  | bid, .loop b, δ, k => match look c.H bid with
    | none => none
    | some (hl, xl) =>
      getC δ hl fun s => (loopC (fun s => expandC (lenN c.K) hl s fun δ => denQ c Z bid b δ (shrinkK hl xl)) s).bind fun o =>
        outK o (fun i s => expandC (lenN c.K) xl s fun δ => k (.ext i δ)) (fun a b => k (.ret a b))
  | _, .exit id, δ, k => k (.ext id δ)
  | _, .ret, δ, k => resC c δ c.res fun rs => getC δ c.ios fun us => usK us (k (.ret rs us))
  | _, _, _, _ => none
@[reducible] noncomputable def denFQ (c : Cx) (Z : List (Nat × List Nat)) (fn : Func) (ds : List D) : Option Out :=
  match fn.body with
  | none => none
  | some b => denQ c Z 0 b (padTo fn.ntmps ds) fun o => match o with
    | .nrm δ => resC c δ c.res fun rs => getC δ c.ios fun us => usK us (some (.ret rs us))
    | .ext _ _ => none
    | .ret rs us => some (.ret rs us)
def okCodeQ (c : Cx) (Z : List (Nat × List Nat)) : Nat → Code → Bool
  | _, .skip => true
  | bid, .region id ops d => match look Z id with
    | some fz => okFz c fz && okCode (rcx c fz) bid (.region id ops d)
    | none => okCode c bid (.region id ops d)
  | b, .seq x y => okCodeQ c Z b x && okCodeQ c Z b y
  | b, .cond x t e => Nat.ble (lvOf c.K x) 2 && okCodeQ c Z b t && okCodeQ c Z b e
  | _, .block id x => okCodeQ c Z id x
  | b, .loop x => okCodeQ c Z b x && (match look c.H b with
    | some (hl, xl) => okLive c.K hl && okLive c.K xl
    | none => false)
  | _, .exit _ => true
  | _, .ret => true
  | _, _ => false
def okFnQ (c : Cx) (Z : List (Nat × List Nat)) (fn : Func) (pm rm : List Kd) : Bool :=
  (match fn.body with
    | some b => okCodeQ c Z 0 b
    | none => false) && Nat.beq (lenN c.K) fn.ntmps && prefK pm c.K && okPm pm && okRes c c.res rm && decide (c.ios = ioIdx 0 pm)

section
variable {P : Program} {c : Cx} {B : Nat} {X : Nat → Prop} {w0 : World} {F0 F : Nat → Prop} {O : Nat → Option (Nat × Nat)} {a : Act} {w : World} {δ : List D} {fz : List Nat}

theorem setMany_two : ∀ (ss ts : List Nat) (δ : List D), setMany (setMany δ ss []) ts [] = setMany δ (ss ++ ts) []
  | [], _, _ => rfl
  | i :: ss, ts, δ => by
    simp only [List.cons_append, setMany]
    exact setMany_two ss ts _
def unK (c : Cx) (fz : List Nat) (k : Out → Option Out) (o : Out) : Option Out :=
  match o with
  | .nrm δ => k (.nrm (setMany δ (chgS c fz) []))
  | _ => none
theorem loop_roundsQ {V : Nat → Value} {b : Code} {bid : Nat} {Z : List (Nat × List Nat)} {hl xl : List Nat} (h1 : okLive c.K hl = true) (h2 : okLive c.K xl = true)
    (ih : ∀ (F : Nat → Prop) (O : Nat → Option (Nat × Nat)) (a : Act) (w : World) (δ : List D), Inv c B X w0 F0 F O a w δ → IoV c V a → ∀ (k : Out → Option Out) (r : Out), denQ c Z bid b δ k = some r → ∀ Q, (∀ e a w, Post c B X w0 F0 V k r e a w → Q e a w) → b.wp P Q a w)
    {k : Out → Option Out} {r : Out} {Q : Exit → Act → World → Prop} (hQ : ∀ e a w, Post c B X w0 F0 V k r e a w → Q e a w) {o : Out}
    (ho : outK o (fun i s => expandC (lenN c.K) xl s fun δ => k (.ext i δ)) (fun x y => k (.ret x y)) = some r) : ∀ (n : Nat) (F : Nat → Prop) (O : Nat → Option (Nat × Nat)) (a : Act) (w : World) (δ : List D), Inv c B X w0 F0 F O a w δ → IoV c V a →
    iter (fun s => expandC (lenN c.K) hl s fun δ => denQ c Z bid b δ (shrinkK hl xl)) n (getAll δ hl) = some o → Code.rounds P b Q n a w
  | 0, _, _, _, _, _, _, _, h => by cases h
  | n + 1, F, O, a, w, δ, hI, hV, h => by
    simp only [iter, expandC_eq] at h
    rw [rounds_succ]
    have hI' := hI.carry h1
    cases hb : denQ c Z bid b (carry (lenN c.K) hl δ) (shrinkK hl xl) with
    | none => rw [hb] at h; cases h
    | some ob =>
      rw [hb] at h
      refine ih F O a w _ hI' hV _ ob hb _ (fun e a' w' hp => ?_)
      cases ob with
      | nrm s' =>
        simp only at h
        cases e with
        | normal =>
          obtain ⟨⟨F', O', δ', g1, g2⟩, g3⟩ := hp
          simp only [shrinkK, getC_eq, Option.some.injEq, Out.nrm.injEq] at g2
          rw [← g2] at h
          exact loop_roundsQ h1 h2 ih hQ ho n F' O' a' w' δ' g1 g3 h
        | exit i =>
          obtain ⟨⟨F', O', δ', g1, g2⟩, g3⟩ := hp
          simp [shrinkK, getC_eq] at g2
        | ret =>
          obtain ⟨⟨F', O', δ', g1, g2⟩, g3⟩ := hp
          obtain ⟨rs, _, _, g4⟩ := retK_is g2
          simp [shrinkK] at g4
        | _ => exact hp.elim
      | ext i l =>
        simp only [Option.some.injEq] at h
        subst h
        cases e with
        | normal =>
          obtain ⟨⟨F', O', δ', g1, g2⟩, g3⟩ := hp
          simp [shrinkK, getC_eq] at g2
        | exit j =>
          obtain ⟨⟨F', O', δ', g1, g2⟩, g3⟩ := hp
          simp only [shrinkK, getC_eq, Option.some.injEq, Out.ext.injEq] at g2
          obtain ⟨rfl, rfl⟩ := g2
          simp only [outK, expandC_eq] at ho
          exact hQ (.exit j) _ _ ⟨⟨F', O', _, g1.carry h2, ho⟩, g3⟩
        | ret =>
          obtain ⟨⟨F', O', δ', g1, g2⟩, g3⟩ := hp
          obtain ⟨rs, _, _, g4⟩ := retK_is g2
          simp [shrinkK] at g4
        | _ => exact hp.elim
      | ret x y =>
        simp only [Option.some.injEq] at h
        subst h
        cases e with
        | normal =>
          obtain ⟨⟨F', O', δ', g1, g2⟩, g3⟩ := hp
          simp [shrinkK, getC_eq] at g2
        | exit j =>
          obtain ⟨⟨F', O', δ', g1, g2⟩, g3⟩ := hp
          simp [shrinkK, getC_eq] at g2
        | ret =>
          obtain ⟨⟨F', O', δ', g1, g2⟩, g3⟩ := hp
          obtain ⟨rs, g5, g6, g4⟩ := retK_is g2
          simp only [shrinkK, Option.some.injEq, Out.ret.injEq] at g4
          obtain ⟨rfl, rfl⟩ := g4
          exact hQ .ret _ _ ⟨⟨F', O', δ', g1, retK_of g5 g6 ho⟩, g3⟩
        | _ => exact hp.elim

theorem denQ_sound (hT : okT P c.T = true) (hS : ∀ f S, look c.S f = some S → Meets c.G P f S) (hm : P.follows .mixedOrders = true) {V : Nat → Value} {Z : List (Nat × List Nat)} : ∀ (b : Code) (bid : Nat), okCodeQ c Z bid b = true → ∀ (F : Nat → Prop) (O : Nat → Option (Nat × Nat)) (a : Act) (w : World) (δ : List D),
    Inv c B X w0 F0 F O a w δ → IoV c V a → ∀ (k : Out → Option Out) (r : Out), denQ c Z bid b δ k = some r → ∀ Q, (∀ e a w, Post c B X w0 F0 V k r e a w → Q e a w) → b.wp P Q a w
  | .skip, bid, _, F, O, a, w, δ, hI, hV, k, r, hg, Q, hQ => wp_skip (hQ _ _ _ ⟨⟨F, O, δ, hI, hg⟩, hV⟩)
  | .region id ops d, bid, hok, F, O, a, w, δ, hI, hV, k, r, hg, Q, hQ => by
    simp only [okCodeQ] at hok
    simp only [denQ] at hg
    cases hH : look Z id with
    | none =>
      rw [hH] at hok hg
      exact den_sound hT hS hm (.region id ops d) bid hok F O a w δ hI hV k r hg Q hQ
    | some fz =>
      rw [hH] at hok hg
      simp only [Bool.and_eq_true] at hok
      simp only [viaC_eq, setManyC_eq, setMany_two] at hg
      obtain ⟨F2, O2, hI2⟩ := hI.recast hok.1
      refine den_sound (c := rcx c fz) hT hS hm (.region id ops d) bid hok.2 F2 O2 a w _ hI2 (fun s hs => hV s (by rw [← frz_io (fz := fz)]; exact hs)) (unK c fz k) r hg Q (fun e a w hp => ?_)
      cases e with
      | normal =>
        obtain ⟨⟨F', O', δ', hI', hk'⟩, hV'⟩ := hp
        exact hQ .normal _ _ ⟨⟨F', O', _, hI'.uncast, hk'⟩, fun s hs => hV' s (by rw [frz_io]; exact hs)⟩
      | exit i => obtain ⟨⟨_, _, _, _, h⟩, _⟩ := hp; cases h
      | ret =>
        obtain ⟨⟨_, _, _, _, h⟩, _⟩ := hp
        obtain ⟨rs, h1, h2, h3⟩ := retK_is h
        cases h3
      | _ => exact hp.elim
  | .seq x y, bid, hok, F, O, a, w, δ, hI, hV, k, r, hg, Q, hQ => by
    simp only [okCodeQ, Bool.and_eq_true] at hok
    refine wp_seq (denQ_sound hT hS hm x bid hok.1 F O a w δ hI hV _ r hg _ (fun e a' w' hp => ?_))
    cases e with
    | normal =>
      obtain ⟨⟨F', O', δ', hI', hk'⟩, hV'⟩ := hp
      exact denQ_sound hT hS hm y bid hok.2 F' O' a' w' δ' hI' hV' k r hk' Q hQ
    | exit id => exact hQ _ _ _ hp
    | ret => exact hQ _ _ _ hp
    | _ => exact hp.elim
  | .cond x t e, bid, hok, F, O, a, w, δ, hI, hV, k, r, hg, Q, hQ => by
    simp only [okCodeQ, Bool.and_eq_true] at hok
    obtain ⟨⟨hlv, hok1⟩, hok2⟩ := hok
    have hop := hI.opd (ble_iff.1 hlv)
    have key : ifD (opD δ x) (denQ c Z bid t δ k) (denQ c Z bid e δ k) = some r := by
      simp only [denQ] at hg
      cases x with
      | tmp s => simpa only [opC, nthC_eq, opD] using hg
      | const v => simpa only [opC, opD] using hg
      | func f => simpa only [opC, opD] using hg
      | global g => simp [opC] at hg
    unfold ifD at key
    split at key
    · rename_i hd
      rw [hd] at hop
      exact wp_cond_true (RepB_v hop).1 (denQ_sound hT hS hm t bid hok1 F O a w δ hI hV k r key Q hQ)
    · rename_i hd
      rw [hd] at hop
      exact wp_cond_false (RepB_v hop).1 (denQ_sound hT hS hm e bid hok2 F O a w δ hI hV k r key Q hQ)
    · cases key
  | .block id b, bid, hok, F, O, a, w, δ, hI, hV, k, r, hg, Q, hQ => by
    simp only [okCodeQ] at hok
    refine wp_block (denQ_sound hT hS hm b id hok F O a w δ hI hV _ r hg _ (fun e a' w' hp => ?_))
    cases e with
    | normal => exact hQ .normal _ _ hp
    | exit i =>
      simp only [Exit.inBlock]
      have hp' : NextV c B X w0 F0 V (fun δ => blkK id (.ext i δ) k) r a' w' := hp
      split
      · rename_i hi
        refine hQ .normal _ _ (NextV_mono hp' fun δ F O _ h => ?_)
        simp only [blkK] at h
        rw [beq_iff.2 (by simpa using hi)] at h
        exact h
      · rename_i hi
        refine hQ (.exit i) _ _ (NextV_mono hp' fun δ F O _ h => ?_)
        simp only [blkK] at h
        cases hb : Nat.beq i id
        · rw [hb] at h; exact h
        · exact absurd (by simpa using beq_iff.1 hb) hi
    | ret => exact hQ .ret _ _ hp
    | _ => exact hp.elim
  | .loop b, bid, hok, F, O, a, w, δ, hI, hV, k, r, hg, Q, hQ => by
    simp only [okCodeQ, Bool.and_eq_true] at hok
    obtain ⟨hok1, hok2⟩ := hok
    simp only [denQ] at hg
    cases hH : look c.H bid with
    | none => rw [hH] at hg; cases hg
    | some hx =>
      obtain ⟨hl, xl⟩ := hx
      rw [hH] at hg hok2
      simp only [Bool.and_eq_true] at hok2
      simp only [getC_eq] at hg
      obtain ⟨o', h1, h2⟩ := Option.bind_eq_some_iff.1 hg
      unfold loopC at h1
      split at h1
      case isFalse => cases h1
      rename_i hex
      refine wp_loop_rounds (Classical.choose hex) ?_
      refine loop_roundsQ (hl := hl) (xl := xl) hok2.1 hok2.2 (fun F O a w δ hI hV k r hg Q hQ => denQ_sound hT hS hm b bid hok1 F O a w δ hI hV k r hg Q hQ) hQ h2 _ F O a w δ hI hV h1
  | .exit id, bid, _, F, O, a, w, δ, hI, hV, k, r, hg, Q, hQ => wp_exit (hQ _ _ _ ⟨⟨F, O, δ, hI, hg⟩, hV⟩)
  | .ret, bid, _, F, O, a, w, δ, hI, hV, k, r, hg, Q, hQ => wp_ret (hQ _ _ _ ⟨⟨F, O, δ, hI, hg⟩, hV⟩)
  | .label _, _, hok, _, _, _, _, _, _, _, _, _, _, _, _ => by simp [okCodeQ] at hok
  | .goto _, _, hok, _, _, _, _, _, _, _, _, _, _, _, _ => by simp [okCodeQ] at hok
  | .scope _, _, hok, _, _, _, _, _, _, _, _, _, _, _, _ => by simp [okCodeQ] at hok

theorem fn_callsQ (hT : okT P c.T = true) (hS : ∀ f S, look c.S f = some S → Meets c.G P f S) (hm : P.follows .mixedOrders = true) {Z : List (Nat × List Nat)} {f : FuncId} {fn : Func} (hf : P.funcs[f]? = some fn) {pm rm : List Kd} (hok : okFnQ c Z fn pm rm = true) (hres : c.res = fn.results.toList)
    {ds rs us : List D} (hd : denFQ c Z fn ds = some (.ret rs us)) {args : Array Value} {w : World} {F : Nat → Prop} {ow : Nat → Option Nat} (hgl : gOk c.G w F) (ha : ArgsOk w F ow 0 pm ds args.toList) (hF : ∀ b, F b → b < w.heap.size ∧ ow b = none) (hO : ∀ b i, ow b = some i → b < w.heap.size) :
    Calls P f args w fun e w' => ∃ v, e = .returned v ∧ ∃ F' R' vs, v = resV vs ∧ CallPost { pm := pm, rm := rm, f := denFQ c Z fn } args rs us w F ow F' R' vs w' := by
  unfold okFnQ at hok
  simp only [Bool.and_eq_true, decide_eq_true_eq] at hok
  obtain ⟨⟨⟨⟨⟨hcode, hlenK⟩, hpre⟩, hpm⟩, hokr⟩, hios⟩ := hok
  rw [beq_iff, lenN_eq] at hlenK
  obtain ⟨hpl, hpn⟩ := prefK_nth hpre
  obtain ⟨hdl, hal, hargs⟩ := ArgsOk_at pm ds args.toList 0 ha
  have hasz : args.size = pm.length := by simpa using hal
  unfold denFQ at hd
  cases hb : fn.body with
  | none => rw [hb] at hd; cases hd
  | some b =>
    rw [hb] at hd hcode
    simp only at hd hcode
    refine calls_of_wp hf hb ?_
    have hav : ∀ s, s < pm.length → av ({ tmps := args ++ Array.replicate (fn.ntmps - args.size) undef, defers := [] } : Act) s = args.toList.getD s undef := fun s hs => by
      have h1 : s < args.size := by omega
      simp only [av, Array.getD_eq_getD_getElem?, List.getD_eq_getElem?_getD, Array.getElem?_toList]
      rw [Array.getElem?_append_left h1]
    have hinit : Inv c w.heap.size (fun b => ow b ≠ none) w F F (fun b => (ow b).map fun i => (i, 0)) { tmps := args ++ Array.replicate (fn.ntmps - args.size) undef, defers := [] } w (padTo fn.ntmps ds) := by
      refine ⟨by simp; omega, by rw [padTo_len, hlenK], rfl, fun s => ?_, fun b hb => ⟨(hF b hb).1, by simp [(hF b hb).2]⟩, fun b p hp => ?_, fun _ h => h, fun _ h => .inl h, Nat.le_refl _, rfl, rfl, rfl, fun _ _ _ => rfl, hgl⟩
      · unfold SlotOk
        rw [padTo_nth _ _ _ (by rw [hdl]; omega)]
        by_cases hs : s < pm.length
        · rw [hpn s hs, hav s hs]
          rcases hargs s hs with hbad | harg
          · exact .inl hbad
          refine .inr ?_
          have hlv : ∀ lv, lv ≠ 1 → ∀ b, FB F 0 lv b → FB F w.heap.size lv b := fun lv h1 b hb => by
            match lv, h1 with
            | 0, _ => exact hb
            | _ + 2, _ => exact hb
          rcases okPm_at hpm s hs with ⟨lv, hk, h1⟩ | ⟨z, lv, hk, h1⟩ | ⟨n, lv, hk, h1⟩
          · rw [hk] at harg ⊢
            exact .inr (RepV_mono (hlv lv h1) (fun _ _ => rfl) harg)
          · rw [hk] at harg ⊢
            exact .inr (OwnV_mono' (hlv lv h1) (fun _ _ => rfl) (fun g _ hg => ⟨⟨by simp only [Nat.zero_add] at hg; simp [hg], fun h => by cases h⟩, rfl⟩) harg)
          · rw [hk] at harg ⊢
            exact .inr (BoxV_mono' (hlv lv h1) (fun _ _ => rfl) (fun g _ hg => ⟨⟨by simp only [Nat.zero_add] at hg; simp [hg], fun h => by cases h⟩, rfl⟩) harg)
        · refine .inl ?_
          rw [nth_eq, List.getD_eq_getElem?_getD, List.getElem?_eq_none (by omega)]
          rfl
      · obtain ⟨i, hi, rfl⟩ := Option.map_eq_some_iff.1 hp
        exact ⟨hO b i hi, .inr (by rw [hi]; simp)⟩
    refine denQ_sound hT hS hm b 0 hcode F _ _ w _ hinit (V := av { tmps := args ++ Array.replicate (fn.ntmps - args.size) undef, defers := [] }) (fun _ _ => rfl) _ _ hd _ (fun e a' w' hp => ?_)
    have fin : NextV c w.heap.size (fun b => ow b ≠ none) w F (av { tmps := args ++ Array.replicate (fn.ntmps - args.size) undef, defers := [] }) (fun δ => retK c δ some) (.ret rs us) a' w' → a'.defers = [] ∧ ∃ v, (results fn a'.tmps).run P w' = .ok v w' ∧ ∃ v', Ending.returned v = .returned v' ∧ ∃ F' R' vs, v' = resV vs ∧ CallPost { pm := pm, rm := rm, f := denFQ c Z fn } args rs us w F ow F' R' vs w' := by
      rintro ⟨⟨F', O', δ', hI', hk⟩, hV'⟩
      obtain ⟨rs', h1, h2, h3⟩ := retK_is hk
      simp only [Option.some.injEq, Out.ret.injEq] at h3
      obtain ⟨rfl, rfl⟩ := h3
      obtain ⟨vs, g1, g2, g3, g4⟩ := res_run (P := P) hT hI' c.res rm rs' hokr h1
      refine ⟨hI'.df, resV vs, ?_, _, rfl, F', fun b => if w.heap.size ≤ b then (match O' b with
        | some (t, 0) => resIx c.res t 0
        | _ => none) else none, vs, rfl, ?_⟩
      · have hrun : (fn.results.mapM (getRes a'.tmps)).run P w' = .ok vs.toArray w' := by
          rw [Array.mapM_eq_mapM_toList, ← hres]
          simp [g1]
        have hrw : results fn a'.tmps = (do
            let vs ← fn.results.mapM (getRes a'.tmps)
            pure (if h : vs.size = 1 then vs[0] else .tuple vs)) := by
          unfold results
          congr 1
        rw [hrw]
        simp only [Sem.run_bind, hrun, Result.andThen_ok, Sem.run_pure]
        congr 1
        rcases vs with _ | ⟨y, _ | ⟨y', vs⟩⟩
        · simp [resV]
        · simp [resV]
        · simp [resV]
      · refine ⟨hI'.os, hI'.tape, hI'.output, hI'.bb, fun b hb ho => hI'.keep b hb (by simp [ho]), hI'.f0, fun b hb => ⟨hI'.fn b hb, (hI'.fl b hb).1, by simp only [(hI'.fl b hb).2]; split <;> rfl⟩, fun b j hj => ?_, g2, g3, fun j => ?_, ?_⟩
        · split at hj
          case isFalse => cases hj
          rename_i hB
          refine ⟨hB, ?_⟩
          split at hj
          · rename_i t he; exact (hI'.ol b _ he).1
          · cases hj
        · refine ResOk_mono (fun hk g hg => ?_) (g4 j)
          obtain ⟨z, lv, hk⟩ := hk
          obtain ⟨e1, t, e2, e3⟩ := hg
          rw [if_pos e1]
          simp only [e3]
          have := (resIx_own c.res rm hokr j t 0 z lv hk e2).1
          simpa using this
        · rw [hios]
          refine UsOk_of pm args.toList 0 hal (fun j hj hio => ?_)
          rw [Nat.zero_add]
          have hkj := hpn j hj
          have hbj : nth δ' j ≠ .bad := by
            refine h2 _ ?_
            rw [hios, getAll_map]
            exact List.mem_map_of_mem (by simpa using ioIdx_mem pm 0 j hj hio)
          have havj : av a' j = args.toList.getD j undef := (hV' j (by rw [hkj]; exact hio)).trans (hav j hj)
          have hlv : ∀ lv, lv ≠ 1 → ∀ b, FB F' w.heap.size lv b → FB F' 0 lv b := fun lv h1 b hb => by
            match lv, h1 with
            | 0, _ => exact hb
            | _ + 2, _ => exact hb
          refine ⟨hbj, .inr ?_⟩
          rcases okPm_at hpm j hj with ⟨lv, hk, h1⟩ | ⟨z, lv, hk, h1⟩ | ⟨n, lv, hk, h1⟩
          · rw [hk] at hio; cases hio
          · have h5 := hI'.own (hkj.trans hk) hbj
            rw [havj] at h5
            rw [hk]
            exact OwnV_mono' (hlv lv h1) (fun _ _ => rfl) (fun _ _ _ => ⟨trivial, rfl⟩) h5
          · have h5 := hI'.box (hkj.trans hk) hbj
            rw [havj] at h5
            rw [hk]
            exact BoxV_mono' (hlv lv h1) (fun _ _ => rfl) (fun _ _ _ => ⟨trivial, rfl⟩) h5
    cases e with
    | normal => exact fin hp
    | exit i =>
      obtain ⟨⟨_, _, _, _, h⟩, _⟩ := hp
      cases h
    | ret =>
      refine fin (NextV_mono hp fun δ F O _ h => ?_)
      obtain ⟨rs', h1, h2, h3⟩ := retK_is h
      exact retK_of h1 h2 h3
    | _ => exact hp.elim

theorem meets_ofQ (hT : okT P c.T = true) (hS : ∀ f S, look c.S f = some S → Meets c.G P f S) (hm : P.follows .mixedOrders = true) {Z : List (Nat × List Nat)} {f : FuncId} {fn : Func} (hf : P.funcs[f]? = some fn) (hname : (fn.name == "runtime.NumGoroutine") = false) {pm rm : List Kd} (hok : okFnQ c Z fn pm rm = true) (hres : c.res = fn.results.toList) :
    Meets c.G P f { pm := pm, rm := rm, f := denFQ c Z fn } := by
  intro ds rs us hd args w F ow hgl ha hF hO o a next Q hn
  have hbody : ∃ b, fn.body = some b := by
    have hd' : denFQ c Z fn ds = some (.ret rs us) := hd
    unfold denFQ at hd'
    cases hb : fn.body with
    | none => rw [hb] at hd'; cases hd'
    | some b => exact ⟨b, rfl⟩
  obtain ⟨b, hb⟩ := hbody
  have hrun : (callFunc f args).run P w = .ok (.enter f args) w := by
    have h1 : ¬ fn.name = "runtime.NumGoroutine" := by simpa using hname
    simp [callFunc, hf, h1, hb]
  rw [hrun, Oper.upon_enter]
  refine Calls.mono (fn_callsQ hT hS hm hf hok hres hd hgl ha hF hO) (fun e w' he => ?_)
  obtain ⟨v, rfl, F', R', vs, h1, h2⟩ := he
  exact hn v w' ⟨F', R', vs, h1, h2⟩


end
end Go.V
/-
  The evaluator with joins: what stands behind a choice is evaluated once.
-/
namespace Go.V
open Go.RowKit

/-- What stands behind a choice, said once (not unfolded). -/
def joinC (f : (List D → Option Out) → Option Out) (k : List D → Option Out) : Option Out := f k

@[reducible] noncomputable def denJ (c : Cx) (J : List (Nat × List Nat)) : Nat → Nat → Code → List D → (Out → Option Out) → Option Out
  | _, _, .skip, δ, k => k (.nrm δ)
  | _, _, .region _ ops _, δ, k => runOps c ops.toList ops.toList δ fun δ' => k (.nrm δ')
  | p, bid, .seq a b, δ, k => match look J p with
    | none => denJ c J (Nat.mul 2 p) bid a δ fun o => seqK o (fun δ' => denJ c J (Nat.add (Nat.mul 2 p) 1) bid b δ' k) k
    | some hl => joinC (fun j => denJ c J (Nat.mul 2 p) bid a δ fun o => seqK o (fun δ' => getC δ' hl fun s => j s) k) (fun s => expandC (lenN c.K) hl s fun δ' => denJ c J (Nat.add (Nat.mul 2 p) 1) bid b δ' k)
  | p, bid, .cond x t e, δ, k => opC δ x fun q => ifD q (denJ c J (Nat.mul 2 p) bid t δ k) (denJ c J (Nat.add (Nat.mul 2 p) 1) bid e δ k)
  | p, _, .block id b, δ, k => denJ c J (Nat.mul 2 p) id b δ fun o => blkK id o k
  | p, bid, .loop b, δ, k => match look c.H bid with
    | none => none
    | some (hl, xl) =>
      getC δ hl fun s => (loopC (fun s => expandC (lenN c.K) hl s fun δ => denJ c J (Nat.mul 2 p) bid b δ (shrinkK hl xl)) s).bind fun o =>
        outK o (fun i s => expandC (lenN c.K) xl s fun δ => k (.ext i δ)) (fun a b => k (.ret a b))
  | _, _, .exit id, δ, k => k (.ext id δ)
  | _, _, .ret, δ, k => resC c δ c.res fun rs => getC δ c.ios fun us => usK us (k (.ret rs us))
  | _, _, _, _, _ => none

/-- A whole function. -/
@[reducible] noncomputable def denFJ (c : Cx) (J : List (Nat × List Nat)) (fn : Func) (ds : List D) : Option Out :=
  match fn.body with
  | none => none
  | some b => denJ c J 1 0 b (padTo fn.ntmps ds) fun o => match o with
    | .nrm δ => resC c δ c.res fun rs => getC δ c.ios fun us => usK us (some (.ret rs us))
    | .ext _ _ => none
    | .ret rs us => some (.ret rs us)

def okJ (c : Cx) (J : List (Nat × List Nat)) : Bool := J.all fun p => okLive c.K p.2
theorem okJ_at {c : Cx} : ∀ {J : List (Nat × List Nat)} {p : Nat} {hl : List Nat}, okJ c J = true → look J p = some hl → okLive c.K hl = true
  | [], _, _, _, h => by cases h
  | (q, l) :: J, p, hl, hJ, h => by
    unfold okJ at hJ
    rw [List.all_cons, Bool.and_eq_true] at hJ
    simp only [look] at h
    split at h
    · cases h
      exact hJ.1
    · exact okJ_at (J := J) hJ.2 h

section
variable {P : Program} {c : Cx} {B : Nat} {X : Nat → Prop} {w0 : World} {F0 F : Nat → Prop} {O : Nat → Option (Nat × Nat)} {a : Act} {w : World} {δ : List D}

theorem loop_roundsJ {V : Nat → Value} {J : List (Nat × List Nat)} {p : Nat} {b : Code} {bid : Nat} {hl xl : List Nat} (h1 : okLive c.K hl = true) (h2 : okLive c.K xl = true)
    (ih : ∀ (F : Nat → Prop) (O : Nat → Option (Nat × Nat)) (a : Act) (w : World) (δ : List D), Inv c B X w0 F0 F O a w δ → IoV c V a → ∀ (k : Out → Option Out) (r : Out), denJ c J p bid b δ k = some r → ∀ Q, (∀ e a w, Post c B X w0 F0 V k r e a w → Q e a w) → b.wp P Q a w)
    {k : Out → Option Out} {r : Out} {Q : Exit → Act → World → Prop} (hQ : ∀ e a w, Post c B X w0 F0 V k r e a w → Q e a w) {o : Out}
    (ho : outK o (fun i s => expandC (lenN c.K) xl s fun δ => k (.ext i δ)) (fun x y => k (.ret x y)) = some r) : ∀ (n : Nat) (F : Nat → Prop) (O : Nat → Option (Nat × Nat)) (a : Act) (w : World) (δ : List D), Inv c B X w0 F0 F O a w δ → IoV c V a →
    iter (fun s => expandC (lenN c.K) hl s fun δ => denJ c J p bid b δ (shrinkK hl xl)) n (getAll δ hl) = some o → Code.rounds P b Q n a w
  | 0, _, _, _, _, _, _, _, h => by cases h
  | n + 1, F, O, a, w, δ, hI, hV, h => by
    simp only [iter, expandC_eq] at h
    rw [rounds_succ]
    have hI' := hI.carry h1
    cases hb : denJ c J p bid b (carry (lenN c.K) hl δ) (shrinkK hl xl) with
    | none => rw [hb] at h; cases h
    | some ob =>
      rw [hb] at h
      refine ih F O a w _ hI' hV _ ob hb _ (fun e a' w' hp => ?_)
      cases ob with
      | nrm s' =>
        simp only at h
        cases e with
        | normal =>
          obtain ⟨⟨F', O', δ', g1, g2⟩, g3⟩ := hp
          simp only [shrinkK, getC_eq, Option.some.injEq, Out.nrm.injEq] at g2
          rw [← g2] at h
          exact loop_roundsJ h1 h2 ih hQ ho n F' O' a' w' δ' g1 g3 h
        | exit i =>
          obtain ⟨⟨F', O', δ', g1, g2⟩, g3⟩ := hp
          simp [shrinkK, getC_eq] at g2
        | ret =>
          obtain ⟨⟨F', O', δ', g1, g2⟩, g3⟩ := hp
          obtain ⟨rs, _, _, g4⟩ := retK_is g2
          simp [shrinkK] at g4
        | _ => exact hp.elim
      | ext i l =>
        simp only [Option.some.injEq] at h
        subst h
        cases e with
        | normal =>
          obtain ⟨⟨F', O', δ', g1, g2⟩, g3⟩ := hp
          simp [shrinkK, getC_eq] at g2
        | exit j =>
          obtain ⟨⟨F', O', δ', g1, g2⟩, g3⟩ := hp
          simp only [shrinkK, getC_eq, Option.some.injEq, Out.ext.injEq] at g2
          obtain ⟨rfl, rfl⟩ := g2
          simp only [outK, expandC_eq] at ho
          exact hQ (.exit j) _ _ ⟨⟨F', O', _, g1.carry h2, ho⟩, g3⟩
        | ret =>
          obtain ⟨⟨F', O', δ', g1, g2⟩, g3⟩ := hp
          obtain ⟨rs, _, _, g4⟩ := retK_is g2
          simp [shrinkK] at g4
        | _ => exact hp.elim
      | ret x y =>
        simp only [Option.some.injEq] at h
        subst h
        cases e with
        | normal =>
          obtain ⟨⟨F', O', δ', g1, g2⟩, g3⟩ := hp
          simp [shrinkK, getC_eq] at g2
        | exit j =>
          obtain ⟨⟨F', O', δ', g1, g2⟩, g3⟩ := hp
          simp [shrinkK, getC_eq] at g2
        | ret =>
          obtain ⟨⟨F', O', δ', g1, g2⟩, g3⟩ := hp
          obtain ⟨rs, g5, g6, g4⟩ := retK_is g2
          simp only [shrinkK, Option.some.injEq, Out.ret.injEq] at g4
          obtain ⟨rfl, rfl⟩ := g4
          exact hQ .ret _ _ ⟨⟨F', O', δ', g1, retK_of g5 g6 ho⟩, g3⟩
        | _ => exact hp.elim

theorem denJ_sound (hT : okT P c.T = true) (hS : ∀ f S, look c.S f = some S → Meets c.G P f S) (hm : P.follows .mixedOrders = true) {V : Nat → Value} {J : List (Nat × List Nat)} (hJ : okJ c J = true) : ∀ (b : Code) (p bid : Nat), okCode c bid b = true → ∀ (F : Nat → Prop) (O : Nat → Option (Nat × Nat)) (a : Act) (w : World) (δ : List D),
    Inv c B X w0 F0 F O a w δ → IoV c V a → ∀ (k : Out → Option Out) (r : Out), denJ c J p bid b δ k = some r → ∀ Q, (∀ e a w, Post c B X w0 F0 V k r e a w → Q e a w) → b.wp P Q a w
  | .skip, p, bid, _, F, O, a, w, δ, hI, hV, k, r, hg, Q, hQ => wp_skip (hQ _ _ _ ⟨⟨F, O, δ, hI, hg⟩, hV⟩)
  | .region id ops d, p, bid, hok, F, O, a, w, δ, hI, hV, k, r, hg, Q, hQ => by
    simp only [okCode, Bool.and_eq_true, List.all_eq_true] at hok
    have hq : ∀ a w, NextV c B X w0 F0 V (fun δ => k (.nrm δ)) r a w → Q .normal a w := fun a w h => hQ _ _ _ h
    cases d
    · exact wp_region_list (list_sound hT hS hq ops.toList hok.1 F O a w δ hI hV hg)
    · exact any_sound hT hS (by simpa using hok.2) hm hq hok.1 hI hV hg id
  | .seq x y, p, bid, hok, F, O, a, w, δ, hI, hV, k, r, hg, Q, hQ => by
    simp only [okCode, Bool.and_eq_true] at hok
    simp only [denJ] at hg
    cases hH : look J p with
    | none =>
      rw [hH] at hg
      refine wp_seq (denJ_sound hT hS hm hJ x _ bid hok.1 F O a w δ hI hV _ r hg _ (fun e a' w' hp => ?_))
      cases e with
      | normal =>
        obtain ⟨⟨F', O', δ', hI', hk'⟩, hV'⟩ := hp
        exact denJ_sound hT hS hm hJ y _ bid hok.2 F' O' a' w' δ' hI' hV' k r hk' Q hQ
      | exit id => exact hQ _ _ _ hp
      | ret => exact hQ _ _ _ hp
      | _ => exact hp.elim
    | some hl =>
      rw [hH] at hg
      simp only [joinC] at hg
      have hlive := okJ_at hJ hH
      refine wp_seq (denJ_sound hT hS hm hJ x _ bid hok.1 F O a w δ hI hV _ r hg _ (fun e a' w' hp => ?_))
      cases e with
      | normal =>
        obtain ⟨⟨F', O', δ', hI', hk'⟩, hV'⟩ := hp
        simp only [seqK, getC_eq, expandC_eq] at hk'
        exact denJ_sound hT hS hm hJ y _ bid hok.2 F' O' a' w' _ (hI'.carry hlive) hV' k r hk' Q hQ
      | exit id => exact hQ _ _ _ hp
      | ret => exact hQ _ _ _ hp
      | _ => exact hp.elim
  | .cond x t e, p, bid, hok, F, O, a, w, δ, hI, hV, k, r, hg, Q, hQ => by
    simp only [okCode, Bool.and_eq_true] at hok
    obtain ⟨⟨hlv, hok1⟩, hok2⟩ := hok
    have hop := hI.opd (ble_iff.1 hlv)
    have key : ifD (opD δ x) (denJ c J (Nat.mul 2 p) bid t δ k) (denJ c J (Nat.add (Nat.mul 2 p) 1) bid e δ k) = some r := by
      simp only [denJ] at hg
      cases x with
      | tmp s => simpa only [opC, nthC_eq, opD] using hg
      | const v => simpa only [opC, opD] using hg
      | func f => simpa only [opC, opD] using hg
      | global g => simp [opC] at hg
    unfold ifD at key
    split at key
    · rename_i hd
      rw [hd] at hop
      exact wp_cond_true (RepB_v hop).1 (denJ_sound hT hS hm hJ t _ bid hok1 F O a w δ hI hV k r key Q hQ)
    · rename_i hd
      rw [hd] at hop
      exact wp_cond_false (RepB_v hop).1 (denJ_sound hT hS hm hJ e _ bid hok2 F O a w δ hI hV k r key Q hQ)
    · cases key
  | .block id b, p, bid, hok, F, O, a, w, δ, hI, hV, k, r, hg, Q, hQ => by
    simp only [okCode] at hok
    refine wp_block (denJ_sound hT hS hm hJ b _ id hok F O a w δ hI hV _ r hg _ (fun e a' w' hp => ?_))
    cases e with
    | normal => exact hQ .normal _ _ hp
    | exit i =>
      simp only [Exit.inBlock]
      have hp' : NextV c B X w0 F0 V (fun δ => blkK id (.ext i δ) k) r a' w' := hp
      split
      · rename_i hi
        refine hQ .normal _ _ (NextV_mono hp' fun δ F O _ h => ?_)
        simp only [blkK] at h
        rw [beq_iff.2 (by simpa using hi)] at h
        exact h
      · rename_i hi
        refine hQ (.exit i) _ _ (NextV_mono hp' fun δ F O _ h => ?_)
        simp only [blkK] at h
        cases hb : Nat.beq i id
        · rw [hb] at h; exact h
        · exact absurd (by simpa using beq_iff.1 hb) hi
    | ret => exact hQ .ret _ _ hp
    | _ => exact hp.elim
  | .loop b, p, bid, hok, F, O, a, w, δ, hI, hV, k, r, hg, Q, hQ => by
    simp only [okCode, Bool.and_eq_true] at hok
    obtain ⟨hok1, hok2⟩ := hok
    simp only [denJ] at hg
    cases hH : look c.H bid with
    | none => rw [hH] at hg; cases hg
    | some hx =>
      obtain ⟨hl, xl⟩ := hx
      rw [hH] at hg hok2
      simp only [Bool.and_eq_true] at hok2
      simp only [getC_eq] at hg
      obtain ⟨o', h1, h2⟩ := Option.bind_eq_some_iff.1 hg
      unfold loopC at h1
      split at h1
      case isFalse => cases h1
      rename_i hex
      refine wp_loop_rounds (Classical.choose hex) ?_
      refine loop_roundsJ (hl := hl) (xl := xl) hok2.1 hok2.2 (fun F O a w δ hI hV k r hg Q hQ => denJ_sound hT hS hm hJ b _ bid hok1 F O a w δ hI hV k r hg Q hQ) hQ h2 _ F O a w δ hI hV h1
  | .exit id, p, bid, _, F, O, a, w, δ, hI, hV, k, r, hg, Q, hQ => wp_exit (hQ _ _ _ ⟨⟨F, O, δ, hI, hg⟩, hV⟩)
  | .ret, p, bid, _, F, O, a, w, δ, hI, hV, k, r, hg, Q, hQ => wp_ret (hQ _ _ _ ⟨⟨F, O, δ, hI, hg⟩, hV⟩)
  | .label _, _, _, hok, _, _, _, _, _, _, _, _, _, _, _, _ => by simp [okCode] at hok
  | .goto _, _, _, hok, _, _, _, _, _, _, _, _, _, _, _, _ => by simp [okCode] at hok
  | .scope _, _, _, hok, _, _, _, _, _, _, _, _, _, _, _, _ => by simp [okCode] at hok


theorem fn_callsJ (hT : okT P c.T = true) (hS : ∀ f S, look c.S f = some S → Meets c.G P f S) (hm : P.follows .mixedOrders = true) {J : List (Nat × List Nat)} (hJ : okJ c J = true) {f : FuncId} {fn : Func} (hf : P.funcs[f]? = some fn) {pm rm : List Kd} (hok : okFn c fn pm rm = true) (hres : c.res = fn.results.toList)
    {ds rs us : List D} (hd : denFJ c J fn ds = some (.ret rs us)) {args : Array Value} {w : World} {F : Nat → Prop} {ow : Nat → Option Nat} (hgl : gOk c.G w F) (ha : ArgsOk w F ow 0 pm ds args.toList) (hF : ∀ b, F b → b < w.heap.size ∧ ow b = none) (hO : ∀ b i, ow b = some i → b < w.heap.size) :
    Calls P f args w fun e w' => ∃ v, e = .returned v ∧ ∃ F' R vs, v = resV vs ∧ CallPost { pm := pm, rm := rm, f := denFJ c J fn } args rs us w F ow F' R vs w' := by
  unfold okFn at hok
  simp only [Bool.and_eq_true, decide_eq_true_eq] at hok
  obtain ⟨⟨⟨⟨⟨hcode, hlenK⟩, hpre⟩, hpm⟩, hokr⟩, hios⟩ := hok
  rw [beq_iff, lenN_eq] at hlenK
  obtain ⟨hpl, hpn⟩ := prefK_nth hpre
  obtain ⟨hdl, hal, hargs⟩ := ArgsOk_at pm ds args.toList 0 ha
  have hasz : args.size = pm.length := by simpa using hal
  unfold denFJ at hd
  cases hb : fn.body with
  | none => rw [hb] at hd; cases hd
  | some b =>
    rw [hb] at hd hcode
    simp only at hd hcode
    refine calls_of_wp hf hb ?_
    have hav : ∀ s, s < pm.length → av ({ tmps := args ++ Array.replicate (fn.ntmps - args.size) undef, defers := [] } : Act) s = args.toList.getD s undef := fun s hs => by
      have h1 : s < args.size := by omega
      simp only [av, Array.getD_eq_getD_getElem?, List.getD_eq_getElem?_getD, Array.getElem?_toList]
      rw [Array.getElem?_append_left h1]
    have hinit : Inv c w.heap.size (fun b => ow b ≠ none) w F F (fun b => (ow b).map fun i => (i, 0)) { tmps := args ++ Array.replicate (fn.ntmps - args.size) undef, defers := [] } w (padTo fn.ntmps ds) := by
      refine ⟨by simp; omega, by rw [padTo_len, hlenK], rfl, fun s => ?_, fun b hb => ⟨(hF b hb).1, by simp [(hF b hb).2]⟩, fun b p hp => ?_, fun _ h => h, fun _ h => .inl h, Nat.le_refl _, rfl, rfl, rfl, fun _ _ _ => rfl, hgl⟩
      · unfold SlotOk
        rw [padTo_nth _ _ _ (by rw [hdl]; omega)]
        by_cases hs : s < pm.length
        · rw [hpn s hs, hav s hs]
          rcases hargs s hs with hbad | harg
          · exact .inl hbad
          refine .inr ?_
          have hlv : ∀ lv, lv ≠ 1 → ∀ b, FB F 0 lv b → FB F w.heap.size lv b := fun lv h1 b hb => by
            match lv, h1 with
            | 0, _ => exact hb
            | _ + 2, _ => exact hb
          rcases okPm_at hpm s hs with ⟨lv, hk, h1⟩ | ⟨z, lv, hk, h1⟩ | ⟨n, lv, hk, h1⟩
          · rw [hk] at harg ⊢
            exact .inr (RepV_mono (hlv lv h1) (fun _ _ => rfl) harg)
          · rw [hk] at harg ⊢
            exact .inr (OwnV_mono' (hlv lv h1) (fun _ _ => rfl) (fun g _ hg => ⟨⟨by simp only [Nat.zero_add] at hg; simp [hg], fun h => by cases h⟩, rfl⟩) harg)
          · rw [hk] at harg ⊢
            exact .inr (BoxV_mono' (hlv lv h1) (fun _ _ => rfl) (fun g _ hg => ⟨⟨by simp only [Nat.zero_add] at hg; simp [hg], fun h => by cases h⟩, rfl⟩) harg)
        · refine .inl ?_
          rw [nth_eq, List.getD_eq_getElem?_getD, List.getElem?_eq_none (by omega)]
          rfl
      · obtain ⟨i, hi, rfl⟩ := Option.map_eq_some_iff.1 hp
        exact ⟨hO b i hi, .inr (by rw [hi]; simp)⟩
    refine denJ_sound hT hS hm hJ b 1 0 hcode F _ _ w _ hinit (V := av { tmps := args ++ Array.replicate (fn.ntmps - args.size) undef, defers := [] }) (fun _ _ => rfl) _ _ hd _ (fun e a' w' hp => ?_)
    have fin : NextV c w.heap.size (fun b => ow b ≠ none) w F (av { tmps := args ++ Array.replicate (fn.ntmps - args.size) undef, defers := [] }) (fun δ => retK c δ some) (.ret rs us) a' w' → a'.defers = [] ∧ ∃ v, (results fn a'.tmps).run P w' = .ok v w' ∧ ∃ v', Ending.returned v = .returned v' ∧ ∃ F' R vs, v' = resV vs ∧ CallPost { pm := pm, rm := rm, f := denFJ c J fn } args rs us w F ow F' R vs w' := by
      rintro ⟨⟨F', O', δ', hI', hk⟩, hV'⟩
      obtain ⟨rs', h1, h2, h3⟩ := retK_is hk
      simp only [Option.some.injEq, Out.ret.injEq] at h3
      obtain ⟨rfl, rfl⟩ := h3
      obtain ⟨vs, g1, g2, g3, g4⟩ := res_run (P := P) hT hI' c.res rm rs' hokr h1
      refine ⟨hI'.df, resV vs, ?_, _, rfl, F', fun b => if w.heap.size ≤ b then (match O' b with
        | some (t, 0) => resIx c.res t 0
        | _ => none) else none, vs, rfl, ?_⟩
      · have hrun : (fn.results.mapM (getRes a'.tmps)).run P w' = .ok vs.toArray w' := by
          rw [Array.mapM_eq_mapM_toList, ← hres]
          simp [g1]
        have hrw : results fn a'.tmps = (do
            let vs ← fn.results.mapM (getRes a'.tmps)
            pure (if h : vs.size = 1 then vs[0] else .tuple vs)) := by
          unfold results
          congr 1
        rw [hrw]
        simp only [Sem.run_bind, hrun, Result.andThen_ok, Sem.run_pure]
        congr 1
        rcases vs with _ | ⟨y, _ | ⟨y', vs⟩⟩
        · simp [resV]
        · simp [resV]
        · simp [resV]
      · refine ⟨hI'.os, hI'.tape, hI'.output, hI'.bb, fun b hb ho => hI'.keep b hb (by simp [ho]), hI'.f0, fun b hb => ⟨hI'.fn b hb, (hI'.fl b hb).1, by simp only [(hI'.fl b hb).2]; split <;> rfl⟩, fun b j hj => ?_, g2, g3, fun j => ?_, ?_⟩
        · split at hj
          case isFalse => cases hj
          rename_i hB
          refine ⟨hB, ?_⟩
          split at hj
          · rename_i t he; exact (hI'.ol b _ he).1
          · cases hj
        · refine ResOk_mono (fun hk g hg => ?_) (g4 j)
          obtain ⟨z, lv, hk⟩ := hk
          obtain ⟨e1, t, e2, e3⟩ := hg
          rw [if_pos e1]
          simp only [e3]
          have := (resIx_own c.res rm hokr j t 0 z lv hk e2).1
          simpa using this
        · rw [hios]
          refine UsOk_of pm args.toList 0 hal (fun j hj hio => ?_)
          rw [Nat.zero_add]
          have hkj := hpn j hj
          have hbj : nth δ' j ≠ .bad := by
            refine h2 _ ?_
            rw [hios, getAll_map]
            exact List.mem_map_of_mem (by simpa using ioIdx_mem pm 0 j hj hio)
          have havj : av a' j = args.toList.getD j undef := (hV' j (by rw [hkj]; exact hio)).trans (hav j hj)
          have hlv : ∀ lv, lv ≠ 1 → ∀ b, FB F' w.heap.size lv b → FB F' 0 lv b := fun lv h1 b hb => by
            match lv, h1 with
            | 0, _ => exact hb
            | _ + 2, _ => exact hb
          refine ⟨hbj, .inr ?_⟩
          rcases okPm_at hpm j hj with ⟨lv, hk, h1⟩ | ⟨z, lv, hk, h1⟩ | ⟨n, lv, hk, h1⟩
          · rw [hk] at hio; cases hio
          · have h5 := hI'.own (hkj.trans hk) hbj
            rw [havj] at h5
            rw [hk]
            exact OwnV_mono' (hlv lv h1) (fun _ _ => rfl) (fun _ _ _ => ⟨trivial, rfl⟩) h5
          · have h5 := hI'.box (hkj.trans hk) hbj
            rw [havj] at h5
            rw [hk]
            exact BoxV_mono' (hlv lv h1) (fun _ _ => rfl) (fun _ _ _ => ⟨trivial, rfl⟩) h5
    cases e with
    | normal => exact fin hp
    | exit i =>
      obtain ⟨⟨_, _, _, _, h⟩, _⟩ := hp
      cases h
    | ret =>
      refine fin (NextV_mono hp fun δ F O _ h => ?_)
      obtain ⟨rs', h1, h2, h3⟩ := retK_is h
      exact retK_of h1 h2 h3
    | _ => exact hp.elim

theorem meets_ofJ (hT : okT P c.T = true) (hS : ∀ f S, look c.S f = some S → Meets c.G P f S) (hm : P.follows .mixedOrders = true) {J : List (Nat × List Nat)} (hJ : okJ c J = true) {f : FuncId} {fn : Func} (hf : P.funcs[f]? = some fn) (hname : (fn.name == "runtime.NumGoroutine") = false) {pm rm : List Kd} (hok : okFn c fn pm rm = true) (hres : c.res = fn.results.toList) :
    Meets c.G P f { pm := pm, rm := rm, f := denFJ c J fn } := by
  intro ds rs us hd args w F ow hgl ha hF hO o a next Q hn
  have hbody : ∃ b, fn.body = some b := by
    have hd' : denFJ c J fn ds = some (.ret rs us) := hd
    unfold denFJ at hd'
    cases hb : fn.body with
    | none => rw [hb] at hd'; cases hd'
    | some b => exact ⟨b, rfl⟩
  obtain ⟨b, hb⟩ := hbody
  have hrun : (callFunc f args).run P w = .ok (.enter f args) w := by
    have h1 : ¬ fn.name = "runtime.NumGoroutine" := by simpa using hname
    simp [callFunc, hf, h1, hb]
  rw [hrun, Oper.upon_enter]
  refine Calls.mono (fn_callsJ hT hS hm hJ hf hok hres hd hgl ha hF hO) (fun e w' he => ?_)
  obtain ⟨v, rfl, F', R, vs, h1, h2⟩ := he
  exact hn v w' ⟨F', R, vs, h1, h2⟩


end

/-- A join: what is so of all that comes to it is so of the whole. -/
theorem joinC_of {f : (List D → Option Out) → Option Out} {k : List D → Option Out} {r : Option Out} (p : List D → Prop) (hk : ∀ s, p s → k s = r) (hf : ∀ j : List D → Option Out, (∀ s, p s → j s = r) → f j = r) : joinC f k = r := hf k hk
end Go.V
