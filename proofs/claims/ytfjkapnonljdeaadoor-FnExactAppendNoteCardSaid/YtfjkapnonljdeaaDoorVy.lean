/-
  A row's arguments as data, and the row from a contract.
-/
import Derived.Test.YtfjkapnonljdeaaDoorVx
import Derived.ProofKit
import Derived.ChangeArms
namespace Go.V
open Go.RowKit Go.WideShapes Go.ChangeShapes

/-! ### shapes of arguments -/
mutual
inductive Sh where
  | int (k : IntKind)
  | bool
  | str
  | sl (e : Sh)
  | st (l : ShL)
inductive ShL where
  | nil
  | cons (h : Sh) (t : ShL)
end
mutual
def Sh.size : Sh → Nat
  | .int _ => 1
  | .bool => 1
  | .str => 1
  | .sl _ => 1
  | .st l => l.size
def ShL.size : ShL → Nat
  | .nil => 0
  | .cons h t => h.size + t.size
end
def Sh.isSt : Sh → Bool
  | .st _ => true
  | _ => false

mutual
def Sh.flat : Sh → Bool
  | .int _ => true
  | .bool => true
  | .str => true
  | .sl _ => false
  | .st l => l.flat
def ShL.flat : ShL → Bool
  | .nil => true
  | .cons h t => h.flat && t.flat
end
def wrap (ag : Bool) (m : List D) : D := if ag then .agg m else nth m 0
mutual
def Sh.Is : Sh → List D → Prop
  | .int k, l => ∃ n, l = [.v (.int k n)] ∧ k.min ≤ n ∧ n ≤ k.max
  | .bool, l => ∃ b, l = [B b]
  | .str, l => ∃ s, l = [T s] ∧ s.size ≤ maxLen
  | .sl e, l => ∃ ds, l = [.arr e.size ds] ∧ ds.length ≤ maxLen ∧ ∀ d ∈ ds, ∃ m, e.Is m ∧ d = wrap e.isSt m
  | .st fs, l => fs.Is l
def ShL.Is : ShL → List D → Prop
  | .nil, l => l = []
  | .cons h t, l => ∃ a b, l = a ++ b ∧ h.Is a ∧ t.Is b
end
mutual
def Sh.ok (P : Program) : Sh → TypeId → Bool
  | .int k, t => match P.underlying t with
    | some (.int k') => decide (k' = k)
    | _ => false
  | .bool, t => match P.underlying t with
    | some .bool => true
    | _ => false
  | .str, t => match P.underlying t with
    | some .string => true
    | _ => false
  | .sl e, t => match P.underlying t with
    | some (.slice u) => e.ok P u && decide (P.cellsOf u = e.size) && decide (0 < e.size)
    | _ => false
  | .st l, t => match P.underlying t with
    | some (.struct fs) => l.ok P 0 fs.toList && decide (P.cellsOf t = l.size)
    | _ => false
def ShL.ok (P : Program) : ShL → Nat → List Field → Bool
  | .nil, _, [] => true
  | .cons h t, off, f :: fs => decide (f.offset = off) && h.ok P f.type && decide (P.cellsOf f.type = h.size) && t.ok P (off + h.size) fs
  | _, _, _ => false
end

section
variable {H : Type} {enc : TypeId × Value → H} {P : Program} {W : World}

theorem Sh.len_one {sh : Sh} (h : sh.isSt = false) : sh.size = 1 := by
  cases sh <;> simp_all [Sh.isSt, Sh.size]

theorem cells_is {a : Addr} {n : Nat} {vs : List Value} (h : W.cells? 0 a n = some vs) : vs.length = n ∧ ∀ i u, vs[i]? = some u → W.cell? (a.add i) = some u := by
  simp only [World.cells?, Nat.zero_le, if_true] at h
  have hl := mapM_some_length h
  rw [List.length_range] at hl
  refine ⟨hl, fun i u hu => ?_⟩
  have hi : i < n := by
    rw [← hl]
    exact (List.getElem?_eq_some_iff.1 hu).1
  rw [mapM_some_get h i i (by simp [hi]), hu]

theorem add_add (a : Addr) (i j : Nat) : (a.add i).add j = a.add (i + j) := by
  unfold Addr.add
  by_cases hi : i = 0 <;> by_cases hj : j = 0 <;> simp [hi, hj, Nat.add_assoc]

theorem cell_spot {a : Addr} {u : Value} (h : W.cell? a = some u) : a.spot = none ∧ a.block < W.heap.size := by
  unfold World.cell? at h
  split at h
  case h_2 => cases h
  rename_i hb
  split at h
  · cases h
  rename_i hs
  refine ⟨by simpa using hs, ?_⟩
  rcases Nat.lt_or_ge a.block W.heap.size with h' | h'
  · exact h'
  · rw [Array.getElem?_eq_none h'] at hb; cases hb

theorem RepL_uno {F : Nat → Prop} {d : D} {vs : List Value} : RepL W F [d] vs ↔ RepC W F d vs := by
  rw [RepL_cons]
  constructor
  · rintro ⟨v1, v2, rfl, h1, h2⟩
    rw [RepL_nil.1 h2, List.append_nil]
    exact h1
  · intro h
    exact ⟨vs, [], by simp, h, RepL_nil.2 rfl⟩

theorem RepC_wrap {F : Nat → Prop} {sh : Sh} {L : List D} {vs : List Value} (hr : RepL W F L vs) (hs : L.all D.single = true) (hl : L.length = sh.size) : RepC W F (wrap sh.isSt L) vs ∧ (wrap sh.isSt L).width = sh.size := by
  cases hb : sh.isSt
  · have h1 := Sh.len_one hb
    match L, hl.trans h1 with
    | [d], _ =>
      simp only [wrap, Bool.false_eq_true, if_false, nth]
      refine ⟨RepL_uno.1 hr, ?_⟩
      rw [h1]
      exact (width_single (by simpa using hs)).1
  · simp only [wrap, if_true]
    refine ⟨by rw [RepC]; exact ⟨hr, hs⟩, ?_⟩
    simpa [D.width, D.cells] using hl

mutual
theorem Sh.opened : ∀ (sh : Sh) (t : TypeId) (fuel : Nat) (cs : List Value) (x : DataW H × List MemPlace), sh.ok P t = true → DataW.trod enc P W 0 (fun _ => true) true fuel t cs = some x →
    ∃ L, sh.Is L ∧ RepL W (· < W.heap.size) L cs ∧ L.all D.single = true ∧ L.length = sh.size
  | .int k, t, fuel, cs, x, hok, h => by
    simp only [Sh.ok] at hok
    split at hok
    case h_2 => cases hok
    rename_i k' hu
    have hk := of_decide_eq_true hok
    subst hk
    obtain ⟨n, rfl, -, hw⟩ := DataW.trod_int hu h
    simp only [Lit.wf, Bool.and_eq_true, decide_eq_true_eq] at hw
    refine ⟨[.v (.int k' n)], ⟨n, rfl, hw⟩, RepL_uno.2 ?_, rfl, rfl⟩
    simp [RepC, V.flat]
  | .bool, t, fuel, cs, x, hok, h => by
    simp only [Sh.ok] at hok
    split at hok
    case h_2 => cases hok
    rename_i hu
    obtain ⟨n, rfl, -⟩ := DataW.trod_bool hu h
    refine ⟨[B n], ⟨n, rfl⟩, RepL_uno.2 ?_, rfl, rfl⟩
    simp [RepC, V.flat]
  | .str, t, fuel, cs, x, hok, h => by
    simp only [Sh.ok] at hok
    split at hok
    case h_2 => cases hok
    rename_i hu
    obtain ⟨s, rfl, -, hw⟩ := DataW.trod_string hu h
    refine ⟨[T s], ⟨s, rfl, hw⟩, RepL_uno.2 ?_, rfl, rfl⟩
    simp [RepC, V.flat]
  | .sl e, t, fuel, cs, x, hok, h => by
    simp only [Sh.ok] at hok
    split at hok
    case h_2 => cases hok
    rename_i u hu
    simp only [Bool.and_eq_true, decide_eq_true_eq] at hok
    obtain ⟨⟨hok, hz⟩, hpos⟩ := hok
    rcases DataW.trod_slice hu h with ⟨rfl, -⟩ | ⟨a, len, cap, elems, rest, n, rfl, rfl, -, -, hle, hcap, hlen, hel, -⟩
    · refine ⟨[.arr e.size []], ⟨[], rfl, by simp, by simp⟩, RepL_uno.2 ?_, rfl, rfl⟩
      rw [RepC]
      exact ⟨none, 0, [], rfl, Nat.le_refl _, RepL_nil.2 rfl, by simp, by simp⟩
    · have key : ∀ k, k ≤ len → ∃ ds us, ds.length = k ∧ us.length = k * e.size ∧ RepL W (· < W.heap.size) ds us ∧ (∀ d ∈ ds, d.width = e.size) ∧ (∀ d ∈ ds, ∃ m, e.Is m ∧ d = wrap e.isSt m) ∧ ∀ i v, us[i]? = some v → W.cell? (a.add i) = some v := by
        intro k
        induction k with
        | zero => exact fun _ => ⟨[], [], rfl, by simp, RepL_nil.2 rfl, by simp, by simp, by simp⟩
        | succ k ih =>
          intro hk
          obtain ⟨ds, us, h1, h2, h3, h4, h5, h6⟩ := ih (by omega)
          have hi := hel k (by omega)
          rw [List.getElem?_eq_getElem (by omega)] at hi
          obtain ⟨vs, hc, hd⟩ := Option.bind_eq_some_iff.1 hi
          obtain ⟨L, g1, g2, g3, g4⟩ := Sh.opened e u n vs _ hok hd
          obtain ⟨g5, g6⟩ := cells_is hc
          obtain ⟨g7, g8⟩ := RepC_wrap g2 g3 g4
          rw [hz] at g5 g6
          refine ⟨ds ++ [wrap e.isSt L], us ++ vs, by simp [h1], by simp [h2, g5, Nat.succ_mul], (RepL_append _ _ _).2 ⟨us, vs, rfl, h3, RepL_uno.2 g7⟩, ?_, ?_, fun i v hv => ?_⟩
          · intro d hd
            rcases List.mem_append.1 hd with hd | hd
            · exact h4 d hd
            · simp at hd; subst hd; exact g8
          · intro d hd
            rcases List.mem_append.1 hd with hd | hd
            · exact h5 d hd
            · simp at hd; subst hd; exact ⟨L, g1, rfl⟩
          · rcases Nat.lt_or_ge i us.length with hlt | hge
            · rw [List.getElem?_append_left hlt] at hv
              exact h6 i v hv
            · rw [List.getElem?_append_right hge] at hv
              have := g6 _ v hv
              rw [add_add, ← h2] at this
              rw [show us.length + (i - us.length) = i from by omega] at this
              exact this
      obtain ⟨ds, us, h1, h2, h3, h4, h5, h6⟩ := key len (Nat.le_refl _)
      refine ⟨[.arr e.size ds], ⟨ds, rfl, by omega, h5⟩, RepL_uno.2 ?_, rfl, rfl⟩
      rw [RepC]
      refine ⟨some a, cap, us, by rw [h1], by omega, h3, h4, fun hne => ?_⟩
      have hpl : 0 < us.length := by
        rw [h2, ← h1]
        exact Nat.mul_pos (List.length_pos_iff.2 hne) hpos
      have h0 := h6 0 _ (List.getElem?_eq_getElem hpl)
      have ha0 : a.add 0 = a := by simp [Addr.add]
      rw [ha0] at h0
      obtain ⟨hsp, hbl⟩ := cell_spot h0
      have ea : a = ⟨a.block, a.off, none⟩ := by
        rw [← hsp]
      refine ⟨a.block, a.off, by rw [← ea], hbl, fun i v hv => ?_⟩
      have := h6 i v hv
      unfold Addr.add at this
      split at this
      · rename_i hi0
        subst hi0
        rw [Nat.add_zero, ← ea]
        exact this
      · rw [← hsp]
        rw [hsp]
        exact this
  | .st l, t, fuel, cs, x, hok, h => by
    simp only [Sh.ok] at hok
    split at hok
    case h_2 => cases hok
    rename_i fs hu
    simp only [Bool.and_eq_true, decide_eq_true_eq] at hok
    obtain ⟨xs, n, rfl, -, hlen, hxl, hf⟩ := DataW.trod_struct hu h
    obtain ⟨L, g1, g2, g3, g4⟩ := ShL.opened l 0 fs.toList n cs hok.1 (fun f hf' => by
      obtain ⟨i, hi, he⟩ := List.mem_iff_getElem.1 hf'
      have := hf i f (by rw [← he]; simp at hi ⊢)
      rw [List.getElem?_eq_getElem (by simp at hi; omega)] at this
      exact ⟨_, this⟩)
    rw [List.drop_zero, ← hok.2, ← hlen, List.take_length] at g2
    exact ⟨L, g1, g2, g3, g4⟩
theorem ShL.opened : ∀ (l : ShL) (off : Nat) (fs : List Field) (fuel : Nat) (cs : List Value), l.ok P off fs = true → (∀ f ∈ fs, ∃ x, DataW.trod enc P W 0 (fun _ => true) true fuel f.type ((cs.drop f.offset).take (P.cellsOf f.type)) = some x) →
    ∃ L, l.Is L ∧ RepL W (· < W.heap.size) L ((cs.drop off).take l.size) ∧ L.all D.single = true ∧ L.length = l.size
  | .nil, off, [], fuel, cs, hok, h => ⟨[], rfl, by simp [ShL.size, RepL_nil], rfl, rfl⟩
  | .nil, off, _ :: _, fuel, cs, hok, h => by simp [ShL.ok] at hok
  | .cons a t, off, [], fuel, cs, hok, h => by simp [ShL.ok] at hok
  | .cons a t, off, f :: fs, fuel, cs, hok, h => by
    simp only [ShL.ok, Bool.and_eq_true, decide_eq_true_eq] at hok
    obtain ⟨⟨⟨h1, h2⟩, h3⟩, h4⟩ := hok
    obtain ⟨x, hx⟩ := h f (by simp)
    obtain ⟨L, g1, g2, g3, g4⟩ := Sh.opened a f.type fuel _ x h2 hx
    obtain ⟨M, k1, k2, k3, k4⟩ := ShL.opened t (off + a.size) fs fuel cs h4 (fun f hf => h f (by simp [hf]))
    refine ⟨L ++ M, ⟨L, M, rfl, g1, k1⟩, (RepL_append _ _ _).2 ⟨_, _, ?_, g2, k2⟩, by simp [g3, k3], by simp [ShL.size, g4, k4]⟩
    rw [h1, h3, ShL.size, ← List.drop_drop, ← List.take_add]
end

def isVs : D → Bool
  | .v _ => true
  | _ => false
theorem isV_agg {L : List D} (h : L.all isVs = true) : (D.agg L).isV = true := by
  simp only [D.isV]
  refine List.all_eq_true.2 fun d hd => ?_
  have := List.all_eq_true.1 h d hd
  cases d <;> simp_all [isVs]
mutual
theorem Sh.isV_of : ∀ (sh : Sh) (L : List D), sh.flat = true → sh.Is L → L.all isVs = true
  | .int k, L, _, h => by obtain ⟨n, rfl, _⟩ := h; rfl
  | .bool, L, _, h => by obtain ⟨n, rfl⟩ := h; rfl
  | .str, L, _, h => by obtain ⟨n, rfl, _⟩ := h; rfl
  | .sl _, L, h, _ => by simp [Sh.flat] at h
  | .st l, L, h, hl => ShL.isV_of l L (by simpa [Sh.flat] using h) hl
theorem ShL.isV_of : ∀ (sh : ShL) (L : List D), sh.flat = true → sh.Is L → L.all isVs = true
  | .nil, L, _, h => by cases h; rfl
  | .cons a t, L, h, hl => by
    obtain ⟨x, y, rfl, h1, h2⟩ := hl
    simp only [ShL.flat, Bool.and_eq_true] at h
    rw [List.all_append, Sh.isV_of a x h.1 h1, ShL.isV_of t y h.2 h2]
    rfl
end

/-- A whole argument. -/
def Sh.IsV (sh : Sh) (d : D) : Prop := ∃ m, sh.Is m ∧ d = wrap sh.isSt m

theorem Sh.arg {sh : Sh} {t : TypeId} {v : Value} {d : DataW H} {ps : List MemPlace} {base : Nat} (hok : sh.ok P t = true) (hv : Value.okWide P W .any base t v) (h : DataW.Trod enc P W 0 (fun _ => true) true t v d ps) :
    ∃ x, sh.IsV x ∧ RepV W (· < W.heap.size) x v ∧ (sh.flat = true → x.isV = true) := by
  obtain ⟨fuel, h⟩ := h
  obtain ⟨L, h1, h2, h3, h4⟩ := Sh.opened sh t fuel _ _ hok h
  refine ⟨_, ⟨L, h1, rfl⟩, ?_, fun hf => ?_⟩
  · cases hb : sh.isSt
    · have h1' := Sh.len_one hb
      have hone : v.cells.toList = [v] := by
        cases sh <;> simp only [Sh.isSt, Bool.true_eq_false] at hb <;> simp only [Sh.ok] at hok <;> split at hok <;> rename_i hu
        · obtain ⟨n, rfl⟩ := okWide_int hu hv; rfl
        · cases hok
        · obtain ⟨n, rfl⟩ := okWide_bool hu hv; rfl
        · cases hok
        · obtain ⟨n, rfl⟩ := okWide_string hu hv; rfl
        · cases hok
        · obtain ⟨_, _, _, rfl⟩ := okWide_slice hu hv; rfl
        · cases hok
      match L, h4.trans h1' with
      | [e], _ =>
        simp only [wrap, Bool.false_eq_true, if_false, nth]
        have hs : e.single = true := by simpa using h3
        rw [hone] at h2
        exact (RepV_single hs).2 (RepL_uno.1 h2)
    · simp only [wrap, if_true]
      have : ∃ cs, v = .agg cs := by
        cases sh <;> simp only [Sh.isSt, Bool.false_eq_true] at hb
        simp only [Sh.ok] at hok
        split at hok
        case h_2 => cases hok
        rename_i hu
        simp only [Value.okWide, hu] at hv
        obtain ⟨cs, h, _⟩ := hv
        exact ⟨cs, h⟩
      obtain ⟨cs, rfl⟩ := this
      refine ⟨cs.toList, by simp, ?_⟩
      rw [RepC]
      exact ⟨by simpa [Value.cells] using h2, h3⟩
  · have := Sh.isV_of sh L hf h1
    cases hb : sh.isSt
    · match L, h4.trans (Sh.len_one hb) with
      | [e], _ =>
        simp only [wrap, Bool.false_eq_true, if_false, nth]
        cases e <;> simp [isVs] at this
        rfl
    · simp only [wrap, if_true]
      exact isV_agg this

theorem int_is {k : IntKind} {x : D} (h : (Sh.int k).IsV x) : ∃ n, x = .v (.int k n) ∧ k.min ≤ n ∧ n ≤ k.max := by
  obtain ⟨_, ⟨n, rfl, h⟩, rfl⟩ := h
  exact ⟨n, rfl, h⟩
theorem bool_is {x : D} (h : Sh.bool.IsV x) : ∃ b, x = B b := by
  obtain ⟨_, ⟨n, rfl⟩, rfl⟩ := h
  exact ⟨n, rfl⟩
theorem str_is {x : D} (h : Sh.str.IsV x) : ∃ s, x = T s ∧ s.size ≤ maxLen := by
  obtain ⟨_, ⟨n, rfl, h⟩, rfl⟩ := h
  exact ⟨n, rfl, h⟩
theorem sl_is {e : Sh} {x : D} (h : (Sh.sl e).IsV x) : ∃ ds, x = .arr e.size ds ∧ ds.length ≤ maxLen ∧ ∀ d ∈ ds, e.IsV d := by
  obtain ⟨_, ⟨n, rfl, h, h'⟩, rfl⟩ := h
  exact ⟨n, rfl, h, h'⟩
/-- A slice whose elements are all of a form. -/
theorem sl_map {α : Type} {e : Sh} {f : α → D} (hf : ∀ d, e.IsV d → ∃ a, d = f a) {x : D} (h : (Sh.sl e).IsV x) : ∃ l : List α, x = .arr e.size (l.map f) ∧ l.length ≤ maxLen := by
  obtain ⟨ds, rfl, h1, h2⟩ := sl_is h
  have : ∃ l : List α, ds = l.map f := by
    clear h1 h
    induction ds with
    | nil => exact ⟨[], rfl⟩
    | cons d ds ih =>
      obtain ⟨a, rfl⟩ := hf d (h2 d (by simp))
      obtain ⟨l, rfl⟩ := ih (fun d hd => h2 d (by simp [hd]))
      exact ⟨a :: l, rfl⟩
  obtain ⟨l, rfl⟩ := this
  exact ⟨l, rfl, by simpa using h1⟩

def okShs (P : Program) : List Sh → List TypeId → List Kd → Bool
  | [], [], [] => true
  | sh :: shs, t :: ts, .dat lv :: ks => sh.ok P t && (Nat.beq lv 2 || (Nat.beq lv 0 && sh.flat)) && okShs P shs ts ks
  | _, _, _ => false
def IsShs : List Sh → List D → Prop
  | [], [] => True
  | sh :: shs, d :: ds => sh.IsV d ∧ IsShs shs ds
  | _, _ => False

theorem shs_one {a : Sh} {ds : List D} (h : IsShs [a] ds) : ∃ x, ds = [x] ∧ a.IsV x := by
  match ds, h with
  | [x], ⟨h1, _⟩ => exact ⟨x, rfl, h1⟩
theorem shs_two {a b : Sh} {ds : List D} (h : IsShs [a, b] ds) : ∃ x y, ds = [x, y] ∧ a.IsV x ∧ b.IsV y := by
  match ds, h with
  | [x, y], ⟨h1, h2, _⟩ => exact ⟨x, y, rfl, h1, h2⟩
theorem shs_three {a b c : Sh} {ds : List D} (h : IsShs [a, b, c] ds) : ∃ x y z, ds = [x, y, z] ∧ a.IsV x ∧ b.IsV y ∧ c.IsV z := by
  match ds, h with
  | [x, y, z], ⟨h1, h2, h3, _⟩ => exact ⟨x, y, z, rfl, h1, h2, h3⟩

theorem args_of {base : Nat} : ∀ (shs : List Sh) (ts : List TypeId) (ks : List Kd) (vs : List Value) (ds : List (DataW H)) (ps : List MemPlace) (i : Nat), okShs P shs ts ks = true → DataW.TrodAll enc P W 0 (fun _ => true) true ts vs ds ps →
    (∀ (j : Nat) t v, ts[j]? = some t → vs[j]? = some v → Value.okWide P W .any base t v) → ∃ xs, IsShs shs xs ∧ ArgsOk W (· < W.heap.size) (fun _ => none) i ks xs vs
  | [], [], [], [], _, _, _, _, _, _ => ⟨[], trivial, trivial⟩
  | [], [], [], _ :: _, [], _, _, _, h, _ => h.elim
  | [], [], [], _ :: _, _ :: _, _, _, _, h, _ => h.elim
  | sh :: shs, t :: ts, k :: ks, [], [], _, _, _, h, _ => h.elim
  | sh :: shs, t :: ts, k :: ks, [], _ :: _, _, _, _, h, _ => h.elim
  | sh :: shs, t :: ts, k :: ks, _ :: _, [], _, _, _, h, _ => h.elim
  | sh :: shs, t :: ts, k :: ks, v :: vs, d :: ds, ps, i, hok, h, hv => by
    cases k <;> simp only [okShs, Bool.false_eq_true] at hok
    rename_i lv
    simp only [Bool.and_eq_true, Bool.or_eq_true] at hok
    obtain ⟨⟨hok1, hlv⟩, hok2⟩ := hok
    obtain ⟨p, q, h1, h2, rfl⟩ := h
    obtain ⟨x, g1, g2, g3⟩ := Sh.arg hok1 (hv 0 t v rfl rfl) h1
    obtain ⟨xs, k1, k2⟩ := args_of shs ts ks vs ds q (i + 1) hok2 h2 (fun j t v ht hv' => hv (j + 1) t v ht hv')
    refine ⟨x :: xs, ⟨g1, k1⟩, .inr ?_, k2⟩
    rcases hlv with h' | ⟨h', hf⟩
    · rw [beq_iff] at h'
      subst h'
      exact g2
    · exact RepV_isV (g3 hf) g2
  | [], [], _ :: _, _, _, _, _, hok, _, _ => by simp [okShs] at hok
  | [], _ :: _, _, _, _, _, _, hok, _, _ => by simp [okShs] at hok
  | _ :: _, [], _, _, _, _, _, hok, _, _ => by simp [okShs] at hok
  | _ :: _, _ :: _, [], _, _, _, _, hok, _, _ => by simp [okShs] at hok

theorem trodAll_below {W' : World} (hl : laidOutB P = true) : ∀ (ts : List TypeId) (vs : List Value) (ds : List (DataW H)) (ps : List MemPlace), (ts.all fun t => P.readableRec t && decide (t < P.types.size)) = true →
    DataW.TrodAll enc P W 0 (fun _ => true) true ts vs ds ps → Below W.heap.size W W' → (∀ x ∈ ps, x.block < W.heap.size) → ∀ sp : Nat → Bool, (∀ x ∈ ps, sp x.block = true) → DataW.TrodAll enc P W' 0 sp true ts vs ds ps
  | [], [], [], _, _, h, _, _, _, _ => h
  | [], _ :: _, [], _, _, h, _, _, _, _ => h.elim
  | [], [], _ :: _, _, _, h, _, _, _, _ => h.elim
  | [], _ :: _, _ :: _, _, _, h, _, _, _, _ => h.elim
  | _ :: _, [], [], _, _, h, _, _, _, _ => h.elim
  | _ :: _, [], _ :: _, _, _, h, _, _, _, _ => h.elim
  | _ :: _, _ :: _, [], _, _, h, _, _, _, _ => h.elim
  | t :: ts, v :: vs, d :: ds, ps, hr, h, hb, hlt, sp, hsp => by
    obtain ⟨p, q, h1, h2, rfl⟩ := h
    simp only [List.all_cons, Bool.and_eq_true, decide_eq_true_eq] at hr
    refine ⟨p, q, ?_, trodAll_below hl ts vs ds q hr.2 h2 hb (fun x hx => hlt x (by simp [hx])) sp (fun x hx => hsp x (by simp [hx])), rfl⟩
    exact WideElems.Trod_stays hl hr.1.1 hr.1.2 h1 (fun x hx => hb.same (hlt x (by simp [hx]))) (fun x hx => hsp x (by simp [hx]))
end

section
variable {H : Type} {enc : TypeId × Value → H} {P : Program}
theorem post_of_below {f : Func} {s : ChangeSpec} {apart fresh handsOn again : Bool} {W W' : World} {args : Array Value} {v : Value} {ds gs : List (DataW H)} {before pa pv : List MemPlace}
    (hW : DataW.Whole enc P f.params.toList s.vars apart W args.toList ds gs before)
    (hres : ∀ (b : Nat) (sp : Nat → Bool) (hd : Bool), DataW.TrodAll enc P W' b sp hd f.resultTypes.toList (v.resultList f.resultTypes.size) (s.fn H (ds ++ gs)).results [])
    (hargs : ∀ sp : Nat → Bool, (∀ p ∈ before, sp p.block = true) → DataW.TrodAll enc P W' 0 sp true f.params.toList args.toList (s.fn H (ds ++ gs)).args pa)
    (hvars : ∀ sp : Nat → Bool, (∀ p ∈ before, sp p.block = true) → DataW.TrodVars enc P W' sp s.vars (s.fn H (ds ++ gs)).vars pv)
    (hps : before = pa ++ pv) (hb : Below W.heap.size W W')
    (hok : ∀ (j : Nat) (t : TypeId) (r : Value), f.resultTypes[j]? = some t → (v.resultList f.resultTypes.size)[j]? = some r → Value.okWide P W' .any 0 t r) :
    s.post enc P f apart fresh handsOn again W args v W' := by
  have hlt : ∀ p ∈ before, p.block < W.heap.size := fun p hp => hW.lt p hp
  have hold : ∀ p ∈ before, (fun b => decide (b < W.heap.size)) p.block = true := fun p hp => by simpa using hlt p hp
  refine ⟨ds, gs, before, [], pa, pv, hW, hres _ _ _, hargs _ hold, hvars _ hold, World.keptBut_mono (fun p hp => ⟨hp, ?_⟩) (hb.frame (· ∈ before)), fun _ => ?_⟩
  · rw [hps, List.mem_append] at hp
    exact Or.inr hp
  · obtain ⟨_, _, _, _, _, hz, hn⟩ := hW
    refine ⟨hok, _, _, ([] ++ pa) ++ pv, ⟨[] ++ pa, pv, trodAll_append (hargs _ (fun _ _ => rfl)) (hres _ _ _), hvars _ (fun _ _ => rfl), rfl, ?_, ?_⟩, ?_⟩
    · intro b off hp
      have hin : MemPlace.cell b off ∈ before := by rw [hps]; simpa using hp
      rw [hb.frozen (hlt _ hin)]
      exact hz b off hin
    · intro ha
      have := hn ha
      rw [hps] at this
      simpa using this
    · intro p hp _
      rw [hps]
      simpa using hp

theorem calls_of_meets {G : List (Nat × (Obj → Prop))} {f : FuncId} {S : FS} (hm : Meets G P f S) {fn : Func} (hf : P.funcs[f]? = some fn) (hname : (fn.name == "runtime.NumGoroutine") = false) (hb : fn.body.isSome = true) {ds rs us : List D} (hd : S.f ds = some (.ret rs us)) {args : Array Value} {w : World} {F : Nat → Prop} {ow : Nat → Option Nat}
    (hgl : gOk G w F) (ha : ArgsOk w F ow 0 S.pm ds args.toList) (hF : ∀ b, F b → b < w.heap.size ∧ ow b = none) (hO : ∀ b i, ow b = some i → b < w.heap.size) :
    Calls P f args w fun e w' => ∃ v, e = .returned v ∧ ∃ F' R vs, v = resV vs ∧ CallPost S args rs us w F ow F' R vs w' := by
  obtain ⟨b, hb⟩ := Option.isSome_iff_exists.1 hb
  have h1 : ¬ fn.name = "runtime.NumGoroutine" := by simpa using hname
  have hrun : (callFunc f args).run P w = .ok (.enter f args) w := by simp [callFunc, hf, h1, hb]
  have h2 := hm ds rs us hd args w F ow hgl ha hF hO { (default : Oper) with dst := some 0 } { tmps := #[undef], defers := [] } (fun a w' => ∃ F' R vs, a.tmps.getD 0 undef = resV vs ∧ CallPost S args rs us w F ow F' R vs w') (fun _ _ _ => False) (fun v w' h => by
    obtain ⟨F', R, vs, rfl, h⟩ := h
    exact ⟨F', R, vs, by simp [Act.put], h⟩)
  rw [hrun, Oper.upon_enter] at h2
  refine Calls.mono h2 fun e w' he => ?_
  cases e with
  | returned v =>
    obtain ⟨F', R, vs, h3, h4⟩ := he
    exact ⟨v, rfl, F', R, vs, by simpa [Act.put] using h3, h4⟩
  | panicked c => exact he.elim
  | outgrown => obtain ⟨_, _, h⟩ := he; exact h.elim

/-- A law's row: true whatever is given, and nothing of what was there is changed. -/
theorem law_post {G : List (Nat × (Obj → Prop))} {f : FuncId} {S : FS} (hm : Meets G P f S) {fn : Func} (hf : P.funcs[f]? = some fn) (hname : (fn.name == "runtime.NumGoroutine") = false) (hbd : fn.body.isSome = true) (shs : List Sh) {rt : TypeId}
    (hl : laidOutB P = true) (hsh : okShs P shs fn.params.toList S.pm = true) (hrd : (fn.params.toList.all fun t => P.readableRec t && decide (t < P.types.size)) = true)
    (hrm : S.rm = [.dat 0]) (hrt : fn.resultTypes = #[rt]) (hbool : P.underlying rt = some .bool)
    (hd : ∀ ds, IsShs shs ds → S.f ds = some (.ret [B true] [])) {s : ChangeSpec} (hvars : s.vars = [])
    (hs : ∀ ds : List (DataW H), ds.length = fn.params.size → s.fn H (ds ++ []) = { results := [.lit (.bool true)], args := ds })
    {W : World} {base : Nat} {args : Array Value} {ds gs : List (DataW H)} {before : List MemPlace}
    (hval : ∀ (j : Nat) t v, fn.params[j]? = some t → args[j]? = some v → Value.okWide P W .any base t v) (hW : DataW.Whole enc P fn.params.toList s.vars false W args.toList ds gs before) (hgl : gOk G W fun b => b < W.heap.size) {fresh handsOn again : Bool} :
    Calls P f args W fun e W' => ∃ v, e = .returned v ∧ s.post enc P fn false fresh handsOn again W args v W' := by
  have hW' := hW
  have hlt : ∀ p ∈ before, p.block < W.heap.size := fun p hp => hW.lt p hp
  obtain ⟨p, q, hA, hV, rfl, hfz, hnd⟩ := hW
  rw [hvars] at hV
  have hgs : gs = [] ∧ q = [] := by
    cases gs with
    | nil => exact ⟨rfl, hV⟩
    | cons _ _ => exact hV.elim
  obtain ⟨rfl, rfl⟩ := hgs
  obtain ⟨xs, h1, h2⟩ := args_of (base := base) shs fn.params.toList S.pm args.toList ds p 0 hsh hA (fun j t v ht hv => hval j t v (by simpa using ht) (by simpa using hv))
  refine Calls.mono (calls_of_meets hm hf hname hbd (hd xs h1) hgl h2 (fun b hb => ⟨hb, rfl⟩) (fun b i hi => by cases hi)) fun e W' he => ?_
  obtain ⟨v, rfl, F', R, vs, rfl, hp⟩ := he
  refine ⟨_, rfl, ?_⟩
  have hlen : ds.length = fn.params.size := by
    have : ∀ (ts : List TypeId) (vs : List Value) (ds : List (DataW H)) (ps : List MemPlace), DataW.TrodAll enc P W 0 (fun _ => true) true ts vs ds ps → ds.length = ts.length := by
      intro ts
      induction ts with
      | nil =>
        intro vs ds ps h
        cases ds with
        | nil => rfl
        | cons _ _ => cases vs <;> exact h.elim
      | cons t ts ih =>
        intro vs ds ps h
        cases vs with
        | nil => exact h.elim
        | cons v vs =>
          cases ds with
          | nil => exact h.elim
          | cons d ds =>
            obtain ⟨_, _, _, h2, _⟩ := h
            simp [ih _ _ _ h2]
    simpa using this _ _ _ _ hA
  have hB : Below W.heap.size W W' := ⟨hp.os, hp.tape, hp.output, hp.size, fun b hb => hp.keep b hb rfl⟩
  have hres : resV vs = .bool true := by
    have hl1 := hp.len
    rw [hrm] at hl1
    match vs, hl1 with
    | [y], _ =>
      have h0 := hp.res 0
      rw [hrm] at h0
      simp only [nthK, nth, List.getD_cons_zero] at h0
      rcases h0 with h0 | h0
      · cases h0
      · exact (RepV_v.1 h0).1
  rw [hres]
  have hsd := hs ds hlen
  refine post_of_below (pa := p) (pv := []) hW' (fun b sp hd' => ?_) (fun sp hsp => ?_) (fun sp _ => ?_) rfl hB ?_
  · rw [hsd, hrt]
    exact trodAll_mk1 (shut_bool hbool true)
  · rw [hsd]
    exact trodAll_below hl _ _ _ _ hrd hA hB (fun x hx => hlt x (by simp [hx])) sp (fun x hx => hsp x (by simp [hx]))
  · rw [hsd, hvars]
    rfl
  · exact ok_one hrt rfl (okWide_bool_mk hbool true)
end

end Go.V
