/-
  What data stands for in a world: the representation, and its plain laws.
-/
import Derived.Test.YtfjkapnonljdeaaDoorVc
namespace Go.V
open Go.RowKit

def CellsAt (w : World) (b o : Nat) (us : List Value) : Prop := ∀ i u, us[i]? = some u → w.cell? ⟨b, o + i, none⟩ = some u

mutual
def RepC (w : World) (F : Nat → Prop) : D → List Value → Prop
  | .v x, vs => vs = [x] ∧ flat x = true
  | .agg l, vs => RepL w F l vs ∧ l.all D.single = true
  | .arr z l, vs => ∃ A c us, vs = [.slice A l.length c] ∧ l.length ≤ c ∧ RepL w F l us ∧ (∀ d ∈ l, d.width = z) ∧
      (l ≠ [] → ∃ b o, A = some ⟨b, o, none⟩ ∧ F b ∧ CellsAt w b o us)
  | .ptr l, vs => ∃ b o us, vs = [.pointer (some ⟨b, o, none⟩)] ∧ RepL w F l us ∧ l.all D.single = true ∧ F b ∧ CellsAt w b o us
  | .clo f l, vs => ∃ us : List Value, vs = [.func (.func f) #[] us.toArray] ∧ RepL w F l us
  | .ifc, vs => ∃ t x, vs = [.iface t x]
  | .tup _, _ => False
  | .ref _ _, _ => False
  | .bad, _ => False
def RepL (w : World) (F : Nat → Prop) : List D → List Value → Prop
  | [], vs => vs = []
  | d :: ds, vs => ∃ v1 v2, vs = v1 ++ v2 ∧ RepC w F d v1 ∧ RepL w F ds v2
end

/-- A value in a slot. -/
def RepV (w : World) (F : Nat → Prop) (d : D) (y : Value) : Prop :=
  match d with
  | .agg l => ∃ vs : List Value, y = .agg vs.toArray ∧ RepC w F (.agg l) vs
  | .tup l => l = [] ∧ y = .tuple #[]
  | d => RepC w F d [y]

theorem all_append {α : Type} (p : α → Bool) (a b : List α) : (a ++ b).all p = (a.all p && b.all p) := by simp

mutual
theorem RepC_mono {w w' : World} {F F' : Nat → Prop} (hF : ∀ b, F b → F' b) (hw : ∀ b, F b → w'.heap[b]? = w.heap[b]?) :
    ∀ (d : D) (vs : List Value), RepC w F d vs → RepC w' F' d vs
  | .v _, _, h => by simpa only [RepC] using h
  | .agg l, vs, h => by
    simp only [RepC] at h ⊢
    exact ⟨RepL_mono hF hw l vs h.1, h.2⟩
  | .arr z l, vs, h => by
    simp only [RepC] at h ⊢
    obtain ⟨A, c, us, h1, h2, h3, h4, h5⟩ := h
    refine ⟨A, c, us, h1, h2, RepL_mono hF hw l us h3, h4, fun hl => ?_⟩
    obtain ⟨b, o, e, hb, hc⟩ := h5 hl
    exact ⟨b, o, e, hF b hb, fun i u hu => (World.cell?_of_block (w := w) (hw b hb)).trans (hc i u hu)⟩
  | .ptr l, vs, h => by
    simp only [RepC] at h ⊢
    obtain ⟨b, o, us, h1, h2, h3, h4, h5⟩ := h
    exact ⟨b, o, us, h1, RepL_mono hF hw l us h2, h3, hF b h4, fun i u hu => (World.cell?_of_block (w := w) (hw b h4)).trans (h5 i u hu)⟩
  | .clo f l, vs, h => by
    simp only [RepC] at h ⊢
    obtain ⟨us, h1, h2⟩ := h
    exact ⟨us, h1, RepL_mono hF hw l us h2⟩
  | .ifc, _, h => by simpa only [RepC] using h
  | .tup _, _, h => by simp only [RepC] at h
  | .ref _ _, _, h => by simp only [RepC] at h
  | .bad, _, h => by simp only [RepC] at h
theorem RepL_mono {w w' : World} {F F' : Nat → Prop} (hF : ∀ b, F b → F' b) (hw : ∀ b, F b → w'.heap[b]? = w.heap[b]?) :
    ∀ (l : List D) (vs : List Value), RepL w F l vs → RepL w' F' l vs
  | [], vs, h => by simpa only [RepL] using h
  | d :: ds, vs, h => by
    simp only [RepL] at h ⊢
    obtain ⟨v1, v2, h1, h2, h3⟩ := h
    exact ⟨v1, v2, h1, RepC_mono hF hw d v1 h2, RepL_mono hF hw ds v2 h3⟩
end

theorem RepV_mono {w w' : World} {F F' : Nat → Prop} (hF : ∀ b, F b → F' b) (hw : ∀ b, F b → w'.heap[b]? = w.heap[b]?) {d : D} {y : Value} (h : RepV w F d y) : RepV w' F' d y := by
  cases d <;> simp only [RepV] at h ⊢ <;> first
    | exact h
    | exact RepC_mono hF hw _ _ h
    | (obtain ⟨vs, h1, h2⟩ := h; exact ⟨vs, h1, RepC_mono hF hw _ _ h2⟩)

theorem RepC_len {w : World} {F : Nat → Prop} : ∀ (d : D) (vs : List Value), d.single = true → RepC w F d vs → ∃ y, vs = [y] ∧ y.cells = #[y] ∧ y.oneCell' = true := by
  intro d vs hs h
  cases d <;> simp only [RepC] at h <;> simp only [D.single] at hs
  case v x =>
    obtain ⟨rfl, hf⟩ := h
    cases x <;> simp_all [flat, Value.cells, Value.oneCell']
  case arr z l => obtain ⟨A, c, us, rfl, _⟩ := h; exact ⟨_, rfl, rfl, rfl⟩
  case ptr l => obtain ⟨b, o, us, rfl, _⟩ := h; exact ⟨_, rfl, rfl, rfl⟩
  case clo f l => obtain ⟨us, rfl, _⟩ := h; exact ⟨_, rfl, rfl, rfl⟩
  case ifc => obtain ⟨t, x, rfl⟩ := h; exact ⟨_, rfl, rfl, rfl⟩
  all_goals exact absurd hs (by simp)

theorem width_single {d : D} (h : d.single = true) : d.width = 1 ∧ d.cells = [d] := by cases d <;> simp_all [D.single, D.width, D.cells]

theorem RepL_cons {w : World} {F : Nat → Prop} {d : D} {ds : List D} {vs : List Value} : RepL w F (d :: ds) vs ↔ ∃ v1 v2, vs = v1 ++ v2 ∧ RepC w F d v1 ∧ RepL w F ds v2 := by rw [RepL]
theorem RepL_nil {w : World} {F : Nat → Prop} {vs : List Value} : RepL w F [] vs ↔ vs = [] := by rw [RepL]

theorem RepL_append {w : World} {F : Nat → Prop} : ∀ (l m : List D) (vs : List Value), RepL w F (l ++ m) vs ↔ ∃ v1 v2, vs = v1 ++ v2 ∧ RepL w F l v1 ∧ RepL w F m v2
  | [], m, vs => by
    rw [List.nil_append]
    exact ⟨fun h => ⟨[], vs, rfl, RepL_nil.2 rfl, h⟩, fun ⟨v1, v2, e, h1, h2⟩ => by rw [RepL_nil.1 h1] at e; rw [e]; exact h2⟩
  | d :: l, m, vs => by
    rw [List.cons_append, RepL_cons]
    constructor
    · rintro ⟨v1, v2, rfl, h1, h2⟩
      obtain ⟨u1, u2, rfl, h3, h4⟩ := (RepL_append l m v2).1 h2
      exact ⟨v1 ++ u1, u2, by simp, RepL_cons.2 ⟨v1, u1, rfl, h1, h3⟩, h4⟩
    · rintro ⟨v1, v2, rfl, h1, h2⟩
      obtain ⟨u1, u2, rfl, h3, h4⟩ := RepL_cons.1 h1
      exact ⟨u1, u2 ++ v2, by simp, h3, (RepL_append l m _).2 ⟨u2, v2, rfl, h4, h2⟩⟩

theorem RepL_single {w : World} {F : Nat → Prop} : ∀ (l : List D) (vs : List Value), l.all D.single = true → RepL w F l vs → vs.length = l.length ∧ (∀ u ∈ vs, u.oneCell' = true ∧ u.cells = #[u]) ∧ ∀ (i : Nat) (d : D), l[i]? = some d → ∃ u, vs[i]? = some u ∧ RepC w F d [u]
  | [], vs, _, h => by rw [RepL_nil] at h; subst h; simp
  | d :: l, vs, hs, h => by
    obtain ⟨v1, v2, rfl, h1, h2⟩ := RepL_cons.1 h
    simp only [List.all_cons, Bool.and_eq_true] at hs
    obtain ⟨y, rfl, hy, hy'⟩ := RepC_len d v1 hs.1 h1
    obtain ⟨g1, g2, g3⟩ := RepL_single l v2 hs.2 h2
    refine ⟨by simp [g1], ?_, ?_⟩
    · intro u hu
      rcases List.mem_append.1 hu with hu | hu
      · simp at hu; subst hu; exact ⟨hy', hy⟩
      · exact g2 u hu
    · intro i e he
      cases i with
      | zero => simp at he; subst he; exact ⟨y, rfl, h1⟩
      | succ i => simpa using g3 i e (by simpa using he)

theorem RepC_kind {w : World} {F : Nat → Prop} {d : D} {vs : List Value} (h : RepC w F d vs) : (∃ l, d = .agg l) ∨ d.single = true := by
  cases d
  case agg l => exact .inl ⟨l, rfl⟩
  case tup l => simp only [RepC] at h
  case ref i f => simp only [RepC] at h
  case bad => simp only [RepC] at h
  all_goals exact .inr rfl

theorem RepC_width {w : World} {F : Nat → Prop} {d : D} {vs : List Value} (h : RepC w F d vs) : vs.length = d.width := by
  rcases RepC_kind h with ⟨l, rfl⟩ | hs
  · simp only [RepC] at h
    simpa [D.width, D.cells] using (RepL_single l vs h.2 h.1).1
  · obtain ⟨y, rfl, _⟩ := RepC_len _ _ hs h
    rw [(width_single hs).1]; rfl

theorem RepL_length {w : World} {F : Nat → Prop} {z : Nat} : ∀ (l : List D) (vs : List Value), RepL w F l vs → (∀ d ∈ l, d.width = z) → vs.length = l.length * z
  | [], vs, h, _ => by rw [RepL_nil] at h; subst h; simp
  | d :: l, vs, h, hw => by
    obtain ⟨v1, v2, rfl, h1, h2⟩ := RepL_cons.1 h
    rw [List.length_append, RepC_width h1, RepL_length l v2 h2 (fun d hd => hw d (by simp [hd])), hw d (by simp)]
    simp [Nat.succ_mul, Nat.add_comm]

/-- The cells of one element. -/
theorem RepL_get {w : World} {F : Nat → Prop} {z : Nat} (l : List D) (vs : List Value) (h : RepL w F l vs) (hw : ∀ d ∈ l, d.width = z) (i : Nat) (d : D) (hd : l[i]? = some d) :
    ∃ p m q, vs = p ++ m ++ q ∧ p.length = i * z ∧ m.length = z ∧ RepC w F d m ∧ RepL w F (l.take i) p ∧ RepL w F (l.drop (i + 1)) q := by
  have hi : i < l.length := (List.getElem?_eq_some_iff.1 hd).1
  have e : l = l.take i ++ (d :: l.drop (i + 1)) := by
    have h1 : l[i] = d := (List.getElem?_eq_some_iff.1 hd).2
    conv => lhs; rw [← List.take_append_drop i l, List.drop_eq_getElem_cons hi, h1]
  rw [e] at h
  obtain ⟨p, r, rfl, hp, hr⟩ := (RepL_append _ _ _).1 h
  obtain ⟨m, q, rfl, hm, hq⟩ := RepL_cons.1 hr
  refine ⟨p, m, q, by simp, ?_, ?_, hm, hp, hq⟩
  · rw [RepL_length _ _ hp (fun d hd => hw d (List.mem_of_mem_take hd)), List.length_take]
    rw [Nat.min_eq_left (by omega)]
  · rw [RepC_width hm]; exact hw d (List.mem_of_getElem? hd)

theorem RepL_take {w : World} {F : Nat → Prop} {z : Nat} (l : List D) (vs : List Value) (h : RepL w F l vs) (hw : ∀ d ∈ l, d.width = z) (i : Nat) : RepL w F (l.take i) (vs.take (i * z)) ∧ RepL w F (l.drop i) (vs.drop (i * z)) := by
  by_cases hi : i ≤ l.length
  · rw [← List.take_append_drop i l] at h
    obtain ⟨p, q, rfl, hp, hq⟩ := (RepL_append _ _ _).1 h
    have hl : p.length = i * z := by
      rw [RepL_length _ _ hp (fun d hd => hw d (List.mem_of_mem_take hd)), List.length_take, Nat.min_eq_left hi]
    exact ⟨by rw [← hl]; simpa using hp, by rw [← hl]; simpa using hq⟩
  · have hl := RepL_length l vs h hw
    have h2 : vs.length ≤ i * z := by rw [hl]; exact Nat.mul_le_mul_right _ (by omega)
    rw [List.take_of_length_le h2, List.drop_eq_nil_of_le h2, List.take_of_length_le (by omega), List.drop_eq_nil_of_le (by omega)]
    exact ⟨h, RepL_nil.2 rfl⟩

/-- Cells that are each one value: taken, dropped. -/
theorem RepL_cut {w : World} {F : Nat → Prop} (l : List D) (vs : List Value) (hs : l.all D.single = true) (h : RepL w F l vs) (i : Nat) : RepL w F (l.take i) (vs.take i) ∧ RepL w F (l.drop i) (vs.drop i) := by
  have := RepL_take (z := 1) l vs h (fun d hd => (width_single (List.all_eq_true.1 hs d hd)).1) i
  simpa using this

theorem all_take {α : Type} {p : α → Bool} {l : List α} (h : l.all p = true) (i : Nat) : (l.take i).all p = true := List.all_eq_true.2 fun x hx => List.all_eq_true.1 h x (List.mem_of_mem_take hx)
theorem all_drop {α : Type} {p : α → Bool} {l : List α} (h : l.all p = true) (i : Nat) : (l.drop i).all p = true := List.all_eq_true.2 fun x hx => List.all_eq_true.1 h x (List.mem_of_mem_drop hx)

theorem CellsAt.take {w : World} {b o : Nat} {us : List Value} (h : CellsAt w b o us) (n : Nat) : CellsAt w b o (us.take n) := fun i u hu => h i u (by
  rw [List.getElem?_take] at hu
  split at hu
  · exact hu
  · cases hu)
theorem CellsAt.drop {w : World} {b o : Nat} {us : List Value} (h : CellsAt w b o us) (n : Nat) : CellsAt w b (o + n) (us.drop n) := fun i u hu => by
  rw [List.getElem?_drop] at hu
  rw [Nat.add_assoc]
  exact h _ u hu
theorem CellsAt.part {w : World} {b o : Nat} {p m q : List Value} (h : CellsAt w b o (p ++ m ++ q)) : CellsAt w b (o + p.length) m := fun i u hu => by
  rw [Nat.add_assoc]
  refine h _ u ?_
  have hi : i < m.length := by
    rcases Nat.lt_or_ge i m.length with hi | hi
    · exact hi
    · rw [List.getElem?_eq_none hi] at hu; cases hu
  rw [List.append_assoc, List.getElem?_append_right (by omega), Nat.add_sub_cancel_left, List.getElem?_append_left hi]
  exact hu

theorem RepV_single {w : World} {F : Nat → Prop} {d : D} {y : Value} (hs : d.single = true) : RepV w F d y ↔ RepC w F d [y] := by
  cases d <;> simp_all [D.single, RepV]
theorem RepV_kind {w : World} {F : Nat → Prop} {d : D} {y : Value} (h : RepV w F d y) (hn : ∀ l, d ≠ .tup l) : (∃ l, d = .agg l) ∨ d.single = true := by
  cases d
  case agg l => exact .inl ⟨l, rfl⟩
  case tup l => exact absurd rfl (hn l)
  all_goals exact (RepC_kind (vs := [y]) h).elim (fun ⟨_, e⟩ => by cases e) .inr

/-- What a value's cells are. -/
theorem not_tup {d : D} (h : d.cells.all D.single = true) (l : List D) : d ≠ .tup l := by
  rintro rfl
  simp [D.cells, D.single] at h
theorem RepV_cells {w : World} {F : Nat → Prop} {d : D} {y : Value} (h : RepV w F d y) (hn : ∀ l, d ≠ .tup l) : RepC w F d y.cells.toList ∧ d.cells.all D.single = true ∧ RepL w F d.cells y.cells.toList := by
  rcases RepV_kind h hn with ⟨l, rfl⟩ | hs
  · obtain ⟨vs, rfl, hr⟩ := h
    have hr' := hr
    simp only [RepC] at hr'
    exact ⟨by simpa [Value.cells] using hr, hr'.2, by simpa [Value.cells, D.cells] using hr'.1⟩
  · rw [RepV_single hs] at h
    obtain ⟨u, hu, hc, _⟩ := RepC_len _ _ hs h
    simp at hu; subst hu
    rw [(width_single hs).2, hc]
    exact ⟨h, by simp [hs], RepL_cons.2 ⟨_, [], by simp, h, RepL_nil.2 rfl⟩⟩

theorem RepV_v {w : World} {F : Nat → Prop} {x y : Value} : RepV w F (.v x) y ↔ y = x ∧ flat x = true := by simp [RepV, RepC]
theorem RepV_bad {w : World} {F : Nat → Prop} {y : Value} : ¬ RepV w F .bad y := by simp [RepV, RepC]
theorem RepV_ne {w : World} {F : Nat → Prop} {d : D} {y : Value} (h : RepV w F d y) : d ≠ .bad := fun e => RepV_bad (e ▸ h)

theorem RepL_isV {w w' : World} {F F' : Nat → Prop} : ∀ (l : List D) (vs : List Value), (l.all fun | .v _ => true | _ => false) = true → RepL w F l vs → RepL w' F' l vs
  | [], vs, _, h => by simpa only [RepL] using h
  | d :: l, vs, hv, h => by
    obtain ⟨v1, v2, rfl, h1, h2⟩ := RepL_cons.1 h
    simp only [List.all_cons, Bool.and_eq_true] at hv
    refine RepL_cons.2 ⟨v1, v2, rfl, ?_, RepL_isV l v2 hv.2 h2⟩
    cases d <;> simp at hv
    simpa only [RepC] using h1

/-- Scalars lead nowhere. -/
theorem RepV_isV {w w' : World} {F F' : Nat → Prop} {d : D} {y : Value} (hv : d.isV = true) (h : RepV w F d y) : RepV w' F' d y := by
  cases d
  case v x => exact RepV_v.2 (RepV_v.1 h)
  case agg l =>
    obtain ⟨vs, rfl, hr⟩ := h
    refine ⟨vs, rfl, ?_⟩
    simp only [RepC] at hr ⊢
    exact ⟨RepL_isV l vs hv hr.1, hr.2⟩
  all_goals exact absurd hv (by simp [D.isV])

end Go.V
