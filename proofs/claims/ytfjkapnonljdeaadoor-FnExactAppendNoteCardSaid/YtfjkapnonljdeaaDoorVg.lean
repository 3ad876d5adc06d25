/-
  The state of a call, said of data: the invariant, and the step that keeps it.
-/
import Derived.Test.YtfjkapnonljdeaaDoorVf
namespace Go.V
open Go.RowKit

/-! ### lists of slots -/
def getAll (δ : List D) : List Nat → List D
  | [] => []
  | s :: ss => nth δ s :: getAll δ ss

theorem nthC_eq {R : Type} : ∀ (δ : List D) (s : Nat) (k : D → R), nthC δ s k = k (nth δ s)
  | [], _, _ => by simp [nthC, nth]
  | _ :: _, 0, _ => by simp [nthC, nth]
  | _ :: l, s + 1, k => by simpa [nthC, nth] using nthC_eq l s k
theorem setC_eq {R : Type} : ∀ (δ : List D) (s : Nat) (d : D) (k : List D → R), setC δ s d k = k (setAt δ s d)
  | [], _, _, _ => by simp [setC, setAt]
  | _ :: _, 0, _, _ => by simp [setC, setAt]
  | _ :: l, s + 1, d, k => by simpa [setC, setAt] using setC_eq l s d _
theorem getC_eq {R : Type} (δ : List D) : ∀ (ss : List Nat) (k : List D → R), getC δ ss k = k (getAll δ ss)
  | [], _ => by simp [getC, getAll]
  | s :: ss, k => by simp only [getC, getAll, nthC_eq]; exact getC_eq δ ss _
theorem setManyC_eq {R : Type} : ∀ (δ : List D) (ss : List Nat) (ds : List D) (k : List D → R), setManyC δ ss ds k = k (setMany δ ss ds)
  | _, [], _, _ => by simp [setManyC, setMany]
  | δ, s :: ss, [], k => by simp only [setManyC, setMany, setC_eq]; exact setManyC_eq _ ss [] k
  | δ, s :: ss, d :: ds, k => by simp only [setManyC, setMany, setC_eq]; exact setManyC_eq _ ss ds k
theorem app_eq {α : Type} : ∀ (a b : List α), app a b = a ++ b
  | [], _ => rfl
  | _ :: l, b => by simp [app, app_eq l b]
theorem mapD_eq {α β : Type} (f : α → β) : ∀ (l : List α), mapD f l = l.map f
  | [] => rfl
  | _ :: l => by simp [mapD, mapD_eq f l]
theorem lenN_eq {α : Type} : ∀ (l : List α), lenN l = l.length
  | [] => rfl
  | _ :: l => by simp [lenN, lenN_eq l]
theorem dropN_eq {α : Type} : ∀ (n : Nat) (l : List α), dropN n l = l.drop n
  | 0, l => by simp [dropN]
  | n + 1, [] => by simp [dropN]
  | n + 1, _ :: l => by simp [dropN, dropN_eq n l]
theorem memN_eq : ∀ (n : Nat) (l : List Nat), memN n l = decide (n ∈ l)
  | _, [] => by simp [memN]
  | n, m :: l => by
    simp only [memN]
    cases h : Nat.beq n m
    · have : n ≠ m := fun e => by subst e; simp at h
      simp [memN_eq n l, this]
    · have : n = m := Nat.eq_of_beq_eq_true h
      simp [this]
theorem nthO_eq {α : Type} : ∀ (l : List α) (n : Nat), nthO l n = l[n]?
  | [], _ => by simp [nthO]
  | _ :: _, 0 => by simp [nthO]
  | _ :: l, n + 1 => by simpa [nthO] using nthO_eq l n
theorem nth_eq : ∀ (l : List D) (n : Nat), nth l n = l.getD n .bad
  | [], _ => by simp [nth]
  | _ :: _, 0 => by simp [nth]
  | _ :: l, n + 1 => by simpa [nth] using nth_eq l n

theorem len_setAt : ∀ (δ : List D) (s : Nat) (d : D), (setAt δ s d).length = δ.length
  | [], _, _ => by simp [setAt]
  | _ :: _, 0, _ => by simp [setAt]
  | _ :: l, s + 1, d => by simp [setAt, len_setAt l s d]
theorem len_setMany : ∀ (δ : List D) (ss : List Nat) (ds : List D), (setMany δ ss ds).length = δ.length
  | _, [], _ => by simp [setMany]
  | δ, s :: ss, [] => by simp [setMany, len_setMany _ ss, len_setAt]
  | δ, s :: ss, d :: ds => by simp [setMany, len_setMany _ ss, len_setAt]
theorem nth_setAt_ne : ∀ (δ : List D) (s i : Nat) (d : D), s ≠ i → nth (setAt δ i d) s = nth δ s
  | [], _, _, _, _ => by simp [setAt]
  | _ :: _, 0, 0, _, h => absurd rfl h
  | _ :: _, _ + 1, 0, _, _ => by simp [nth]
  | _ :: _, 0, _ + 1, _, _ => by simp [nth]
  | _ :: l, s + 1, i + 1, d, h => by simpa [setAt, nth] using nth_setAt_ne l s i d (by omega)
theorem nth_setAt_eq : ∀ (δ : List D) (s : Nat) (d : D), nth (setAt δ s d) s = if s < δ.length then d else .bad
  | [], _, _ => by simp [nth]
  | _ :: _, 0, _ => by simp [nth]
  | _ :: l, s + 1, d => by simpa [setAt, nth] using nth_setAt_eq l s d
theorem nth_setMany_notin : ∀ (ss : List Nat) (δ : List D) (ds : List D) (s : Nat), s ∉ ss → nth (setMany δ ss ds) s = nth δ s
  | [], _, _, _, _ => by simp [setMany]
  | i :: ss, δ, [], s, h => by
    simp only [List.mem_cons, not_or] at h
    simp only [setMany]
    rw [nth_setMany_notin ss _ _ s h.2, nth_setAt_ne _ _ _ _ h.1]
  | i :: ss, δ, d :: ds, s, h => by
    simp only [List.mem_cons, not_or] at h
    simp only [setMany]
    rw [nth_setMany_notin ss _ _ s h.2, nth_setAt_ne _ _ _ _ h.1]
/-- Slots made void. -/
theorem nth_kill : ∀ (ss : List Nat) (δ : List D) (s : Nat), s ∈ ss → nth (setMany δ ss []) s = .bad
  | i :: ss, δ, s, h => by
    simp only [setMany]
    by_cases hs : s ∈ ss
    · exact nth_kill ss _ s hs
    · rw [nth_setMany_notin ss _ _ s hs]
      have : s = i := by simpa [hs] using h
      subst this
      rw [nth_setAt_eq]
      split <;> rfl
theorem setMany_append : ∀ (ss ts : List Nat) (δ : List D) (ds : List D), ds.length = ss.length → setMany δ (ss ++ ts) ds = setMany (setMany δ ss ds) ts []
  | [], ts, δ, ds, h => by
    have : ds = [] := List.eq_nil_of_length_eq_zero h
    subst this
    simp [setMany]
  | s :: ss, ts, δ, d :: ds, h => by
    simp only [List.cons_append, setMany]
    exact setMany_append ss ts _ ds (by simpa using h)
theorem nth_setMany_or : ∀ (ss : List Nat) (δ : List D) (s : Nat), nth (setMany δ ss []) s = nth δ s ∨ nth (setMany δ ss []) s = .bad := by
  intro ss δ s
  by_cases h : s ∈ ss
  · exact .inr (nth_kill ss δ s h)
  · exact .inl (nth_setMany_notin ss δ [] s h)

theorem mem_deps {r : Nat} : ∀ (K : List Kd) (n s : Nat), (nthK K s = .via r ∨ nthK K s = .ref r) → n + s ∈ deps r K n
  | [], n, s, h => by simp [nthK] at h
  | k :: K, n, 0, h => by
    simp only [nthK] at h
    rcases h with rfl | rfl <;> simp [deps]
  | k :: K, n, s + 1, h => by
    have ih := mem_deps K (n + 1) s (by simpa [nthK] using h)
    have e : n + (s + 1) = n + 1 + s := by omega
    rw [e]
    cases k <;> simp only [deps] <;> first
      | exact ih
      | (split <;> first | exact ih | exact List.mem_cons_of_mem _ ih)
theorem mem_depsAll {K : List Kd} {r s : Nat} (h : nthK K s = .via r ∨ nthK K s = .ref r) : ∀ (rs : List Nat), r ∈ rs → s ∈ depsAll K rs
  | q :: rs, hr => by
    simp only [depsAll, app_eq, List.mem_append]
    rcases List.mem_cons.1 hr with rfl | hr
    · exact .inl (by have := mem_deps K 0 s h; simpa using this)
    · exact .inr (mem_depsAll h rs hr)

theorem deps_mem {r : Nat} : ∀ (K : List Kd) (n s : Nat), s ∈ deps r K n → n ≤ s ∧ (nthK K (s - n) = .via r ∨ nthK K (s - n) = .ref r)
  | [], n, s, h => by simp [deps] at h
  | k :: K, n, s, h => by
    have ih : s ∈ deps r K (n + 1) → n ≤ s ∧ (nthK (k :: K) (s - n) = .via r ∨ nthK (k :: K) (s - n) = .ref r) := by
      intro hm
      obtain ⟨h1, h2⟩ := deps_mem K (n + 1) s hm
      have e : s - n = (s - (n + 1)) + 1 := by omega
      rw [e]
      exact ⟨by omega, by simpa [nthK] using h2⟩
    cases k <;> simp only [deps] at h <;> try exact ih h
    all_goals
      split at h
      · rename_i hb
        have := Nat.eq_of_beq_eq_true hb
        subst this
        rcases List.mem_cons.1 h with rfl | h
        · simp [nthK]
        · exact ih h
      · exact ih h
theorem deps_kind {K : List Kd} {r s : Nat} (h : s ∈ deps r K 0) : nthK K s = .via r ∨ nthK K s = .ref r := by simpa using (deps_mem K 0 s h).2
theorem depsAll_kind {K : List Kd} {s : Nat} : ∀ (rs : List Nat), s ∈ depsAll K rs → ∃ r ∈ rs, nthK K s = .via r ∨ nthK K s = .ref r
  | [], h => by simp [depsAll] at h
  | r :: rs, h => by
    simp only [depsAll, app_eq, List.mem_append] at h
    rcases h with h | h
    · exact ⟨r, by simp, deps_kind h⟩
    · obtain ⟨q, hq, hk⟩ := depsAll_kind rs h
      exact ⟨q, by simp [hq], hk⟩

/-! ### the invariant -/
def isRoot (K : List Kd) (r : Nat) : Prop :=
  match nthK K r with
  | .own _ _ _ => True
  | .box _ _ _ => True
  | _ => False
theorem root_notin {K : List Kd} {r q : Nat} (h : isRoot K r) : r ∉ deps q K 0 := by
  intro hm
  rcases deps_kind hm with e | e <;> simp [isRoot, e] at h
theorem root_notinAll {K : List Kd} {r : Nat} (h : isRoot K r) (rs : List Nat) : r ∉ depsAll K rs := by
  intro hm
  obtain ⟨q, _, e⟩ := depsAll_kind rs hm
  rcases e with e | e <;> simp [isRoot, e] at h
theorem isOwn_root {K : List Kd} {r : Nat} (h : isOwn K r = true) : isRoot K r := by
  unfold isOwn at h
  unfold isRoot
  split at h <;> simp_all
def av (a : Act) (s : Nat) : Value := a.tmps.getD s undef

def FB (F : Nat → Prop) (B : Nat) : Nat → Nat → Prop
  | 0, _ => False
  | 1, b => F b ∧ B ≤ b
  | _, b => F b

def OwnV (w : World) (F : Nat → Prop) (own : Nat → Prop) (z : Nat) (d : D) (y : Value) : Prop :=
  ∃ l, d = .arr z l ∧ (∀ e ∈ l, e.width = z) ∧ ((y = .slice none 0 0 ∧ l = []) ∨
    ∃ g o c us cs e, y = .slice (some ⟨g, o, none⟩) l.length c ∧ l.length ≤ c ∧ w.heap[g]? = some (.cells cs e (0, 0)) ∧ o + c * z ≤ cs.size ∧ RepL w F l us ∧
      (∀ (i : Nat) (u : Value), us[i]? = some u → cs[o + i]? = some u) ∧ own g)

def BoxV (w : World) (F : Nat → Prop) (own : Nat → Prop) (n : Nat) (d : D) (y : Value) : Prop :=
  ∃ l us g e, d = .agg l ∧ y = .pointer (some ⟨g, 0, none⟩) ∧ w.heap[g]? = some (.cells (List.toArray us) e (0, 0)) ∧ RepL w F l us ∧ l.all D.single = true ∧ l.length = n ∧ own g

def RefV (k : Kd) (y : Value) (i f : Nat) (p : Value) : Prop :=
  match k with
  | .own z _ _ => ∃ g o n c, y = .slice (some ⟨g, o, none⟩) n c ∧ p = .pointer (some ⟨g, o + i * z + f, none⟩)
  | .box _ _ _ => ∃ g, y = .pointer (some ⟨g, 0, none⟩) ∧ p = .pointer (some ⟨g, f, none⟩)
  | _ => False

theorem RefV_root {K : List Kd} {r i f : Nat} {y p : Value} (h : RefV (nthK K r) y i f p) : isRoot K r := by
  unfold RefV at h
  unfold isRoot
  split at h <;> simp_all


/-- What stands by itself: data, what is owned. -/
def Lone (B : Nat) (F : Nat → Prop) (O : Nat → Option (Nat × Nat)) (w : World) (id : Nat × Nat) (k : Kd) (d : D) (y : Value) : Prop :=
  d = .bad ∨ match k with
    | .dat lv => RepV w (FB F B lv) d y
    | .own z lv io => OwnV w (FB F B lv) (fun g => O g = some id ∧ (io = false → B ≤ g)) z d y
    | .box n lv io => BoxV w (FB F B lv) (fun g => O g = some id ∧ (io = false → B ≤ g)) n d y
    | _ => False

def SlotOk (K : List Kd) (B : Nat) (F : Nat → Prop) (O : Nat → Option (Nat × Nat)) (a : Act) (w : World) (δ : List D) (s : Nat) : Prop :=
  nth δ s = .bad ∨ match nthK K s with
    | .via r => av a s = av a r ∧ nth δ s = .ref 0 0 ∧ nth δ r ≠ .bad ∧ isOwn K r = true
    | .ref r => ∃ i f, nth δ s = .ref i f ∧ nth δ r ≠ .bad ∧ RefV (nthK K r) (av a r) i f (av a s)
    | .tup ms => ∃ l vs, nth δ s = .tup l ∧ av a s = .tuple vs ∧ ∀ i, Lone B F O w (s, i + 1) (nthK ms i) (nth l i) (vs.getD i undef)
    | .no => True
    | k => Lone B F O w (s, 0) k (nth δ s) (av a s)

/-- Facts of the world that hang on frozen blocks alone. -/
def gOk (G : List (Nat × (Obj → Prop))) (w : World) (F : Nat → Prop) : Prop := ∀ p ∈ G, F p.1 ∧ ∃ o, w.heap[p.1]? = some o ∧ p.2 o
theorem gOk_mono {G : List (Nat × (Obj → Prop))} {w w' : World} {F F' : Nat → Prop} (hF : ∀ b, F b → F' b) (hw : ∀ b, F b → w'.heap[b]? = w.heap[b]?) (h : gOk G w F) : gOk G w' F' := fun p hp => by
  obtain ⟨h1, o, h2, h3⟩ := h p hp
  exact ⟨hF _ h1, o, (hw _ h1).trans h2, h3⟩
theorem gOk_nil {w : World} {F : Nat → Prop} : gOk [] w F := fun p hp => by cases hp

structure Inv (c : Cx) (B : Nat) (X : Nat → Prop) (w0 : World) (F0 F : Nat → Prop) (O : Nat → Option (Nat × Nat)) (a : Act) (w : World) (δ : List D) : Prop where
  la : a.tmps.size = c.K.length
  ld : δ.length = c.K.length
  df : a.defers = []
  slot : ∀ s, SlotOk c.K B F O a w δ s
  fl : ∀ b, F b → b < w.heap.size ∧ O b = none
  ol : ∀ b p, O b = some p → b < w.heap.size ∧ (B ≤ b ∨ X b)
  f0 : ∀ b, F0 b → F b
  fn : ∀ b, F b → F0 b ∨ B ≤ b
  bb : B ≤ w.heap.size
  os : w.os = w0.os
  tape : w.tape = w0.tape
  output : w.output = w0.output
  keep : ∀ b, b < B → ¬ X b → w.heap[b]? = w0.heap[b]?
  gl : gOk c.G w F

theorem FB_mono {F F' : Nat → Prop} {B lv : Nat} (h : ∀ b, F b → F' b) : ∀ b, FB F B lv b → FB F' B lv b := by
  intro b hb
  unfold FB at *
  split at hb <;> simp_all
theorem FB_sub {F : Nat → Prop} {B lv : Nat} : ∀ b, FB F B lv b → F b := by
  intro b hb
  unfold FB at *
  split at hb <;> simp_all
theorem FB_le {F : Nat → Prop} {B lv lv' : Nat} (h : lv ≤ lv') : ∀ b, FB F B lv b → FB F B lv' b := by
  intro b hb
  match lv, lv', h with
  | 0, _, _ => exact hb.elim
  | 1, 1, _ => exact hb
  | 1, n + 2, _ => exact hb.1
  | m + 2, n + 2, _ => exact hb

theorem RepL_iff_mono {w w' : World} {F F' : Nat → Prop} (hF : ∀ b, F b → F' b) (hw : ∀ b, F b → w'.heap[b]? = w.heap[b]?) {l : List D} {us : List Value} (h : RepL w F l us) : RepL w' F' l us := RepL_mono hF hw l us h

theorem OwnV_mono {w w' : World} {F F' : Nat → Prop} {own own' : Nat → Prop} {z : Nat} {d : D} {y : Value} (hF : ∀ b, F b → F' b) (hw : ∀ b, F b → w'.heap[b]? = w.heap[b]?)
    (ho : ∀ g, own g → own' g ∧ w'.heap[g]? = w.heap[g]?) (h : OwnV w F own z d y) : OwnV w' F' own' z d y := by
  obtain ⟨l, h1, h2, h3⟩ := h
  refine ⟨l, h1, h2, ?_⟩
  rcases h3 with h3 | ⟨g, o, c, us, cs, e, a1, a2, a3, a4, a5, a6, a7⟩
  · exact .inl h3
  · exact .inr ⟨g, o, c, us, cs, e, a1, a2, (ho g a7).2.trans a3, a4, RepL_mono hF hw _ _ a5, a6, (ho g a7).1⟩
theorem BoxV_mono {w w' : World} {F F' : Nat → Prop} {own own' : Nat → Prop} {n : Nat} {d : D} {y : Value} (hF : ∀ b, F b → F' b) (hw : ∀ b, F b → w'.heap[b]? = w.heap[b]?)
    (ho : ∀ g, own g → own' g ∧ w'.heap[g]? = w.heap[g]?) (h : BoxV w F own n d y) : BoxV w' F' own' n d y := by
  obtain ⟨l, us, g, e, a1, a2, a3, a4, a5, a6, a7⟩ := h
  exact ⟨l, us, g, e, a1, a2, (ho g a7).2.trans a3, RepL_mono hF hw _ _ a4, a5, a6, (ho g a7).1⟩

theorem Lone_mono {B : Nat} {w w' : World} {F F' : Nat → Prop} {O O' : Nat → Option (Nat × Nat)} {id id' : Nat × Nat} {k : Kd} {d : D} {y : Value} (hF : ∀ b, F b → F' b) (hw : ∀ b, F b → w'.heap[b]? = w.heap[b]?)
    (ho : ∀ g, O g = some id → O' g = some id' ∧ w'.heap[g]? = w.heap[g]?) (h : Lone B F O w id k d y) : Lone B F' O' w' id' k d y := by
  rcases h with h | h
  · exact .inl h
  · refine .inr ?_
    cases k
    case dat lv => exact RepV_mono (FB_mono hF) (fun b hb => hw b (FB_sub b hb)) h
    case own z lv io => exact OwnV_mono (FB_mono hF) (fun b hb => hw b (FB_sub b hb)) (fun g hg => ⟨⟨(ho g hg.1).1, hg.2⟩, (ho g hg.1).2⟩) h
    case box n lv io => exact BoxV_mono (FB_mono hF) (fun b hb => hw b (FB_sub b hb)) (fun g hg => ⟨⟨(ho g hg.1).1, hg.2⟩, (ho g hg.1).2⟩) h
    all_goals exact h

/-- The step. 'U': the slots whose value or whose contents are new. -/
theorem Inv.step {c : Cx} {B : Nat} {X : Nat → Prop} {w0 : World} {F0 F F' : Nat → Prop} {O O' : Nat → Option (Nat × Nat)} {a a' : Act} {w w' : World} {δ δ' : List D}
    (h : Inv c B X w0 F0 F O a w δ) (U : Nat → Prop) (la : a'.tmps.size = a.tmps.size) (ld : δ'.length = δ.length) (df : a'.defers = a.defers)
    (hs : ∀ s, ¬ U s → av a' s = av a s ∧ (nth δ' s = nth δ s ∨ nth δ' s = .bad))
    (hF : ∀ b, F b → F' b) (hw : ∀ b, F b → w'.heap[b]? = w.heap[b]?)
    (ho : ∀ b p, O b = some p → ¬ U p.1 → O' b = some p ∧ w'.heap[b]? = w.heap[b]?)
    (hd : ∀ s r, ¬ U s → (nthK c.K s = .via r ∨ nthK c.K s = .ref r) → nth δ' s ≠ .bad → av a' r = av a r ∧ nth δ' r ≠ .bad)
    (hU : ∀ s, U s → SlotOk c.K B F' O' a' w' δ' s)
    (fl : ∀ b, F' b → b < w'.heap.size ∧ O' b = none) (ol : ∀ b p, O' b = some p → b < w'.heap.size ∧ (B ≤ b ∨ X b)) (fn : ∀ b, F' b → F b ∨ B ≤ b) (sz : w.heap.size ≤ w'.heap.size)
    (os : w'.os = w.os) (tape : w'.tape = w.tape) (output : w'.output = w.output) (keep : ∀ b, b < B → ¬ X b → w'.heap[b]? = w.heap[b]?) : Inv c B X w0 F0 F' O' a' w' δ' := by
  refine ⟨la.trans h.la, ld.trans h.ld, df.trans h.df, fun s => ?_, fl, ol, fun b hb => hF b (h.f0 b hb), fun b hb => ?_, Nat.le_trans h.bb sz, os.trans h.os, tape.trans h.tape, output.trans h.output, fun b h1 h2 => (keep b h1 h2).trans (h.keep b h1 h2), gOk_mono hF hw h.gl⟩
  · by_cases hu : U s
    · exact hU s hu
    · obtain ⟨e1, e2⟩ := hs s hu
      rcases e2 with e2 | e2
      case inr => exact .inl e2
      by_cases hb : nth δ s = .bad
      · exact .inl (e2.trans hb)
      have hb' : nth δ' s ≠ .bad := by rw [e2]; exact hb
      have h0 := (h.slot s).resolve_left hb
      refine .inr ?_
      have lone : ∀ (k : Kd) (i : Nat) (d : D) (y : Value), Lone B F O w (s, i) k d y → Lone B F' O' w' (s, i) k d y := fun k i d y hl => Lone_mono hF hw (fun g hg => ho g _ hg hu) hl
      have hdd := hd s
      rw [e1, e2]
      generalize hk : nthK c.K s = k at h0 hdd
      cases k
      case via r =>
        obtain ⟨b1, b2, b3, b4⟩ := h0
        obtain ⟨d1, d2⟩ := hdd r hu (.inl rfl) hb'
        exact ⟨b1.trans d1.symm, b2, d2, b4⟩
      case ref r =>
        obtain ⟨i, f, b1, b2, b3⟩ := h0
        obtain ⟨d1, d2⟩ := hdd r hu (.inr rfl) hb'
        exact ⟨i, f, b1, d2, by rw [d1]; exact b3⟩
      case tup ms =>
        obtain ⟨l, vs, b1, b2, b3⟩ := h0
        exact ⟨l, vs, b1, b2, fun i => lone _ _ _ _ (b3 i)⟩
      case no => trivial
      all_goals exact lone _ _ _ _ h0
  · rcases fn b hb with hb | hb
    · exact h.fn b hb
    · exact .inr hb

theorem av_put {a : Act} {d s : Nat} {v : Value} : av (a.put (some d) v) s = if s = d ∧ d < a.tmps.size then v else av a s := by
  simp only [av, Act.put, Array.getD_eq_getD_getElem?, Array.getElem?_setIfInBounds]
  by_cases hs : d = s
  · subst hs
    by_cases hd : d < a.tmps.size
    · simp [hd]
    · simp [hd]
  · simp [hs, Ne.symm hs]
theorem av_put_ne {a : Act} {d s : Nat} {v : Value} (h : s ≠ d) : av (a.put (some d) v) s = av a s := by rw [av_put, if_neg (by simp [h])]
theorem av_put_eq {a : Act} {d : Nat} {v : Value} (h : d < a.tmps.size) : av (a.put (some d) v) d = v := by rw [av_put, if_pos ⟨rfl, h⟩]
theorem size_put {a : Act} {d : Nat} {v : Value} : (a.put (some d) v).tmps.size = a.tmps.size := by simp [Act.put]

/-- A copy, or a place, leads to an owner. -/
theorem Inv.root {c : Cx} {B : Nat} {X : Nat → Prop} {w0 : World} {F0 F : Nat → Prop} {O : Nat → Option (Nat × Nat)} {a : Act} {w : World} {δ : List D}
    (h : Inv c B X w0 F0 F O a w δ) {s r : Nat} (hv : nthK c.K s = .via r ∨ nthK c.K s = .ref r) (hb : nth δ s ≠ .bad) : isRoot c.K r ∧ nth δ r ≠ .bad := by
  have h0 := (h.slot s).resolve_left hb
  rcases hv with hv | hv <;> rw [hv] at h0
  · exact ⟨isOwn_root h0.2.2.2, h0.2.2.1⟩
  · obtain ⟨_, _, _, h2, h3⟩ := h0
    exact ⟨RefV_root h3, h2⟩

/-- What may be written into one slot without any change of memory. -/
def PutOk (K : List Kd) (B : Nat) (F : Nat → Prop) (a : Act) (w : World) (δ : List D) (d : Nat) (z : D) (y : Value) : Prop :=
  z = .bad ∨ match nthK K d with
    | .dat lv => RepV w (FB F B lv) z y
    | .via r => y = av a r ∧ z = .ref 0 0 ∧ nth δ r ≠ .bad ∧ isOwn K r = true
    | .ref r => ∃ i f, z = .ref i f ∧ nth δ r ≠ .bad ∧ RefV (nthK K r) (av a r) i f y
    | .no => True
    | _ => False

/-- Data written into one slot. -/
theorem Inv.put {c : Cx} {B : Nat} {X : Nat → Prop} {w0 : World} {F0 F : Nat → Prop} {O : Nat → Option (Nat × Nat)} {a : Act} {w : World} {δ : List D}
    (h : Inv c B X w0 F0 F O a w δ) {d : Nat} {z : D} {y : Value} (hk : PutOk c.K B F a w δ d z y) :
    Inv c B X w0 F0 F O (a.put (some d) y) w (setMany δ (d :: deps d c.K 0) [z]) := by
  have e0 : setMany δ (d :: deps d c.K 0) [z] = setMany (setAt δ d z) (deps d c.K 0) [] := by simp [setMany]
  rw [e0]
  have keepr : ∀ r, isRoot c.K r → r ≠ d → nth (setMany (setAt δ d z) (deps d c.K 0) []) r = nth δ r := fun r hr hd => by
    rw [nth_setMany_notin _ _ _ _ (root_notin hr), nth_setAt_ne _ _ _ _ hd]
  refine h.step (fun s => s = d) size_put (by rw [len_setMany, len_setAt]) rfl (fun s hs => ⟨av_put_ne hs, ?_⟩) (fun _ hb => hb) (fun _ _ => rfl) (fun _ _ h _ => ⟨h, rfl⟩) (fun s r hs hv hb => ?_) (fun s hs => ?_) h.fl h.ol (fun _ hb => .inl hb) (Nat.le_refl _) rfl rfl rfl (fun _ _ _ => rfl)
  · rcases nth_setMany_or (deps d c.K 0) (setAt δ d z) s with e | e
    · exact .inl (e.trans (nth_setAt_ne _ _ _ _ hs))
    · exact .inr e
  · by_cases hr : r = d
    · subst hr
      exact absurd (nth_kill _ _ _ (by have := mem_deps c.K 0 s hv; simpa using this)) hb
    · refine ⟨av_put_ne hr, ?_⟩
      have hs' : s ∉ deps d c.K 0 := fun hm => hb (nth_kill _ _ _ hm)
      rw [nth_setMany_notin _ _ _ _ hs', nth_setAt_ne _ _ _ _ hs] at hb
      obtain ⟨h1, h2⟩ := h.root hv hb
      rw [keepr r h1 hr]
      exact h2
  · subst hs
    by_cases hdl : s < c.K.length
    case neg =>
      refine .inl ?_
      rcases nth_setMany_or (deps s c.K 0) (setAt δ s z) s with e | e
      · rw [e, nth_setAt_eq, if_neg (by rw [h.ld]; exact hdl)]
      · exact e
    have hav : av (a.put (some s) y) s = y := av_put_eq (by rw [h.la]; exact hdl)
    rcases nth_setMany_or (deps s c.K 0) (setAt δ s z) s with e | e
    case inr => exact .inl e
    have ez : nth (setMany (setAt δ s z) (deps s c.K 0) []) s = z := by rw [e, nth_setAt_eq, if_pos (by rw [h.ld]; exact hdl)]
    rcases hk with hk | hk
    · exact .inl (ez.trans hk)
    · refine .inr ?_
      rw [ez, hav]
      generalize hks : nthK c.K s = k at hk
      have hne : ∀ r, isRoot c.K r → (∀ z lv io, k ≠ .own z lv io) → (∀ n lv io, k ≠ .box n lv io) → r ≠ s := by
        intro r hr h1 h2 e
        subst e
        unfold isRoot at hr
        rw [hks] at hr
        cases k
        case own z lv io => exact h1 _ _ _ rfl
        case box n lv io => exact h2 _ _ _ rfl
        all_goals exact hr
      cases k
      case dat lv => exact .inr hk
      case via r =>
        obtain ⟨b1, b2, b3, b4⟩ := hk
        have hr := hne r (isOwn_root b4) (by intros; simp) (by intros; simp)
        exact ⟨by rw [av_put_ne hr]; exact b1, b2, by rw [keepr r (isOwn_root b4) hr]; exact b3, b4⟩
      case ref r =>
        obtain ⟨i, f, b1, b2, b3⟩ := hk
        have hr := hne r (RefV_root b3) (by intros; simp) (by intros; simp)
        exact ⟨i, f, b1, by rw [keepr r (RefV_root b3) hr]; exact b2, by rw [av_put_ne hr]; exact b3⟩
      case no => trivial
      all_goals exact hk.elim

/-- A slot's value is void. -/
theorem Inv.void {c : Cx} {B : Nat} {X : Nat → Prop} {w0 : World} {F0 F : Nat → Prop} {O : Nat → Option (Nat × Nat)} {a : Act} {w : World} {δ : List D}
    (h : Inv c B X w0 F0 F O a w δ) (d : Nat) (y : Value) : Inv c B X w0 F0 F O (a.put (some d) y) w (setMany δ (d :: deps d c.K 0) [.bad]) := h.put (.inl rfl)

/-- Fewer slots are known. -/
theorem Inv.forget {c : Cx} {B : Nat} {X : Nat → Prop} {w0 : World} {F0 F : Nat → Prop} {O : Nat → Option (Nat × Nat)} {a : Act} {w : World} {δ δ' : List D}
    (h : Inv c B X w0 F0 F O a w δ) (hl : δ'.length = δ.length) (hs : ∀ s, nth δ' s = nth δ s ∨ nth δ' s = .bad) (hr : ∀ s r, (nthK c.K s = .via r ∨ nthK c.K s = .ref r) → nth δ' s ≠ .bad → nth δ' r ≠ .bad) : Inv c B X w0 F0 F O a w δ' :=
  h.step (fun _ => False) rfl hl rfl (fun s _ => ⟨rfl, hs s⟩) (fun _ hb => hb) (fun _ _ => rfl) (fun _ _ h _ => ⟨h, rfl⟩) (fun s r _ hv hb => ⟨rfl, hr s r hv hb⟩) (fun _ h => h.elim) h.fl h.ol (fun _ hb => .inl hb) (Nat.le_refl _) rfl rfl rfl (fun _ _ _ => rfl)

/-- What a slot holds. -/
theorem Inv.dat {c : Cx} {B : Nat} {X : Nat → Prop} {w0 : World} {F0 F : Nat → Prop} {O : Nat → Option (Nat × Nat)} {a : Act} {w : World} {δ : List D}
    (h : Inv c B X w0 F0 F O a w δ) {s lv : Nat} (hk : nthK c.K s = .dat lv) : RepB w (FB F B lv) (nth δ s) (av a s) := by
  rcases h.slot s with hb | h0
  · exact .inl hb
  · rw [hk] at h0
    exact h0

end Go.V
