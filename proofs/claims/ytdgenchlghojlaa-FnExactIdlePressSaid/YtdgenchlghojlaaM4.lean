/-
  Contracts looked up.
-/
import Derived.Test.YtdgenchlghojlaaRows
import Derived.Test.YtdgenchlghojlaaM3
import Derived.ProofKit
import Derived.ChangeArms
import Derived.Below
import Derived.Maps.OwnSet
import Derived.WalkKit
import Derived.Shelf.Abstract
namespace Go.V

/-- A slot of a list (not unfolded). -/
def sl (s : List D) (i : Nat) : D := nth s i

/-- A choice (not unfolded). -/
def ifN (b : Bool) (t e : Option Out) : Option Out :=
  match b with
  | true => t
  | false => e

theorem lookNil {P : Program} {G : List (Nat × (Obj → Prop))} : ∀ (f : Nat) (S : FS), look ([] : List (Nat × FS)) f = some S → Meets G P f S := by
  intro f S h
  cases h
theorem lookCons {P : Program} {G : List (Nat × (Obj → Prop))} {g : Nat} {S0 : FS} {l : List (Nat × FS)} (h0 : Meets G P g S0) (h : ∀ (f : Nat) (S : FS), look l f = some S → Meets G P f S) : ∀ (f : Nat) (S : FS), look ((g, S0) :: l) f = some S → Meets G P f S := by
  intro f S hl
  simp only [look] at hl
  split at hl
  · rename_i hb
    have := beq_iff.1 hb
    subst this
    cases hl
    exact h0
  · exact h f S hl

/-- More facts of the world. -/
theorem meets_mono {P : Program} {G G' : List (Nat × (Obj → Prop))} {f : Nat} {S : FS} (h : ∀ p ∈ G, p ∈ G') (hm : Meets G P f S) : Meets G' P f S :=
  fun ds rs us hd args w F ow hg => hm ds rs us hd args w F ow fun p hp => hg p (h p hp)

/-! ### functions that call themselves -/
open Classical in
noncomputable def recF (R : Nat → List D → Option Out) (ds : List D) : Option Out :=
  if h : ∃ n, (R n ds).isSome = true then R (Classical.choose h) ds else none
theorem recF_some {R : Nat → List D → Option Out} {ds : List D} {r : Out} (h : recF R ds = some r) : ∃ n, R n ds = some r := by
  unfold recF at h
  split at h
  · exact ⟨_, h⟩
  · cases h
theorem recF_eq {R : Nat → List D → Option Out} {ds : List D} {r : Out} (h : ∀ n o, R n ds = some o → o = r) (n : Nat) (hn : R n ds = some r) : recF R ds = some r := by
  unfold recF
  have hx : ∃ n, (R n ds).isSome = true := ⟨n, by rw [hn]; rfl⟩
  rw [dif_pos hx]
  obtain ⟨o, ho⟩ := Option.isSome_iff_exists.1 (Classical.choose_spec hx)
  rw [ho, h _ _ ho]
theorem meets_none {P : Program} {G : List (Nat × (Obj → Prop))} {f : Nat} {S : FS} (h : ∀ ds, S.f ds = none) : Meets G P f S := by
  intro ds rs us hd
  rw [h] at hd
  cases hd
theorem meets_rec {P : Program} {G : List (Nat × (Obj → Prop))} {f : Nat} {pm rm : List Kd} {R : Nat → List D → Option Out} (h : ∀ n, Meets G P f { pm := pm, rm := rm, f := R n }) : Meets G P f { pm := pm, rm := rm, f := recF R } := by
  intro ds rs us hd args w F ow hg ha hF hO o a next Q hq
  obtain ⟨n, hn⟩ := recF_some hd
  refine h n ds rs us hn args w F ow hg ha hF hO o a next Q fun v w' hv => ?_
  obtain ⟨F', R', vs, h1, h2⟩ := hv
  exact hq v w' ⟨F', R', vs, h1, ⟨h2.os, h2.tape, h2.output, h2.size, h2.keep, h2.f0, h2.fn, h2.rn, h2.len, h2.lenD, h2.res, h2.us⟩⟩

end Go.V
/-
  A row's arguments as data, and the row from a contract.
-/
namespace Go.V
open Go.RowKit Go.WideShapes Go.ChangeShapes

/-! ### shapes of arguments -/
mutual
inductive Sh where
  | int (k : IntKind)
  | bool
  | str
  | sl (e : Sh)
  | st (l : ShL)
inductive ShL where
  | nil
  | cons (h : Sh) (t : ShL)
end
mutual
def Sh.size : Sh → Nat
  | .int _ => 1
  | .bool => 1
  | .str => 1
  | .sl _ => 1
  | .st l => l.size
def ShL.size : ShL → Nat
  | .nil => 0
  | .cons h t => h.size + t.size
end
def Sh.isSt : Sh → Bool
  | .st _ => true
  | _ => false

mutual
def Sh.flat : Sh → Bool
  | .int _ => true
  | .bool => true
  | .str => true
  | .sl _ => false
  | .st l => l.flat
def ShL.flat : ShL → Bool
  | .nil => true
  | .cons h t => h.flat && t.flat
end
def wrap (ag : Bool) (m : List D) : D := if ag then .agg m else nth m 0
mutual
def Sh.Is : Sh → List D → Prop
  | .int k, l => ∃ n, l = [.v (.int k n)] ∧ k.min ≤ n ∧ n ≤ k.max
  | .bool, l => ∃ b, l = [B b]
  | .str, l => ∃ s, l = [T s] ∧ s.size ≤ maxLen
  | .sl e, l => ∃ ds, l = [.arr e.size ds] ∧ ds.length ≤ maxLen ∧ ∀ d ∈ ds, ∃ m, e.Is m ∧ d = wrap e.isSt m
  | .st fs, l => fs.Is l
def ShL.Is : ShL → List D → Prop
  | .nil, l => l = []
  | .cons h t, l => ∃ a b, l = a ++ b ∧ h.Is a ∧ t.Is b
end
mutual
def Sh.ok (P : Program) : Sh → TypeId → Bool
  | .int k, t => match P.underlying t with
    | some (.int k') => decide (k' = k)
    | _ => false
  | .bool, t => match P.underlying t with
    | some .bool => true
    | _ => false
  | .str, t => match P.underlying t with
    | some .string => true
    | _ => false
  | .sl e, t => match P.underlying t with
    | some (.slice u) => e.ok P u && decide (P.cellsOf u = e.size) && decide (0 < e.size)
    | _ => false
  | .st l, t => match P.underlying t with
    | some (.struct fs) => l.ok P 0 fs.toList && decide (P.cellsOf t = l.size)
    | _ => false
def ShL.ok (P : Program) : ShL → Nat → List Field → Bool
  | .nil, _, [] => true
  | .cons h t, off, f :: fs => decide (f.offset = off) && h.ok P f.type && decide (P.cellsOf f.type = h.size) && t.ok P (off + h.size) fs
  | _, _, _ => false
end

section
variable {H : Type} {enc : TypeId × Value → H} {P : Program} {W : World}

theorem Sh.len_one {sh : Sh} (h : sh.isSt = false) : sh.size = 1 := by
  cases sh <;> simp_all [Sh.isSt, Sh.size]

theorem cells_is {a : Addr} {n : Nat} {vs : List Value} (h : W.cells? 0 a n = some vs) : vs.length = n ∧ ∀ i u, vs[i]? = some u → W.cell? (a.add i) = some u := by
  simp only [World.cells?, Nat.zero_le, if_true] at h
  have hl := mapM_some_length h
  rw [List.length_range] at hl
  refine ⟨hl, fun i u hu => ?_⟩
  have hi : i < n := by
    rw [← hl]
    exact (List.getElem?_eq_some_iff.1 hu).1
  rw [mapM_some_get h i i (by simp [hi]), hu]

theorem add_add (a : Addr) (i j : Nat) : (a.add i).add j = a.add (i + j) := by
  unfold Addr.add
  by_cases hi : i = 0 <;> by_cases hj : j = 0 <;> simp [hi, hj, Nat.add_assoc]

theorem cell_spot {a : Addr} {u : Value} (h : W.cell? a = some u) : a.spot = none ∧ a.block < W.heap.size := by
  unfold World.cell? at h
  split at h
  case h_2 => cases h
  rename_i hb
  split at h
  · cases h
  rename_i hs
  refine ⟨by simpa using hs, ?_⟩
  rcases Nat.lt_or_ge a.block W.heap.size with h' | h'
  · exact h'
  · rw [Array.getElem?_eq_none h'] at hb; cases hb

theorem RepL_uno {F : Nat → Prop} {d : D} {vs : List Value} : RepL W F [d] vs ↔ RepC W F d vs := by
  rw [RepL_cons]
  constructor
  · rintro ⟨v1, v2, rfl, h1, h2⟩
    rw [RepL_nil.1 h2, List.append_nil]
    exact h1
  · intro h
    exact ⟨vs, [], by simp, h, RepL_nil.2 rfl⟩

theorem RepC_wrap {F : Nat → Prop} {sh : Sh} {L : List D} {vs : List Value} (hr : RepL W F L vs) (hs : L.all D.single = true) (hl : L.length = sh.size) : RepC W F (wrap sh.isSt L) vs ∧ (wrap sh.isSt L).width = sh.size := by
  cases hb : sh.isSt
  · have h1 := Sh.len_one hb
    match L, hl.trans h1 with
    | [d], _ =>
      simp only [wrap, Bool.false_eq_true, if_false, nth]
      refine ⟨RepL_uno.1 hr, ?_⟩
      rw [h1]
      exact (width_single (by simpa using hs)).1
  · simp only [wrap, if_true]
    refine ⟨by rw [RepC]; exact ⟨hr, hs⟩, ?_⟩
    simpa [D.width, D.cells] using hl

mutual
theorem Sh.opened : ∀ (sh : Sh) (t : TypeId) (fuel : Nat) (cs : List Value) (x : DataW H × List MemPlace), sh.ok P t = true → DataW.trod enc P W 0 (fun _ => true) true fuel t cs = some x →
    ∃ L, sh.Is L ∧ RepL W (· < W.heap.size) L cs ∧ L.all D.single = true ∧ L.length = sh.size
  | .int k, t, fuel, cs, x, hok, h => by
    simp only [Sh.ok] at hok
    split at hok
    case h_2 => cases hok
    rename_i k' hu
    have hk := of_decide_eq_true hok
    subst hk
    obtain ⟨n, rfl, -, hw⟩ := DataW.trod_int hu h
    simp only [Lit.wf, Bool.and_eq_true, decide_eq_true_eq] at hw
    refine ⟨[.v (.int k' n)], ⟨n, rfl, hw⟩, RepL_uno.2 ?_, rfl, rfl⟩
    simp [RepC, V.flat]
  | .bool, t, fuel, cs, x, hok, h => by
    simp only [Sh.ok] at hok
    split at hok
    case h_2 => cases hok
    rename_i hu
    obtain ⟨n, rfl, -⟩ := DataW.trod_bool hu h
    refine ⟨[B n], ⟨n, rfl⟩, RepL_uno.2 ?_, rfl, rfl⟩
    simp [RepC, V.flat]
  | .str, t, fuel, cs, x, hok, h => by
    simp only [Sh.ok] at hok
    split at hok
    case h_2 => cases hok
    rename_i hu
    obtain ⟨s, rfl, -, hw⟩ := DataW.trod_string hu h
    refine ⟨[T s], ⟨s, rfl, hw⟩, RepL_uno.2 ?_, rfl, rfl⟩
    simp [RepC, V.flat]
  | .sl e, t, fuel, cs, x, hok, h => by
    simp only [Sh.ok] at hok
    split at hok
    case h_2 => cases hok
    rename_i u hu
    simp only [Bool.and_eq_true, decide_eq_true_eq] at hok
    obtain ⟨⟨hok, hz⟩, hpos⟩ := hok
    rcases DataW.trod_slice hu h with ⟨rfl, -⟩ | ⟨a, len, cap, elems, rest, n, rfl, rfl, -, -, hle, hcap, hlen, hel, -⟩
    · refine ⟨[.arr e.size []], ⟨[], rfl, by simp, by simp⟩, RepL_uno.2 ?_, rfl, rfl⟩
      rw [RepC]
      exact ⟨none, 0, [], rfl, Nat.le_refl _, RepL_nil.2 rfl, by simp, by simp⟩
    · have key : ∀ k, k ≤ len → ∃ ds us, ds.length = k ∧ us.length = k * e.size ∧ RepL W (· < W.heap.size) ds us ∧ (∀ d ∈ ds, d.width = e.size) ∧ (∀ d ∈ ds, ∃ m, e.Is m ∧ d = wrap e.isSt m) ∧ ∀ i v, us[i]? = some v → W.cell? (a.add i) = some v := by
        intro k
        induction k with
        | zero => exact fun _ => ⟨[], [], rfl, by simp, RepL_nil.2 rfl, by simp, by simp, by simp⟩
        | succ k ih =>
          intro hk
          obtain ⟨ds, us, h1, h2, h3, h4, h5, h6⟩ := ih (by omega)
          have hi := hel k (by omega)
          rw [List.getElem?_eq_getElem (by omega)] at hi
          obtain ⟨vs, hc, hd⟩ := Option.bind_eq_some_iff.1 hi
          obtain ⟨L, g1, g2, g3, g4⟩ := Sh.opened e u n vs _ hok hd
          obtain ⟨g5, g6⟩ := cells_is hc
          obtain ⟨g7, g8⟩ := RepC_wrap g2 g3 g4
          rw [hz] at g5 g6
          refine ⟨ds ++ [wrap e.isSt L], us ++ vs, by simp [h1], by simp [h2, g5, Nat.succ_mul], (RepL_append _ _ _).2 ⟨us, vs, rfl, h3, RepL_uno.2 g7⟩, ?_, ?_, fun i v hv => ?_⟩
          · intro d hd
            rcases List.mem_append.1 hd with hd | hd
            · exact h4 d hd
            · simp at hd; subst hd; exact g8
          · intro d hd
            rcases List.mem_append.1 hd with hd | hd
            · exact h5 d hd
            · simp at hd; subst hd; exact ⟨L, g1, rfl⟩
          · rcases Nat.lt_or_ge i us.length with hlt | hge
            · rw [List.getElem?_append_left hlt] at hv
              exact h6 i v hv
            · rw [List.getElem?_append_right hge] at hv
              have := g6 _ v hv
              rw [add_add, ← h2] at this
              rw [show us.length + (i - us.length) = i from by omega] at this
              exact this
      obtain ⟨ds, us, h1, h2, h3, h4, h5, h6⟩ := key len (Nat.le_refl _)
      refine ⟨[.arr e.size ds], ⟨ds, rfl, by omega, h5⟩, RepL_uno.2 ?_, rfl, rfl⟩
      rw [RepC]
      refine ⟨some a, cap, us, by rw [h1], by omega, h3, h4, fun hne => ?_⟩
      have hpl : 0 < us.length := by
        rw [h2, ← h1]
        exact Nat.mul_pos (List.length_pos_iff.2 hne) hpos
      have h0 := h6 0 _ (List.getElem?_eq_getElem hpl)
      have ha0 : a.add 0 = a := by simp [Addr.add]
      rw [ha0] at h0
      obtain ⟨hsp, hbl⟩ := cell_spot h0
      have ea : a = ⟨a.block, a.off, none⟩ := by
        rw [← hsp]
      refine ⟨a.block, a.off, by rw [← ea], hbl, fun i v hv => ?_⟩
      have := h6 i v hv
      unfold Addr.add at this
      split at this
      · rename_i hi0
        subst hi0
        rw [Nat.add_zero, ← ea]
        exact this
      · rw [← hsp]
        rw [hsp]
        exact this
  | .st l, t, fuel, cs, x, hok, h => by
    simp only [Sh.ok] at hok
    split at hok
    case h_2 => cases hok
    rename_i fs hu
    simp only [Bool.and_eq_true, decide_eq_true_eq] at hok
    obtain ⟨xs, n, rfl, -, hlen, hxl, hf⟩ := DataW.trod_struct hu h
    obtain ⟨L, g1, g2, g3, g4⟩ := ShL.opened l 0 fs.toList n cs hok.1 (fun f hf' => by
      obtain ⟨i, hi, he⟩ := List.mem_iff_getElem.1 hf'
      have := hf i f (by rw [← he]; simp at hi ⊢)
      rw [List.getElem?_eq_getElem (by simp at hi; omega)] at this
      exact ⟨_, this⟩)
    rw [List.drop_zero, ← hok.2, ← hlen, List.take_length] at g2
    exact ⟨L, g1, g2, g3, g4⟩
theorem ShL.opened : ∀ (l : ShL) (off : Nat) (fs : List Field) (fuel : Nat) (cs : List Value), l.ok P off fs = true → (∀ f ∈ fs, ∃ x, DataW.trod enc P W 0 (fun _ => true) true fuel f.type ((cs.drop f.offset).take (P.cellsOf f.type)) = some x) →
    ∃ L, l.Is L ∧ RepL W (· < W.heap.size) L ((cs.drop off).take l.size) ∧ L.all D.single = true ∧ L.length = l.size
  | .nil, off, [], fuel, cs, hok, h => ⟨[], rfl, by simp [ShL.size, RepL_nil], rfl, rfl⟩
  | .nil, off, _ :: _, fuel, cs, hok, h => by simp [ShL.ok] at hok
  | .cons a t, off, [], fuel, cs, hok, h => by simp [ShL.ok] at hok
  | .cons a t, off, f :: fs, fuel, cs, hok, h => by
    simp only [ShL.ok, Bool.and_eq_true, decide_eq_true_eq] at hok
    obtain ⟨⟨⟨h1, h2⟩, h3⟩, h4⟩ := hok
    obtain ⟨x, hx⟩ := h f (by simp)
    obtain ⟨L, g1, g2, g3, g4⟩ := Sh.opened a f.type fuel _ x h2 hx
    obtain ⟨M, k1, k2, k3, k4⟩ := ShL.opened t (off + a.size) fs fuel cs h4 (fun f hf => h f (by simp [hf]))
    refine ⟨L ++ M, ⟨L, M, rfl, g1, k1⟩, (RepL_append _ _ _).2 ⟨_, _, ?_, g2, k2⟩, by simp [g3, k3], by simp [ShL.size, g4, k4]⟩
    rw [h1, h3, ShL.size, ← List.drop_drop, ← List.take_add]
end

def isVs : D → Bool
  | .v _ => true
  | _ => false
theorem isV_agg {L : List D} (h : L.all isVs = true) : (D.agg L).isV = true := by
  simp only [D.isV]
  refine List.all_eq_true.2 fun d hd => ?_
  have := List.all_eq_true.1 h d hd
  cases d <;> simp_all [isVs]
mutual
theorem Sh.isV_of : ∀ (sh : Sh) (L : List D), sh.flat = true → sh.Is L → L.all isVs = true
  | .int k, L, _, h => by obtain ⟨n, rfl, _⟩ := h; rfl
  | .bool, L, _, h => by obtain ⟨n, rfl⟩ := h; rfl
  | .str, L, _, h => by obtain ⟨n, rfl, _⟩ := h; rfl
  | .sl _, L, h, _ => by simp [Sh.flat] at h
  | .st l, L, h, hl => ShL.isV_of l L (by simpa [Sh.flat] using h) hl
theorem ShL.isV_of : ∀ (sh : ShL) (L : List D), sh.flat = true → sh.Is L → L.all isVs = true
  | .nil, L, _, h => by cases h; rfl
  | .cons a t, L, h, hl => by
    obtain ⟨x, y, rfl, h1, h2⟩ := hl
    simp only [ShL.flat, Bool.and_eq_true] at h
    rw [List.all_append, Sh.isV_of a x h.1 h1, ShL.isV_of t y h.2 h2]
    rfl
end

/-- A whole argument. -/
def Sh.IsV (sh : Sh) (d : D) : Prop := ∃ m, sh.Is m ∧ d = wrap sh.isSt m

theorem Sh.arg {sh : Sh} {t : TypeId} {v : Value} {d : DataW H} {ps : List MemPlace} {base : Nat} (hok : sh.ok P t = true) (hv : Value.okWide P W .any base t v) (h : DataW.Trod enc P W 0 (fun _ => true) true t v d ps) :
    ∃ x, sh.IsV x ∧ RepV W (· < W.heap.size) x v ∧ (sh.flat = true → x.isV = true) := by
  obtain ⟨fuel, h⟩ := h
  obtain ⟨L, h1, h2, h3, h4⟩ := Sh.opened sh t fuel _ _ hok h
  refine ⟨_, ⟨L, h1, rfl⟩, ?_, fun hf => ?_⟩
  · cases hb : sh.isSt
    · have h1' := Sh.len_one hb
      have hone : v.cells.toList = [v] := by
        cases sh <;> simp only [Sh.isSt, Bool.true_eq_false] at hb <;> simp only [Sh.ok] at hok <;> split at hok <;> rename_i hu
        · obtain ⟨n, rfl⟩ := okWide_int hu hv; rfl
        · cases hok
        · obtain ⟨n, rfl⟩ := okWide_bool hu hv; rfl
        · cases hok
        · obtain ⟨n, rfl⟩ := okWide_string hu hv; rfl
        · cases hok
        · obtain ⟨_, _, _, rfl⟩ := okWide_slice hu hv; rfl
        · cases hok
      match L, h4.trans h1' with
      | [e], _ =>
        simp only [wrap, Bool.false_eq_true, if_false, nth]
        have hs : e.single = true := by simpa using h3
        rw [hone] at h2
        exact (RepV_single hs).2 (RepL_uno.1 h2)
    · simp only [wrap, if_true]
      have : ∃ cs, v = .agg cs := by
        cases sh <;> simp only [Sh.isSt, Bool.false_eq_true] at hb
        simp only [Sh.ok] at hok
        split at hok
        case h_2 => cases hok
        rename_i hu
        simp only [Value.okWide, hu] at hv
        obtain ⟨cs, h, _⟩ := hv
        exact ⟨cs, h⟩
      obtain ⟨cs, rfl⟩ := this
      refine ⟨cs.toList, by simp, ?_⟩
      rw [RepC]
      exact ⟨by simpa [Value.cells] using h2, h3⟩
  · have := Sh.isV_of sh L hf h1
    cases hb : sh.isSt
    · match L, h4.trans (Sh.len_one hb) with
      | [e], _ =>
        simp only [wrap, Bool.false_eq_true, if_false, nth]
        cases e <;> simp [isVs] at this
        rfl
    · simp only [wrap, if_true]
      exact isV_agg this

theorem int_is {k : IntKind} {x : D} (h : (Sh.int k).IsV x) : ∃ n, x = .v (.int k n) ∧ k.min ≤ n ∧ n ≤ k.max := by
  obtain ⟨_, ⟨n, rfl, h⟩, rfl⟩ := h
  exact ⟨n, rfl, h⟩
theorem bool_is {x : D} (h : Sh.bool.IsV x) : ∃ b, x = B b := by
  obtain ⟨_, ⟨n, rfl⟩, rfl⟩ := h
  exact ⟨n, rfl⟩
theorem str_is {x : D} (h : Sh.str.IsV x) : ∃ s, x = T s ∧ s.size ≤ maxLen := by
  obtain ⟨_, ⟨n, rfl, h⟩, rfl⟩ := h
  exact ⟨n, rfl, h⟩
theorem sl_is {e : Sh} {x : D} (h : (Sh.sl e).IsV x) : ∃ ds, x = .arr e.size ds ∧ ds.length ≤ maxLen ∧ ∀ d ∈ ds, e.IsV d := by
  obtain ⟨_, ⟨n, rfl, h, h'⟩, rfl⟩ := h
  exact ⟨n, rfl, h, h'⟩
/-- A slice whose elements are all of a form. -/
theorem sl_map {α : Type} {e : Sh} {f : α → D} (hf : ∀ d, e.IsV d → ∃ a, d = f a) {x : D} (h : (Sh.sl e).IsV x) : ∃ l : List α, x = .arr e.size (l.map f) ∧ l.length ≤ maxLen := by
  obtain ⟨ds, rfl, h1, h2⟩ := sl_is h
  have : ∃ l : List α, ds = l.map f := by
    clear h1 h
    induction ds with
    | nil => exact ⟨[], rfl⟩
    | cons d ds ih =>
      obtain ⟨a, rfl⟩ := hf d (h2 d (by simp))
      obtain ⟨l, rfl⟩ := ih (fun d hd => h2 d (by simp [hd]))
      exact ⟨a :: l, rfl⟩
  obtain ⟨l, rfl⟩ := this
  exact ⟨l, rfl, by simpa using h1⟩

def okShs (P : Program) : List Sh → List TypeId → List Kd → Bool
  | [], [], [] => true
  | sh :: shs, t :: ts, .dat lv :: ks => sh.ok P t && (Nat.beq lv 2 || (Nat.beq lv 0 && sh.flat)) && okShs P shs ts ks
  | _, _, _ => false
def IsShs : List Sh → List D → Prop
  | [], [] => True
  | sh :: shs, d :: ds => sh.IsV d ∧ IsShs shs ds
  | _, _ => False

theorem shs_one {a : Sh} {ds : List D} (h : IsShs [a] ds) : ∃ x, ds = [x] ∧ a.IsV x := by
  match ds, h with
  | [x], ⟨h1, _⟩ => exact ⟨x, rfl, h1⟩
theorem shs_two {a b : Sh} {ds : List D} (h : IsShs [a, b] ds) : ∃ x y, ds = [x, y] ∧ a.IsV x ∧ b.IsV y := by
  match ds, h with
  | [x, y], ⟨h1, h2, _⟩ => exact ⟨x, y, rfl, h1, h2⟩
theorem shs_three {a b c : Sh} {ds : List D} (h : IsShs [a, b, c] ds) : ∃ x y z, ds = [x, y, z] ∧ a.IsV x ∧ b.IsV y ∧ c.IsV z := by
  match ds, h with
  | [x, y, z], ⟨h1, h2, h3, _⟩ => exact ⟨x, y, z, rfl, h1, h2, h3⟩

theorem args_of {base : Nat} : ∀ (shs : List Sh) (ts : List TypeId) (ks : List Kd) (vs : List Value) (ds : List (DataW H)) (ps : List MemPlace) (i : Nat), okShs P shs ts ks = true → DataW.TrodAll enc P W 0 (fun _ => true) true ts vs ds ps →
    (∀ (j : Nat) t v, ts[j]? = some t → vs[j]? = some v → Value.okWide P W .any base t v) → ∃ xs, IsShs shs xs ∧ ArgsOk W (· < W.heap.size) (fun _ => none) i ks xs vs
  | [], [], [], [], _, _, _, _, _, _ => ⟨[], trivial, trivial⟩
  | [], [], [], _ :: _, [], _, _, _, h, _ => h.elim
  | [], [], [], _ :: _, _ :: _, _, _, _, h, _ => h.elim
  | sh :: shs, t :: ts, k :: ks, [], [], _, _, _, h, _ => h.elim
  | sh :: shs, t :: ts, k :: ks, [], _ :: _, _, _, _, h, _ => h.elim
  | sh :: shs, t :: ts, k :: ks, _ :: _, [], _, _, _, h, _ => h.elim
  | sh :: shs, t :: ts, k :: ks, v :: vs, d :: ds, ps, i, hok, h, hv => by
    cases k <;> simp only [okShs, Bool.false_eq_true] at hok
    rename_i lv
    simp only [Bool.and_eq_true, Bool.or_eq_true] at hok
    obtain ⟨⟨hok1, hlv⟩, hok2⟩ := hok
    obtain ⟨p, q, h1, h2, rfl⟩ := h
    obtain ⟨x, g1, g2, g3⟩ := Sh.arg hok1 (hv 0 t v rfl rfl) h1
    obtain ⟨xs, k1, k2⟩ := args_of shs ts ks vs ds q (i + 1) hok2 h2 (fun j t v ht hv' => hv (j + 1) t v ht hv')
    refine ⟨x :: xs, ⟨g1, k1⟩, .inr ?_, k2⟩
    rcases hlv with h' | ⟨h', hf⟩
    · rw [beq_iff] at h'
      subst h'
      exact g2
    · exact RepV_isV (g3 hf) g2
  | [], [], _ :: _, _, _, _, _, hok, _, _ => by simp [okShs] at hok
  | [], _ :: _, _, _, _, _, _, hok, _, _ => by simp [okShs] at hok
  | _ :: _, [], _, _, _, _, _, hok, _, _ => by simp [okShs] at hok
  | _ :: _, _ :: _, [], _, _, _, _, hok, _, _ => by simp [okShs] at hok

theorem trodAll_below {W' : World} (hl : laidOutB P = true) : ∀ (ts : List TypeId) (vs : List Value) (ds : List (DataW H)) (ps : List MemPlace), (ts.all fun t => P.readableRec t && decide (t < P.types.size)) = true →
    DataW.TrodAll enc P W 0 (fun _ => true) true ts vs ds ps → Below W.heap.size W W' → (∀ x ∈ ps, x.block < W.heap.size) → ∀ sp : Nat → Bool, (∀ x ∈ ps, sp x.block = true) → DataW.TrodAll enc P W' 0 sp true ts vs ds ps
  | [], [], [], _, _, h, _, _, _, _ => h
  | [], _ :: _, [], _, _, h, _, _, _, _ => h.elim
  | [], [], _ :: _, _, _, h, _, _, _, _ => h.elim
  | [], _ :: _, _ :: _, _, _, h, _, _, _, _ => h.elim
  | _ :: _, [], [], _, _, h, _, _, _, _ => h.elim
  | _ :: _, [], _ :: _, _, _, h, _, _, _, _ => h.elim
  | _ :: _, _ :: _, [], _, _, h, _, _, _, _ => h.elim
  | t :: ts, v :: vs, d :: ds, ps, hr, h, hb, hlt, sp, hsp => by
    obtain ⟨p, q, h1, h2, rfl⟩ := h
    simp only [List.all_cons, Bool.and_eq_true, decide_eq_true_eq] at hr
    refine ⟨p, q, ?_, trodAll_below hl ts vs ds q hr.2 h2 hb (fun x hx => hlt x (by simp [hx])) sp (fun x hx => hsp x (by simp [hx])), rfl⟩
    exact WideElems.Trod_stays hl hr.1.1 hr.1.2 h1 (fun x hx => hb.same (hlt x (by simp [hx]))) (fun x hx => hsp x (by simp [hx]))
end

section
variable {H : Type} {enc : TypeId × Value → H} {P : Program}
theorem post_of_below {f : Func} {s : ChangeSpec} {apart fresh handsOn again : Bool} {W W' : World} {args : Array Value} {v : Value} {ds gs : List (DataW H)} {before pa pv : List MemPlace}
    (hW : DataW.Whole enc P f.params.toList s.vars apart W args.toList ds gs before)
    (hres : ∀ (b : Nat) (sp : Nat → Bool) (hd : Bool), DataW.TrodAll enc P W' b sp hd f.resultTypes.toList (v.resultList f.resultTypes.size) (s.fn H (ds ++ gs)).results [])
    (hargs : ∀ sp : Nat → Bool, (∀ p ∈ before, sp p.block = true) → DataW.TrodAll enc P W' 0 sp true f.params.toList args.toList (s.fn H (ds ++ gs)).args pa)
    (hvars : ∀ sp : Nat → Bool, (∀ p ∈ before, sp p.block = true) → DataW.TrodVars enc P W' sp s.vars (s.fn H (ds ++ gs)).vars pv)
    (hps : before = pa ++ pv) (hb : Below W.heap.size W W')
    (hok : ∀ (j : Nat) (t : TypeId) (r : Value), f.resultTypes[j]? = some t → (v.resultList f.resultTypes.size)[j]? = some r → Value.okWide P W' .any 0 t r) :
    s.post enc P f apart fresh handsOn again W args v W' := by
  have hlt : ∀ p ∈ before, p.block < W.heap.size := fun p hp => hW.lt p hp
  have hold : ∀ p ∈ before, (fun b => decide (b < W.heap.size)) p.block = true := fun p hp => by simpa using hlt p hp
  refine ⟨ds, gs, before, [], pa, pv, hW, hres _ _ _, hargs _ hold, hvars _ hold, World.keptBut_mono (fun p hp => ⟨hp, ?_⟩) (hb.frame (· ∈ before)), fun _ => ?_⟩
  · rw [hps, List.mem_append] at hp
    exact Or.inr hp
  · obtain ⟨_, _, _, _, _, hz, hn⟩ := hW
    refine ⟨hok, _, _, ([] ++ pa) ++ pv, ⟨[] ++ pa, pv, trodAll_append (hargs _ (fun _ _ => rfl)) (hres _ _ _), hvars _ (fun _ _ => rfl), rfl, ?_, ?_⟩, ?_⟩
    · intro b off hp
      have hin : MemPlace.cell b off ∈ before := by rw [hps]; simpa using hp
      rw [hb.frozen (hlt _ hin)]
      exact hz b off hin
    · intro ha
      have := hn ha
      rw [hps] at this
      simpa using this
    · intro p hp _
      rw [hps]
      simpa using hp

theorem calls_of_meets {G : List (Nat × (Obj → Prop))} {f : FuncId} {S : FS} (hm : Meets G P f S) {fn : Func} (hf : P.funcs[f]? = some fn) (hname : (fn.name == "runtime.NumGoroutine") = false) (hb : fn.body.isSome = true) {ds rs us : List D} (hd : S.f ds = some (.ret rs us)) {args : Array Value} {w : World} {F : Nat → Prop} {ow : Nat → Option Nat}
    (hgl : gOk G w F) (ha : ArgsOk w F ow 0 S.pm ds args.toList) (hF : ∀ b, F b → b < w.heap.size ∧ ow b = none) (hO : ∀ b i, ow b = some i → b < w.heap.size) :
    Calls P f args w fun e w' => ∃ v, e = .returned v ∧ ∃ F' R vs, v = resV vs ∧ CallPost S args rs us w F ow F' R vs w' := by
  obtain ⟨b, hb⟩ := Option.isSome_iff_exists.1 hb
  have h1 : ¬ fn.name = "runtime.NumGoroutine" := by simpa using hname
  have hrun : (callFunc f args).run P w = .ok (.enter f args) w := by simp [callFunc, hf, h1, hb]
  have h2 := hm ds rs us hd args w F ow hgl ha hF hO { (default : Oper) with dst := some 0 } { tmps := #[undef], defers := [] } (fun a w' => ∃ F' R vs, a.tmps.getD 0 undef = resV vs ∧ CallPost S args rs us w F ow F' R vs w') (fun _ _ _ => False) (fun v w' h => by
    obtain ⟨F', R, vs, rfl, h⟩ := h
    exact ⟨F', R, vs, by simp [Act.put], h⟩)
  rw [hrun, Oper.upon_enter] at h2
  refine Calls.mono h2 fun e w' he => ?_
  cases e with
  | returned v =>
    obtain ⟨F', R, vs, h3, h4⟩ := he
    exact ⟨v, rfl, F', R, vs, by simpa [Act.put] using h3, h4⟩
  | panicked c => exact he.elim
  | outgrown => obtain ⟨_, _, h⟩ := he; exact h.elim

/-- A law's row: true whatever is given, and nothing of what was there is changed. -/
theorem law_post {G : List (Nat × (Obj → Prop))} {f : FuncId} {S : FS} (hm : Meets G P f S) {fn : Func} (hf : P.funcs[f]? = some fn) (hname : (fn.name == "runtime.NumGoroutine") = false) (hbd : fn.body.isSome = true) (shs : List Sh) {rt : TypeId}
    (hl : laidOutB P = true) (hsh : okShs P shs fn.params.toList S.pm = true) (hrd : (fn.params.toList.all fun t => P.readableRec t && decide (t < P.types.size)) = true)
    (hrm : S.rm = [.dat 0]) (hrt : fn.resultTypes = #[rt]) (hbool : P.underlying rt = some .bool)
    (hd : ∀ ds, IsShs shs ds → S.f ds = some (.ret [B true] [])) {s : ChangeSpec} (hvars : s.vars = [])
    (hs : ∀ ds : List (DataW H), ds.length = fn.params.size → s.fn H (ds ++ []) = { results := [.lit (.bool true)], args := ds })
    {W : World} {base : Nat} {args : Array Value} {ds gs : List (DataW H)} {before : List MemPlace}
    (hval : ∀ (j : Nat) t v, fn.params[j]? = some t → args[j]? = some v → Value.okWide P W .any base t v) (hW : DataW.Whole enc P fn.params.toList s.vars false W args.toList ds gs before) (hgl : gOk G W fun b => b < W.heap.size) {fresh handsOn again : Bool} :
    Calls P f args W fun e W' => ∃ v, e = .returned v ∧ s.post enc P fn false fresh handsOn again W args v W' := by
  have hW' := hW
  have hlt : ∀ p ∈ before, p.block < W.heap.size := fun p hp => hW.lt p hp
  obtain ⟨p, q, hA, hV, rfl, hfz, hnd⟩ := hW
  rw [hvars] at hV
  have hgs : gs = [] ∧ q = [] := by
    cases gs with
    | nil => exact ⟨rfl, hV⟩
    | cons _ _ => exact hV.elim
  obtain ⟨rfl, rfl⟩ := hgs
  obtain ⟨xs, h1, h2⟩ := args_of (base := base) shs fn.params.toList S.pm args.toList ds p 0 hsh hA (fun j t v ht hv => hval j t v (by simpa using ht) (by simpa using hv))
  refine Calls.mono (calls_of_meets hm hf hname hbd (hd xs h1) hgl h2 (fun b hb => ⟨hb, rfl⟩) (fun b i hi => by cases hi)) fun e W' he => ?_
  obtain ⟨v, rfl, F', R, vs, rfl, hp⟩ := he
  refine ⟨_, rfl, ?_⟩
  have hlen : ds.length = fn.params.size := by
    have : ∀ (ts : List TypeId) (vs : List Value) (ds : List (DataW H)) (ps : List MemPlace), DataW.TrodAll enc P W 0 (fun _ => true) true ts vs ds ps → ds.length = ts.length := by
      intro ts
      induction ts with
      | nil =>
        intro vs ds ps h
        cases ds with
        | nil => rfl
        | cons _ _ => cases vs <;> exact h.elim
      | cons t ts ih =>
        intro vs ds ps h
        cases vs with
        | nil => exact h.elim
        | cons v vs =>
          cases ds with
          | nil => exact h.elim
          | cons d ds =>
            obtain ⟨_, _, _, h2, _⟩ := h
            simp [ih _ _ _ h2]
    simpa using this _ _ _ _ hA
  have hB : Below W.heap.size W W' := ⟨hp.os, hp.tape, hp.output, hp.size, fun b hb => hp.keep b hb rfl⟩
  have hres : resV vs = .bool true := by
    have hl1 := hp.len
    rw [hrm] at hl1
    match vs, hl1 with
    | [y], _ =>
      have h0 := hp.res 0
      rw [hrm] at h0
      simp only [nthK, nth, List.getD_cons_zero] at h0
      rcases h0 with h0 | h0
      · cases h0
      · exact (RepV_v.1 h0).1
  rw [hres]
  have hsd := hs ds hlen
  refine post_of_below (pa := p) (pv := []) hW' (fun b sp hd' => ?_) (fun sp hsp => ?_) (fun sp _ => ?_) rfl hB ?_
  · rw [hsd, hrt]
    exact trodAll_mk1 (shut_bool hbool true)
  · rw [hsd]
    exact trodAll_below hl _ _ _ _ hrd hA hB (fun x hx => hlt x (by simp [hx])) sp (fun x hx => hsp x (by simp [hx]))
  · rw [hsd, hvars]
    rfl
  · exact ok_one hrt rfl (okWide_bool_mk hbool true)
end

end Go.V
/-
  How the evaluated texts are reckoned: plain laws of the operations on data, and of loops.
-/
namespace Go.V

section
variable {k : IntKind} {a b : Int} {bl : Bool} {eq : List Nat}
@[simp] theorem bin_add : bin .add bl eq (.v (.int k a)) (.v (.int k b)) = some (.v (.int k (k.wrap (a + b)))) := by simp [bin, intBin]
@[simp] theorem bin_sub : bin .sub bl eq (.v (.int k a)) (.v (.int k b)) = some (.v (.int k (k.wrap (a - b)))) := by simp [bin, intBin]
@[simp] theorem bin_mul : bin .mul bl eq (.v (.int k a)) (.v (.int k b)) = some (.v (.int k (k.wrap (a * b)))) := by simp [bin, intBin]
@[simp] theorem bin_quo : bin .quo bl eq (.v (.int k a)) (.v (.int k b)) = if b = 0 then none else some (.v (.int k (k.wrap (a.tdiv b)))) := by simp [bin, intBin]
@[simp] theorem bin_rem : bin .rem bl eq (.v (.int k a)) (.v (.int k b)) = if b = 0 then none else some (.v (.int k (a.tmod b))) := by simp [bin, intBin]
@[simp] theorem bin_lss : bin .lss bl eq (.v (.int k a)) (.v (.int k b)) = some (B (decide (a < b))) := by simp [bin, intBin]
@[simp] theorem bin_leq : bin .leq bl eq (.v (.int k a)) (.v (.int k b)) = some (B (decide (a ≤ b))) := by simp [bin, intBin]
@[simp] theorem bin_gtr : bin .gtr bl eq (.v (.int k a)) (.v (.int k b)) = some (B (decide (b < a))) := by simp [bin, intBin]
@[simp] theorem bin_geq : bin .geq bl eq (.v (.int k a)) (.v (.int k b)) = some (B (decide (b ≤ a))) := by simp [bin, intBin]
@[simp] theorem bin_eql : bin .eql bl eq (.v (.int k a)) (.v (.int k b)) = some (B (decide (a = b))) := by
  have : (a == b) = decide (a = b) := rfl
  simp [bin, intBin, this]
@[simp] theorem bin_neq : bin .neq bl eq (.v (.int k a)) (.v (.int k b)) = some (B (!decide (a = b))) := by
  have : (a != b) = !decide (a = b) := rfl
  simp [bin, intBin, this]
@[simp] theorem bin_eqlB {a b : Bool} : bin .eql true eq (B a) (B b) = some (B (a == b)) := by simp [bin]
@[simp] theorem bin_neqB {a b : Bool} : bin .neq true eq (B a) (B b) = some (B !(a == b)) := by simp [bin]
@[simp] theorem bin_addS {a b : ByteArray} : bin .add bl eq (T a) (T b) = if a.size + b.size ≤ 1152921504606846976 then some (T (a ++ b)) else none := by simp [bin, strBin]
@[simp] theorem bin_eqlS {a b : ByteArray} : bin .eql bl eq (T a) (T b) = some (B (decide (a = b))) := by
  have : (a.toList == b.toList) = decide (a = b) := by
    rw [Bool.eq_iff_iff, beq_iff_eq, decide_eq_true_eq]
    constructor
    · intro h
      have h1 : ∀ s : ByteArray, s.toList = s.data.toList := fun s => by simp [ByteArray.toList_eq]
      rw [h1, h1] at h
      cases a; cases b
      simp at h
      simp [h]
    · rintro rfl; rfl
  simp [bin, strBin, this]
@[simp] theorem bin_neqS {a b : ByteArray} : bin .neq bl eq (T a) (T b) = some (B (!decide (a = b))) := by
  have h := bin_eqlS (a := a) (b := b) (bl := bl) (eq := eq)
  simp only [bin, strBin, Option.some.injEq, D.v.injEq, Value.bool.injEq] at h ⊢
  rw [h]
@[simp] theorem un_not {b : Bool} : un .not (B b) = some (B !b) := rfl
@[simp] theorem un_neg : un .neg (.v (.int k a)) = some (.v (.int k (k.wrap (-a)))) := by simp [un]

theorem wrap_id (h1 : -9223372036854775808 ≤ a) (h2 : a < 9223372036854775808) : IntKind.i64.wrap a = a := by
  simp [IntKind.wrap, IntKind.bits, IntKind.signed]
  split <;> omega
end

@[simp] theorem ifD_B {c : Bool} {t e : Option Out} : ifD (B c) t e = if c = true then t else e := by cases c <;> rfl
@[simp] theorem ifN_B {c : Bool} {t e : Option Out} : ifN c t e = if c = true then t else e := by cases c <;> rfl
@[simp] theorem gate_t {v : D} {c : Bool} {r : Option D} : gate v (B c) true r = if c = true then r else some v := by cases c <;> rfl
@[simp] theorem gate_f {v : D} {c : Bool} {r : Option D} : gate v (B c) false r = if c = true then some v else r := by cases c <;> rfl
@[simp] theorem gate_s {v : D} {p : Bool} {l : List D} {r : Option D} : gate v (.tup l) p r = some v := rfl
@[simp] theorem gateC_s {p : Bool} {l : List D} {r : Option Out} {alt : List D} {k : List D → Option Out} : gateC (.tup l) p r alt k = k alt := rfl
def nrmK (r : Option Out) (k : List D → Option Out) : Option Out :=
  match r with
  | some (.nrm l) => k l
  | _ => none
@[simp] theorem nrmK_some {l : List D} {k : List D → Option Out} : nrmK (some (.nrm l)) k = k l := rfl
@[simp] theorem gateC_t {c : Bool} {r : Option Out} {alt : List D} {k : List D → Option Out} : gateC (B c) true r alt k = if c = true then nrmK r k else k alt := by cases c <;> rfl
@[simp] theorem gateC_f {c : Bool} {r : Option Out} {alt : List D} {k : List D → Option Out} : gateC (B c) false r alt k = if c = true then k alt else nrmK r k := by cases c <;> rfl
@[simp] theorem pickD_B {c : Bool} {a b : D} : pickD (B c) a b = some (if c = true then a else b) := by cases c <;> rfl
@[simp] theorem callK_ret {rs us : List D} {k : List D → List D → Option Out} : callK (some (.ret rs us)) k = k rs us := rfl
@[simp] theorem outK_ext {i : Nat} {s : List D} {x : Nat → List D → Option Out} {r : List D → List D → Option Out} : outK (.ext i s) x r = x i s := rfl
@[simp] theorem outK_ret {a b : List D} {x : Nat → List D → Option Out} {r : List D → List D → Option Out} : outK (.ret a b) x r = r a b := rfl
@[simp] theorem liveD_v {v : Value} {x : D} : liveD (.v v) x = some x := rfl
@[simp] theorem liveD_arr {z : Nat} {l : List D} {x : D} : liveD (.arr z l) x = some x := rfl
@[simp] theorem liveD_agg {l : List D} {x : D} : liveD (.agg l) x = some x := rfl
@[simp] theorem liveD_ref {i f : Nat} {x : D} : liveD (.ref i f) x = some x := rfl
@[simp] theorem liveD_tup {l : List D} {x : D} : liveD (.tup l) x = some x := rfl
@[simp] theorem lenD_arr {z : Nat} {l : List D} : lenD false (.arr z l) = some (I l.length) := rfl
@[simp] theorem lenD_str {s : ByteArray} : lenD true (T s) = some (I s.size) := rfl
@[simp] theorem sl_zero {a : D} {l : List D} : sl (a :: l) 0 = a := rfl
@[simp] theorem sl_succ {a : D} {l : List D} {n : Nat} : sl (a :: l) (n + 1) = sl l n := rfl
@[simp] theorem fldD_agg {ag : Bool} {n off : Nat} {l : List D} : fldD ag n off (.agg l) = takeD ag n (l.drop off) := rfl
@[simp] theorem ldD_ptr {ag : Bool} {n : Nat} {l : List D} : ldD ag n (.ptr l) = takeD ag n l := rfl
@[simp] theorem offD_ptr {off : Nat} {l : List D} : offD off (.ptr l) = some (.ptr (l.drop off)) := rfl
@[simp] theorem takeD_t {n : Nat} {l : List D} : takeD true n l = if n ≤ l.length then some (.agg (l.take n)) else none := rfl
@[simp] theorem takeD_f {n : Nat} {a : D} {l : List D} : takeD false n (a :: l) = some a := rfl
@[simp] theorem atD_agg {l : List D} {i f : Nat} : atD (.agg l) (.ref i f) = some (l.drop f) := rfl
@[simp] theorem atD_arr {z : Nat} {l : List D} {i f : Nat} : atD (.arr z l) (.ref i f) = (l[i]?).map fun d => d.cells.drop f := rfl
@[simp] theorem refAdd_ref {off i f : Nat} : refAdd off (.ref i f) = some (.ref i (f + off)) := rfl
@[simp] theorem elemD_nat {z : Nat} {l : List D} {k : IntKind} {i : Nat} : elemD z (.arr z l) (.v (.int k (i : Int))) = (l[i]?).map D.cells := by simp [elemD]
theorem elemD_int {z : Nat} {l : List D} {k : IntKind} {n : Int} (h : 0 ≤ n) : elemD z (.arr z l) (.v (.int k n)) = (l[n.toNat]?).map D.cells := by simp [elemD, h]
@[simp] theorem refI_nat {z : Nat} {l : List D} {k : IntKind} {i : Nat} : refI z (.arr z l) (.v (.int k (i : Int))) = if i < l.length then some (.ref i 0) else none := by simp [refI]
@[simp] theorem D_cells_agg {l : List D} : (D.agg l).cells = l := rfl
@[simp] theorem D_cells_v {v : Value} : (D.v v).cells = [.v v] := rfl
@[simp] theorem D_cells_arr {z : Nat} {l : List D} : (D.arr z l).cells = [.arr z l] := rfl
@[simp] theorem chkV_v {v : Value} : chkV (.v v) = some (.v v) := rfl
@[simp] theorem chkV_agg {l : List D} : chkV (.agg l) = if l.all isVs = true then some (.agg l) else none := by
  have : (D.agg l).isV = l.all isVs := by
    simp only [D.isV]
    congr 1
  simp [chkV, this]
@[simp] theorem isVs_v {v : Value} : isVs (.v v) = true := rfl
@[simp] theorem isVs_arr {z : Nat} {l : List D} : isVs (.arr z l) = false := rfl
@[simp] theorem single_v {v : Value} : (D.v v).single = true := rfl
@[simp] theorem single_arr {z : Nat} {l : List D} : (D.arr z l).single = true := rfl
@[simp] theorem width_agg {l : List D} : (D.agg l).width = l.length := rfl
@[simp] theorem width_v {v : Value} : (D.v v).width = 1 := rfl
@[simp] theorem width_arr {z : Nat} {l : List D} : (D.arr z l).width = 1 := rfl
@[simp] theorem boxD_eq {n : Nat} {x : D} : boxD n x = if x.cells.length = n ∧ x.cells.all D.single = true then some (.agg x.cells) else none := rfl
@[simp] theorem stD_agg {n i f : Nat} {l : List D} {x : D} : stD n (.agg l) (.ref i f) x = if x.cells.length = n ∧ f + n ≤ l.length ∧ x.cells.all D.single = true then some (.agg (putCells l f x.cells)) else none := rfl
@[simp] theorem putCells_eq {l : List D} {f : Nat} {vs : List D} : putCells l f vs = l.take f ++ vs ++ l.drop (f + vs.length) := rfl
@[simp] theorem tupAt_tup {l : List D} {i : Nat} : tupAt (.tup l) i = match l[i]? with
    | some .bad => none
    | some (.tup _) => none
    | r => r := rfl
@[simp] theorem tupCut_tup {l : List D} {i : Nat} : tupCut (.tup l) i = .tup (l.set i .bad) := rfl
@[simp] theorem ref0_eq {x : D} : ref0 (.ref 0 0) x = some x := rfl
@[simp] theorem appD_eq {z eb : Nat} {l m : List D} : appD z eb (.arr z l) (.arr z m) = if (l.length + m.length) * eb ≤ 140737488355328 ∧ l.length + m.length ≤ 1152921504606846976 then some (.arr z (l ++ m)) else none := by simp [appD]

@[simp] theorem elemD_nat1 {z : Nat} {l : List D} {k : IntKind} {i : Nat} : elemD z (.arr z l) (.v (.int k ((i : Int) + 1))) = (l[i + 1]?).map D.cells := elemD_nat (i := i + 1)
@[simp] theorem elemD_zero {z : Nat} {l : List D} {k : IntKind} : elemD z (.arr z l) (.v (.int k 0)) = (l[0]?).map D.cells := elemD_nat (i := 0)
@[simp] theorem makD_nat {z eb : Nat} {x : D} {k k' : IntKind} {n m : Nat} : makD z eb x (.v (.int k (n : Int))) (.v (.int k' (m : Int))) = if n ≤ m ∧ m * eb ≤ 140737488355328 ∧ m ≤ 140737488355328 then some (.arr z (List.replicate n x)) else none := by
  have h : ((n : Int) ≤ m ∧ (m : Int) * (eb : Int) ≤ 140737488355328 ∧ (m : Int) ≤ 140737488355328) ↔ (n ≤ m ∧ m * eb ≤ 140737488355328 ∧ m ≤ 140737488355328) := by
    rw [← Int.natCast_mul]
    omega
  simp only [makD, Int.natCast_nonneg, true_and, h, Int.toNat_natCast]

/-- An element of an owned slice that is written whole. -/
theorem stD_arr {n z i : Nat} {L c v : List D} (h : L[i]? = some (.agg c)) (hc : c.length = n) (hv : v.length = n) (hs : v.all D.single = true) : stD n (.arr z L) (.ref i 0) (.agg v) = some (.arr z (L.set i (.agg v))) := by
  have e : (D.agg c).ofCells (putCells c 0 v) = .agg v := by
    simp only [D.ofCells, putCells, List.take_zero, List.nil_append, Nat.zero_add, hv, ← hc, List.drop_length, List.append_nil]
  have h2 : (D.agg v).cells = v := rfl
  simp only [stD, h, h2, e, width_agg, hc, hv, hs, Nat.zero_add, Nat.le_refl, and_self, if_true, D_cells_agg]
theorem stD_arr1 {z i : Nat} {L : List D} {v w : Value} (h : L[i]? = some (.v w)) : stD 1 (.arr z L) (.ref i 0) (.v v) = some (.arr z (L.set i (.v v))) := by
  simp [stD, h, D.ofCells]

/-- A list that is filled from the left. -/
def fillL {β : Type} (f : β → D) (z : D) (l : List β) (i : Nat) : List D := (l.take i).map f ++ List.replicate (l.length - i) z
section
variable {β : Type} {f : β → D} {z : D} {l : List β} {i : Nat}
theorem fillL_zero : List.replicate l.length z = fillL f z l 0 := by simp [fillL]
theorem fillL_full : fillL f z l l.length = l.map f := by simp [fillL]
@[simp] theorem fillL_length (h : i ≤ l.length) : (fillL f z l i).length = l.length := by simp [fillL]; omega
theorem fillL_get (h : i < l.length) : (fillL f z l i)[i]? = some z := by
  rw [fillL, List.getElem?_append_right (by simp; omega)]
  simp [List.getElem?_replicate]
  omega
theorem fillL_set {x : β} (h : l[i]? = some x) : (fillL f z l i).set i (f x) = fillL f z l (i + 1) := by
  have hi : i < l.length := (List.getElem?_eq_some_iff.1 h).1
  have hx : l[i] = x := (List.getElem?_eq_some_iff.1 h).2
  obtain ⟨m, hm⟩ : ∃ m, l.length - i = m + 1 := ⟨l.length - i - 1, by omega⟩
  rw [fillL, fillL, hm, show l.length - (i + 1) = m from by omega, List.replicate_succ, List.set_append_right _ _ (by simp; omega)]
  have : i - (List.map f (l.take i)).length = 0 := by simp; omega
  rw [this, List.set_cons_zero, List.take_succ_eq_append_getElem hi, List.map_append, hx]
  simp
end

/-- Some cells of an element of an owned slice are written. -/
theorem stD_part {z i f : Nat} {L c : List D} {v : Value} (h : L[i]? = some (.agg c)) (hf : f < c.length) : stD 1 (.arr z L) (.ref i f) (.v v) = some (.arr z (L.set i (.agg (putCells c f [.v v])))) := by
  have h2 : (D.v v).cells = [.v v] := rfl
  have h3 : f + 1 ≤ c.length := hf
  simp [stD, h, h2, h3, D.ofCells]

/-- A list that is marked from the left. -/
def markL {β : Type} (g : Nat → D) (f : β → D) (l : List β) (i : Nat) : List D := (List.range i).map g ++ (l.drop i).map f
section
variable {β : Type} {g : Nat → D} {f : β → D} {l : List β} {i : Nat}
theorem markL_zero : l.map f = markL g f l 0 := by simp [markL]
theorem markL_full : markL g f l l.length = (List.range l.length).map g := by simp [markL]
@[simp] theorem markL_length (h : i ≤ l.length) : (markL g f l i).length = l.length := by simp [markL]; omega
theorem markL_get (h : i < l.length) : (markL g f l i)[i]? = some (f l[i]) := by
  rw [markL, List.getElem?_append_right (by simp)]
  simp [h]
theorem markL_set (h : i < l.length) : (markL g f l i).set i (g i) = markL g f l (i + 1) := by
  rw [markL, markL, List.drop_eq_getElem_cons h, List.set_append_right _ _ (by simp), List.map_cons, List.length_map, List.length_range, Nat.sub_self, List.set_cons_zero, List.range_succ, List.map_append]
  simp
end

theorem mkArr_nil {z : Nat} : mkArr z [] = some (.arr z []) := rfl
@[simp] theorem chkA_map {β : Type} {z : Nat} {l : List β} {f : β → D} (h : ∀ x, (f x).isV = true) : chkA (.arr z (l.map f)) = some (.arr z (l.map f)) := by
  have : (l.map f).all D.isV = true := by simp [h]
  simp only [chkA, this, if_true]
theorem sliceD_nat {z i j : Nat} {l : List D} {k k' : IntKind} (h1 : i ≤ j) (h2 : j ≤ l.length) : sliceD false z (.arr z l) (.v (.int k (i : Int))) (.v (.int k' (j : Int))) = some (.arr z ((l.take j).drop i)) := by
  simp only [sliceD, Int.toNat_natCast, true_and]
  rw [if_pos]
  omega
theorem sliceHi_nat {z i : Nat} {l : List D} {k : IntKind} (h : i ≤ l.length) : sliceHi false z (.arr z l) (.v (.int k (i : Int))) = some (.arr z (l.drop i)) := by
  simp only [sliceHi, Int.toNat_natCast, true_and]
  rw [if_pos]
  omega
theorem wrap_neg {a b : Int} : IntKind.i64.wrap (a + IntKind.i64.wrap (-b)) = IntKind.i64.wrap (a - b) := by
  simp only [IntKind.wrap_i64]
  omega
@[simp] theorem ite_B {p : Prop} [Decidable p] {a b : Bool} : (if p then D.v (.bool a) else D.v (.bool b)) = D.v (.bool (if p then a else b)) := by split <;> rfl

/-! ### loops -/
theorem iter_mono {body : List D → Option Out} : ∀ (n : Nat) (s : List D) (o : Out), iter body n s = some o → ∀ m, n ≤ m → iter body m s = some o
  | 0, _, _, h, _, _ => by simp [iter] at h
  | n + 1, s, o, h, m, hm => by
    obtain ⟨m, rfl⟩ : ∃ q, m = q + 1 := ⟨m - 1, by omega⟩
    simp only [iter] at h ⊢
    split at h
    · rename_i s' hb
      exact iter_mono n s' o h m (by omega)
    · exact h

theorem loopC_of {body : List D → Option Out} {s : List D} {o : Out} (n : Nat) (h : iter body n s = some o) : loopC body s = some o := by
  have hex : ∃ n, (iter body n s).isSome = true := ⟨n, by rw [h]; rfl⟩
  unfold loopC
  rw [dif_pos hex]
  obtain ⟨o', ho⟩ := Option.isSome_iff_exists.1 (Classical.choose_spec hex)
  rw [ho]
  have h1 := iter_mono _ _ _ ho (max n (Classical.choose hex)) (by omega)
  have h2 := iter_mono _ _ _ h (max n (Classical.choose hex)) (by omega)
  rw [h1] at h2
  exact h2

/-- A loop that comes to an end in some number of rounds. -/
inductive Runs (body : List D → Option Out) : List D → Out → Prop where
  | ext {s : List D} {i : Nat} {δ : List D} : body s = some (.ext i δ) → Runs body s (.ext i δ)
  | ret {s : List D} {rs us : List D} : body s = some (.ret rs us) → Runs body s (.ret rs us)
  | nrm {s s' : List D} {o : Out} : body s = some (.nrm s') → Runs body s' o → Runs body s o

theorem Runs.iter {body : List D → Option Out} {s : List D} {o : Out} (h : Runs body s o) : ∃ n, V.iter body n s = some o := by
  induction h with
  | ext h => exact ⟨1, by simp [V.iter, h]⟩
  | ret h => exact ⟨1, by simp [V.iter, h]⟩
  | nrm h _ ih =>
    obtain ⟨n, hn⟩ := ih
    exact ⟨n + 1, by simp [V.iter, h, hn]⟩
theorem Runs.loop {body : List D → Option Out} {s : List D} {o : Out} (h : Runs body s o) : loopC body s = some o := by
  obtain ⟨n, hn⟩ := h.iter
  exact loopC_of n hn

/-- A loop over a list; the state is a function of the place and of what is gathered. -/
def goL {α β : Type} (g : Nat → β → α → α ⊕ Out) (fin : α → Out) : Nat → List β → α → Out
  | _, [], a => fin a
  | i, x :: l, a => match g i x a with
    | .inl a' => goL g fin (i + 1) l a'
    | .inr o => o
def Out.ends : Out → Bool
  | .nrm _ => false
  | _ => true
theorem Runs.one {body : List D → Option Out} {s : List D} {o : Out} (h : body s = some o) (ho : o.ends = true) : Runs body s o := by
  cases o with
  | nrm _ => simp [Out.ends] at ho
  | ext _ _ => exact .ext h
  | ret _ _ => exact .ret h

theorem Runs.list {α β : Type} {body : List D → Option Out} (l : List β) (st : Nat → α → List D) (Inv : Nat → α → Prop) (g : Nat → β → α → α ⊕ Out) (fin : α → Out)
    (hs : ∀ i x a, l[i]? = some x → Inv i a → match g i x a with
      | .inl a' => body (st i a) = some (.nrm (st (i + 1) a')) ∧ Inv (i + 1) a'
      | .inr o => body (st i a) = some o ∧ o.ends = true)
    (he : ∀ a, Inv l.length a → body (st l.length a) = some (fin a) ∧ (fin a).ends = true) (a : α) (h0 : Inv 0 a) : Runs body (st 0 a) (goL g fin 0 l a) := by
  have key : ∀ (n i : Nat) (a : α), i + n = l.length → Inv i a → Runs body (st i a) (goL g fin i (l.drop i) a) := by
    intro n
    induction n with
    | zero =>
      intro i a hi hI
      have : i = l.length := by omega
      subst this
      rw [List.drop_length]
      exact Runs.one (he a hI).1 (he a hI).2
    | succ n ih =>
      intro i a hi hI
      have hlt : i < l.length := by omega
      rw [List.drop_eq_getElem_cons hlt]
      have h := hs i l[i] a (List.getElem?_eq_getElem hlt) hI
      simp only [goL]
      split at h
      · exact .nrm h.1 (ih (i + 1) _ (by omega) h.2)
      · exact Runs.one h.1 h.2
  simpa using key l.length 0 a (by omega) h0

theorem loop_list {α β : Type} {body : List D → Option Out} (l : List β) (st : Nat → α → List D) (Inv : Nat → α → Prop) (g : Nat → β → α → α ⊕ Out) (fin : α → Out)
    (hs : ∀ i x a, l[i]? = some x → Inv i a → match g i x a with
      | .inl a' => body (st i a) = some (.nrm (st (i + 1) a')) ∧ Inv (i + 1) a'
      | .inr o => body (st i a) = some o ∧ o.ends = true)
    (he : ∀ a, Inv l.length a → body (st l.length a) = some (fin a) ∧ (fin a).ends = true) (a : α) (h0 : Inv 0 a) {s0 : List D} (h : s0 = st 0 a) : loopC body s0 = some (goL g fin 0 l a) := by
  rw [h]
  exact (Runs.list l st Inv g fin hs he a h0).loop

/-- A loop whose state at each round is known: n rounds, then the end. -/
theorem loop_for {body : List D → Option Out} (n : Nat) (st : Nat → List D) (o : Out) (hs : ∀ i, i < n → body (st i) = some (.nrm (st (i + 1)))) (he : body (st n) = some o) (ho : o.ends = true) {s0 : List D} (h : s0 = st 0) : loopC body s0 = some o := by
  rw [h]
  have key : ∀ (m i : Nat), i + m = n → Runs body (st i) o := by
    intro m
    induction m with
    | zero =>
      intro i hi
      have : i = n := by omega
      subst this
      exact Runs.one he ho
    | succ m ih => exact fun i hi => .nrm (hs i (by omega)) (ih (i + 1) (by omega))
  exact (key n 0 (by omega)).loop

/-- A loop that goes over a list as long as all is well. -/
def allI {β : Type} (p : Nat → β → Bool) : Nat → List β → Bool
  | _, [] => true
  | i, x :: l => p i x && allI p (i + 1) l
theorem loop_all {β : Type} {body : List D → Option Out} (l : List β) (st : Nat → List D) (p : Nat → β → Bool) (o1 o2 : Out) (hs : ∀ (i : Nat) (hi : i < l.length), body (st i) = some (if p i l[i] = true then .nrm (st (i + 1)) else o1)) (he : body (st l.length) = some o2)
    (h1 : o1.ends = true) (h2 : o2.ends = true) {s0 : List D} (h : s0 = st 0) : loopC body s0 = some (if allI p 0 l = true then o2 else o1) := by
  have e : ∀ (m : List β) (i : Nat), goL (fun i x (_ : Unit) => if p i x = true then .inl () else .inr o1) (fun _ => o2) i m () = if allI p i m = true then o2 else o1 := by
    intro m
    induction m with
    | nil => intro i; simp [goL, allI]
    | cons x m ih =>
      intro i
      simp only [goL, allI]
      by_cases hp : p i x = true
      · simp [hp, ih]
      · simp [hp]
  rw [← e]
  refine loop_list l (fun i _ => st i) (fun _ _ => True) _ _ (fun i x a hx _ => ?_) (fun _ _ => ⟨he, h2⟩) () trivial h
  have hi : i < l.length := (List.getElem?_eq_some_iff.1 hx).1
  have hxe : l[i] = x := (List.getElem?_eq_some_iff.1 hx).2
  have := hs i hi
  rw [hxe] at this
  by_cases hp : p i x = true
  · simpa [hp] using this
  · simpa [hp, h1] using this

/-- A loop that gathers over a list. -/
theorem loop_foldl {α β : Type} {body : List D → Option Out} (l : List β) (st : Nat → α → List D) (f : α → β → α) (fin : α → Out) (a : α) (hs : ∀ (i : Nat) (a : α) (hi : i < l.length), body (st i a) = some (.nrm (st (i + 1) (f a l[i])))) (he : ∀ a, body (st l.length a) = some (fin a))
    (h1 : ∀ a, (fin a).ends = true) {s0 : List D} (h : s0 = st 0 a) : loopC body s0 = some (fin (l.foldl f a)) := by
  have e : ∀ (m : List β) (i : Nat) (a : α), goL (fun _ x a => .inl (f a x)) fin i m a = fin (m.foldl f a) := by
    intro m
    induction m with
    | nil => intro i a; rfl
    | cons x m ih => intro i a; simp only [goL, List.foldl_cons]; exact ih (i + 1) (f a x)
  rw [← e l 0 a]
  exact loop_list l st (fun _ _ => True) (fun _ x a => .inl (f a x)) _ (fun i x a hx _ => ⟨by
    have hi : i < l.length := (List.getElem?_eq_some_iff.1 hx).1
    have hxe : l[i] = x := (List.getElem?_eq_some_iff.1 hx).2
    rw [← hxe]
    exact hs i a hi, trivial⟩) (fun a _ => ⟨he a, h1 a⟩) a trivial h

/-- A loop that gathers over a list, and looks at the place too. -/
def foldI {α β : Type} (f : Nat → α → β → α) : Nat → List β → α → α
  | _, [], a => a
  | i, x :: l, a => foldI f (i + 1) l (f i a x)
theorem loop_foldi {α β : Type} {body : List D → Option Out} (l : List β) (st : Nat → α → List D) (Inv : Nat → α → Prop) (f : Nat → α → β → α) (fin : α → Out) (a : α) (hs : ∀ (i : Nat) (a : α) (hi : i < l.length), Inv i a → body (st i a) = some (.nrm (st (i + 1) (f i a l[i]))) ∧ Inv (i + 1) (f i a l[i]))
    (he : ∀ a, Inv l.length a → body (st l.length a) = some (fin a)) (h1 : ∀ a, (fin a).ends = true) (h0 : Inv 0 a) {s0 : List D} (h : s0 = st 0 a) : loopC body s0 = some (fin (foldI f 0 l a)) := by
  have e : ∀ (m : List β) (i : Nat) (a : α), goL (fun i x a => .inl (f i a x)) fin i m a = fin (foldI f i m a) := by
    intro m
    induction m with
    | nil => intro i a; rfl
    | cons x m ih => intro i a; simp only [goL, foldI]; exact ih (i + 1) (f i a x)
  rw [← e l 0 a]
  refine loop_list l st Inv (fun i x a => .inl (f i a x)) _ (fun i x a hx hI => ?_) (fun a hI => ⟨he a hI, h1 a⟩) a h0 h
  have hi : i < l.length := (List.getElem?_eq_some_iff.1 hx).1
  have hxe : l[i] = x := (List.getElem?_eq_some_iff.1 hx).2
  rw [← hxe]
  exact hs i a hi hI

theorem loop_bind {body : List D → Option Out} {s0 : List D} {K : Out → Option Out} {r : Option Out} (o : Out) (h : loopC body s0 = some o) (hk : K o = r) : (loopC body s0).bind K = r := by
  rw [h]
  exact hk

/-- A loop whose measure falls. -/
theorem loop_wf {α : Type} {body : List D → Option Out} (st : α → List D) (Inv : α → Prop) (μ : α → Nat) (Q : α → Out → Prop)
    (hs : ∀ a, Inv a → (∃ a', body (st a) = some (.nrm (st a')) ∧ Inv a' ∧ μ a' < μ a ∧ ∀ o, Q a' o → Q a o) ∨ ∃ o, body (st a) = some o ∧ o.ends = true ∧ Q a o) (a : α) (h : Inv a) {s0 : List D} (h0 : s0 = st a) : ∃ o, loopC body s0 = some o ∧ Q a o := by
  rw [h0]
  have key : ∀ (n : Nat) (a : α), μ a < n → Inv a → ∃ o, Runs body (st a) o ∧ Q a o := by
    intro n
    induction n with
    | zero => exact fun a h => by omega
    | succ n ih =>
      intro a hn hI
      rcases hs a hI with ⟨a', h1, h2, h3, h4⟩ | ⟨o, h1, h2, h3⟩
      · obtain ⟨o, h5, h6⟩ := ih a' (by omega) h2
        exact ⟨o, .nrm h1 h5, h4 o h6⟩
      · exact ⟨o, Runs.one h1 h2, h3⟩
  obtain ⟨o, h1, h2⟩ := key (μ a + 1) a (by omega) h
  exact ⟨o, h1.loop, h2⟩

theorem loop_wf_bind {α : Type} {body : List D → Option Out} {K : Out → Option Out} (R : Option Out → Prop) (st : α → List D) (Inv : α → Prop) (μ : α → Nat) (Q : Out → Prop)
    (hs : ∀ a, Inv a → (∃ a', body (st a) = some (.nrm (st a')) ∧ Inv a' ∧ μ a' < μ a) ∨ ∃ o, body (st a) = some o ∧ o.ends = true ∧ Q o) (a : α) (h : Inv a) {s0 : List D} (h0 : s0 = st a) (hk : ∀ o, Q o → R (K o)) : R ((loopC body s0).bind K) := by
  obtain ⟨o, h1, h2⟩ := loop_wf st Inv μ (fun _ o => Q o) (fun a ha => by
    rcases hs a ha with ⟨a', g1, g2, g3⟩ | h
    · exact .inl ⟨a', g1, g2, g3, fun _ h => h⟩
    · exact .inr h) a h h0
  rw [h1]
  exact hk o h2

end Go.V
/-
  The evaluator with joins: what stands behind a choice is evaluated once.
-/
namespace Go.V
open Go.RowKit

/-- What stands behind a choice, said once (not unfolded). -/
def joinC (f : (List D → Option Out) → Option Out) (k : List D → Option Out) : Option Out := f k

@[reducible] noncomputable def denJ (c : Cx) (J : List (Nat × List Nat)) : Nat → Nat → Code → List D → (Out → Option Out) → Option Out
  | _, _, .skip, δ, k => k (.nrm δ)
  | _, _, .region _ ops _, δ, k => runOps c ops.toList ops.toList δ fun δ' => k (.nrm δ')
  | p, bid, .seq a b, δ, k => match look J p with
    | none => denJ c J (Nat.mul 2 p) bid a δ fun o => seqK o (fun δ' => denJ c J (Nat.add (Nat.mul 2 p) 1) bid b δ' k) k
    | some hl => joinC (fun j => denJ c J (Nat.mul 2 p) bid a δ fun o => seqK o (fun δ' => getC δ' hl fun s => j s) k) (fun s => expandC (lenN c.K) hl s fun δ' => denJ c J (Nat.add (Nat.mul 2 p) 1) bid b δ' k)
  | p, bid, .cond x t e, δ, k => opC δ x fun q => ifD q (denJ c J (Nat.mul 2 p) bid t δ k) (denJ c J (Nat.add (Nat.mul 2 p) 1) bid e δ k)
  | p, _, .block id b, δ, k => denJ c J (Nat.mul 2 p) id b δ fun o => blkK id o k
  | p, bid, .loop b, δ, k => match look c.H bid with
    | none => none
    | some (hl, xl) =>
      getC δ hl fun s => (loopC (fun s => expandC (lenN c.K) hl s fun δ => denJ c J (Nat.mul 2 p) bid b δ (shrinkK hl xl)) s).bind fun o =>
        outK o (fun i s => expandC (lenN c.K) xl s fun δ => k (.ext i δ)) (fun a b => k (.ret a b))
  | _, _, .exit id, δ, k => k (.ext id δ)
  | _, _, .ret, δ, k => resC c δ c.res fun rs => getC δ c.ios fun us => usK us (k (.ret rs us))
  | _, _, _, _, _ => none

/-- A whole function. -/
@[reducible] noncomputable def denFJ (c : Cx) (J : List (Nat × List Nat)) (fn : Func) (ds : List D) : Option Out :=
  match fn.body with
  | none => none
  | some b => denJ c J 1 0 b (padTo fn.ntmps ds) fun o => match o with
    | .nrm δ => resC c δ c.res fun rs => getC δ c.ios fun us => usK us (some (.ret rs us))
    | .ext _ _ => none
    | .ret rs us => some (.ret rs us)

def okJ (c : Cx) (J : List (Nat × List Nat)) : Bool := J.all fun p => okLive c.K p.2
theorem okJ_at {c : Cx} : ∀ {J : List (Nat × List Nat)} {p : Nat} {hl : List Nat}, okJ c J = true → look J p = some hl → okLive c.K hl = true
  | [], _, _, _, h => by cases h
  | (q, l) :: J, p, hl, hJ, h => by
    unfold okJ at hJ
    rw [List.all_cons, Bool.and_eq_true] at hJ
    simp only [look] at h
    split at h
    · cases h
      exact hJ.1
    · exact okJ_at (J := J) hJ.2 h

section
variable {P : Program} {c : Cx} {B : Nat} {X : Nat → Prop} {w0 : World} {F0 F : Nat → Prop} {O : Nat → Option (Nat × Nat)} {a : Act} {w : World} {δ : List D}

theorem loop_roundsJ {V : Nat → Value} {J : List (Nat × List Nat)} {p : Nat} {b : Code} {bid : Nat} {hl xl : List Nat} (h1 : okLive c.K hl = true) (h2 : okLive c.K xl = true)
    (ih : ∀ (F : Nat → Prop) (O : Nat → Option (Nat × Nat)) (a : Act) (w : World) (δ : List D), Inv c B X w0 F0 F O a w δ → IoV c V a → ∀ (k : Out → Option Out) (r : Out), denJ c J p bid b δ k = some r → ∀ Q, (∀ e a w, Post c B X w0 F0 V k r e a w → Q e a w) → b.wp P Q a w)
    {k : Out → Option Out} {r : Out} {Q : Exit → Act → World → Prop} (hQ : ∀ e a w, Post c B X w0 F0 V k r e a w → Q e a w) {o : Out}
    (ho : outK o (fun i s => expandC (lenN c.K) xl s fun δ => k (.ext i δ)) (fun x y => k (.ret x y)) = some r) : ∀ (n : Nat) (F : Nat → Prop) (O : Nat → Option (Nat × Nat)) (a : Act) (w : World) (δ : List D), Inv c B X w0 F0 F O a w δ → IoV c V a →
    iter (fun s => expandC (lenN c.K) hl s fun δ => denJ c J p bid b δ (shrinkK hl xl)) n (getAll δ hl) = some o → Code.rounds P b Q n a w
  | 0, _, _, _, _, _, _, _, h => by cases h
  | n + 1, F, O, a, w, δ, hI, hV, h => by
    simp only [iter, expandC_eq] at h
    rw [rounds_succ]
    have hI' := hI.carry h1
    cases hb : denJ c J p bid b (carry (lenN c.K) hl δ) (shrinkK hl xl) with
    | none => rw [hb] at h; cases h
    | some ob =>
      rw [hb] at h
      refine ih F O a w _ hI' hV _ ob hb _ (fun e a' w' hp => ?_)
      cases ob with
      | nrm s' =>
        simp only at h
        cases e with
        | normal =>
          obtain ⟨⟨F', O', δ', g1, g2⟩, g3⟩ := hp
          simp only [shrinkK, getC_eq, Option.some.injEq, Out.nrm.injEq] at g2
          rw [← g2] at h
          exact loop_roundsJ h1 h2 ih hQ ho n F' O' a' w' δ' g1 g3 h
        | exit i =>
          obtain ⟨⟨F', O', δ', g1, g2⟩, g3⟩ := hp
          simp [shrinkK, getC_eq] at g2
        | ret =>
          obtain ⟨⟨F', O', δ', g1, g2⟩, g3⟩ := hp
          obtain ⟨rs, _, _, g4⟩ := retK_is g2
          simp [shrinkK] at g4
        | _ => exact hp.elim
      | ext i l =>
        simp only [Option.some.injEq] at h
        subst h
        cases e with
        | normal =>
          obtain ⟨⟨F', O', δ', g1, g2⟩, g3⟩ := hp
          simp [shrinkK, getC_eq] at g2
        | exit j =>
          obtain ⟨⟨F', O', δ', g1, g2⟩, g3⟩ := hp
          simp only [shrinkK, getC_eq, Option.some.injEq, Out.ext.injEq] at g2
          obtain ⟨rfl, rfl⟩ := g2
          simp only [outK, expandC_eq] at ho
          exact hQ (.exit j) _ _ ⟨⟨F', O', _, g1.carry h2, ho⟩, g3⟩
        | ret =>
          obtain ⟨⟨F', O', δ', g1, g2⟩, g3⟩ := hp
          obtain ⟨rs, _, _, g4⟩ := retK_is g2
          simp [shrinkK] at g4
        | _ => exact hp.elim
      | ret x y =>
        simp only [Option.some.injEq] at h
        subst h
        cases e with
        | normal =>
          obtain ⟨⟨F', O', δ', g1, g2⟩, g3⟩ := hp
          simp [shrinkK, getC_eq] at g2
        | exit j =>
          obtain ⟨⟨F', O', δ', g1, g2⟩, g3⟩ := hp
          simp [shrinkK, getC_eq] at g2
        | ret =>
          obtain ⟨⟨F', O', δ', g1, g2⟩, g3⟩ := hp
          obtain ⟨rs, g5, g6, g4⟩ := retK_is g2
          simp only [shrinkK, Option.some.injEq, Out.ret.injEq] at g4
          obtain ⟨rfl, rfl⟩ := g4
          exact hQ .ret _ _ ⟨⟨F', O', δ', g1, retK_of g5 g6 ho⟩, g3⟩
        | _ => exact hp.elim

theorem denJ_sound (hT : okT P c.T = true) (hS : ∀ f S, look c.S f = some S → Meets c.G P f S) (hm : P.follows .mixedOrders = true) {V : Nat → Value} {J : List (Nat × List Nat)} (hJ : okJ c J = true) : ∀ (b : Code) (p bid : Nat), okCode c bid b = true → ∀ (F : Nat → Prop) (O : Nat → Option (Nat × Nat)) (a : Act) (w : World) (δ : List D),
    Inv c B X w0 F0 F O a w δ → IoV c V a → ∀ (k : Out → Option Out) (r : Out), denJ c J p bid b δ k = some r → ∀ Q, (∀ e a w, Post c B X w0 F0 V k r e a w → Q e a w) → b.wp P Q a w
  | .skip, p, bid, _, F, O, a, w, δ, hI, hV, k, r, hg, Q, hQ => wp_skip (hQ _ _ _ ⟨⟨F, O, δ, hI, hg⟩, hV⟩)
  | .region id ops d, p, bid, hok, F, O, a, w, δ, hI, hV, k, r, hg, Q, hQ => by
    simp only [okCode, Bool.and_eq_true, List.all_eq_true] at hok
    have hq : ∀ a w, NextV c B X w0 F0 V (fun δ => k (.nrm δ)) r a w → Q .normal a w := fun a w h => hQ _ _ _ h
    cases d
    · exact wp_region_list (list_sound hT hS hq ops.toList hok.1 F O a w δ hI hV hg)
    · exact any_sound hT hS (by simpa using hok.2) hm hq hok.1 hI hV hg id
  | .seq x y, p, bid, hok, F, O, a, w, δ, hI, hV, k, r, hg, Q, hQ => by
    simp only [okCode, Bool.and_eq_true] at hok
    simp only [denJ] at hg
    cases hH : look J p with
    | none =>
      rw [hH] at hg
      refine wp_seq (denJ_sound hT hS hm hJ x _ bid hok.1 F O a w δ hI hV _ r hg _ (fun e a' w' hp => ?_))
      cases e with
      | normal =>
        obtain ⟨⟨F', O', δ', hI', hk'⟩, hV'⟩ := hp
        exact denJ_sound hT hS hm hJ y _ bid hok.2 F' O' a' w' δ' hI' hV' k r hk' Q hQ
      | exit id => exact hQ _ _ _ hp
      | ret => exact hQ _ _ _ hp
      | _ => exact hp.elim
    | some hl =>
      rw [hH] at hg
      simp only [joinC] at hg
      have hlive := okJ_at hJ hH
      refine wp_seq (denJ_sound hT hS hm hJ x _ bid hok.1 F O a w δ hI hV _ r hg _ (fun e a' w' hp => ?_))
      cases e with
      | normal =>
        obtain ⟨⟨F', O', δ', hI', hk'⟩, hV'⟩ := hp
        simp only [seqK, getC_eq, expandC_eq] at hk'
        exact denJ_sound hT hS hm hJ y _ bid hok.2 F' O' a' w' _ (hI'.carry hlive) hV' k r hk' Q hQ
      | exit id => exact hQ _ _ _ hp
      | ret => exact hQ _ _ _ hp
      | _ => exact hp.elim
  | .cond x t e, p, bid, hok, F, O, a, w, δ, hI, hV, k, r, hg, Q, hQ => by
    simp only [okCode, Bool.and_eq_true] at hok
    obtain ⟨⟨hlv, hok1⟩, hok2⟩ := hok
    have hop := hI.opd (ble_iff.1 hlv)
    have key : ifD (opD δ x) (denJ c J (Nat.mul 2 p) bid t δ k) (denJ c J (Nat.add (Nat.mul 2 p) 1) bid e δ k) = some r := by
      simp only [denJ] at hg
      cases x with
      | tmp s => simpa only [opC, nthC_eq, opD] using hg
      | const v => simpa only [opC, opD] using hg
      | func f => simpa only [opC, opD] using hg
      | global g => simp [opC] at hg
    unfold ifD at key
    split at key
    · rename_i hd
      rw [hd] at hop
      exact wp_cond_true (RepB_v hop).1 (denJ_sound hT hS hm hJ t _ bid hok1 F O a w δ hI hV k r key Q hQ)
    · rename_i hd
      rw [hd] at hop
      exact wp_cond_false (RepB_v hop).1 (denJ_sound hT hS hm hJ e _ bid hok2 F O a w δ hI hV k r key Q hQ)
    · cases key
  | .block id b, p, bid, hok, F, O, a, w, δ, hI, hV, k, r, hg, Q, hQ => by
    simp only [okCode] at hok
    refine wp_block (denJ_sound hT hS hm hJ b _ id hok F O a w δ hI hV _ r hg _ (fun e a' w' hp => ?_))
    cases e with
    | normal => exact hQ .normal _ _ hp
    | exit i =>
      simp only [Exit.inBlock]
      have hp' : NextV c B X w0 F0 V (fun δ => blkK id (.ext i δ) k) r a' w' := hp
      split
      · rename_i hi
        refine hQ .normal _ _ (NextV_mono hp' fun δ F O _ h => ?_)
        simp only [blkK] at h
        rw [beq_iff.2 (by simpa using hi)] at h
        exact h
      · rename_i hi
        refine hQ (.exit i) _ _ (NextV_mono hp' fun δ F O _ h => ?_)
        simp only [blkK] at h
        cases hb : Nat.beq i id
        · rw [hb] at h; exact h
        · exact absurd (by simpa using beq_iff.1 hb) hi
    | ret => exact hQ .ret _ _ hp
    | _ => exact hp.elim
  | .loop b, p, bid, hok, F, O, a, w, δ, hI, hV, k, r, hg, Q, hQ => by
    simp only [okCode, Bool.and_eq_true] at hok
    obtain ⟨hok1, hok2⟩ := hok
    simp only [denJ] at hg
    cases hH : look c.H bid with
    | none => rw [hH] at hg; cases hg
    | some hx =>
      obtain ⟨hl, xl⟩ := hx
      rw [hH] at hg hok2
      simp only [Bool.and_eq_true] at hok2
      simp only [getC_eq] at hg
      obtain ⟨o', h1, h2⟩ := Option.bind_eq_some_iff.1 hg
      unfold loopC at h1
      split at h1
      case isFalse => cases h1
      rename_i hex
      refine wp_loop_rounds (Classical.choose hex) ?_
      refine loop_roundsJ (hl := hl) (xl := xl) hok2.1 hok2.2 (fun F O a w δ hI hV k r hg Q hQ => denJ_sound hT hS hm hJ b _ bid hok1 F O a w δ hI hV k r hg Q hQ) hQ h2 _ F O a w δ hI hV h1
  | .exit id, p, bid, _, F, O, a, w, δ, hI, hV, k, r, hg, Q, hQ => wp_exit (hQ _ _ _ ⟨⟨F, O, δ, hI, hg⟩, hV⟩)
  | .ret, p, bid, _, F, O, a, w, δ, hI, hV, k, r, hg, Q, hQ => wp_ret (hQ _ _ _ ⟨⟨F, O, δ, hI, hg⟩, hV⟩)
  | .label _, _, _, hok, _, _, _, _, _, _, _, _, _, _, _, _ => by simp [okCode] at hok
  | .goto _, _, _, hok, _, _, _, _, _, _, _, _, _, _, _, _ => by simp [okCode] at hok
  | .scope _, _, _, hok, _, _, _, _, _, _, _, _, _, _, _, _ => by simp [okCode] at hok


theorem fn_callsJ (hT : okT P c.T = true) (hS : ∀ f S, look c.S f = some S → Meets c.G P f S) (hm : P.follows .mixedOrders = true) {J : List (Nat × List Nat)} (hJ : okJ c J = true) {f : FuncId} {fn : Func} (hf : P.funcs[f]? = some fn) {pm rm : List Kd} (hok : okFn c fn pm rm = true) (hres : c.res = fn.results.toList)
    {ds rs us : List D} (hd : denFJ c J fn ds = some (.ret rs us)) {args : Array Value} {w : World} {F : Nat → Prop} {ow : Nat → Option Nat} (hgl : gOk c.G w F) (ha : ArgsOk w F ow 0 pm ds args.toList) (hF : ∀ b, F b → b < w.heap.size ∧ ow b = none) (hO : ∀ b i, ow b = some i → b < w.heap.size) :
    Calls P f args w fun e w' => ∃ v, e = .returned v ∧ ∃ F' R vs, v = resV vs ∧ CallPost { pm := pm, rm := rm, f := denFJ c J fn } args rs us w F ow F' R vs w' := by
  unfold okFn at hok
  simp only [Bool.and_eq_true, decide_eq_true_eq] at hok
  obtain ⟨⟨⟨⟨⟨hcode, hlenK⟩, hpre⟩, hpm⟩, hokr⟩, hios⟩ := hok
  rw [beq_iff, lenN_eq] at hlenK
  obtain ⟨hpl, hpn⟩ := prefK_nth hpre
  obtain ⟨hdl, hal, hargs⟩ := ArgsOk_at pm ds args.toList 0 ha
  have hasz : args.size = pm.length := by simpa using hal
  unfold denFJ at hd
  cases hb : fn.body with
  | none => rw [hb] at hd; cases hd
  | some b =>
    rw [hb] at hd hcode
    simp only at hd hcode
    refine calls_of_wp hf hb ?_
    have hav : ∀ s, s < pm.length → av ({ tmps := args ++ Array.replicate (fn.ntmps - args.size) undef, defers := [] } : Act) s = args.toList.getD s undef := fun s hs => by
      have h1 : s < args.size := by omega
      simp only [av, Array.getD_eq_getD_getElem?, List.getD_eq_getElem?_getD, Array.getElem?_toList]
      rw [Array.getElem?_append_left h1]
    have hinit : Inv c w.heap.size (fun b => ow b ≠ none) w F F (fun b => (ow b).map fun i => (i, 0)) { tmps := args ++ Array.replicate (fn.ntmps - args.size) undef, defers := [] } w (padTo fn.ntmps ds) := by
      refine ⟨by simp; omega, by rw [padTo_len, hlenK], rfl, fun s => ?_, fun b hb => ⟨(hF b hb).1, by simp [(hF b hb).2]⟩, fun b p hp => ?_, fun _ h => h, fun _ h => .inl h, Nat.le_refl _, rfl, rfl, rfl, fun _ _ _ => rfl, hgl⟩
      · unfold SlotOk
        rw [padTo_nth _ _ _ (by rw [hdl]; omega)]
        by_cases hs : s < pm.length
        · rw [hpn s hs, hav s hs]
          rcases hargs s hs with hbad | harg
          · exact .inl hbad
          refine .inr ?_
          have hlv : ∀ lv, lv ≠ 1 → ∀ b, FB F 0 lv b → FB F w.heap.size lv b := fun lv h1 b hb => by
            match lv, h1 with
            | 0, _ => exact hb
            | _ + 2, _ => exact hb
          rcases okPm_at hpm s hs with ⟨lv, hk, h1⟩ | ⟨z, lv, hk, h1⟩ | ⟨n, lv, hk, h1⟩
          · rw [hk] at harg ⊢
            exact .inr (RepV_mono (hlv lv h1) (fun _ _ => rfl) harg)
          · rw [hk] at harg ⊢
            exact .inr (OwnV_mono' (hlv lv h1) (fun _ _ => rfl) (fun g _ hg => ⟨⟨by simp only [Nat.zero_add] at hg; simp [hg], fun h => by cases h⟩, rfl⟩) harg)
          · rw [hk] at harg ⊢
            exact .inr (BoxV_mono' (hlv lv h1) (fun _ _ => rfl) (fun g _ hg => ⟨⟨by simp only [Nat.zero_add] at hg; simp [hg], fun h => by cases h⟩, rfl⟩) harg)
        · refine .inl ?_
          rw [nth_eq, List.getD_eq_getElem?_getD, List.getElem?_eq_none (by omega)]
          rfl
      · obtain ⟨i, hi, rfl⟩ := Option.map_eq_some_iff.1 hp
        exact ⟨hO b i hi, .inr (by rw [hi]; simp)⟩
    refine denJ_sound hT hS hm hJ b 1 0 hcode F _ _ w _ hinit (V := av { tmps := args ++ Array.replicate (fn.ntmps - args.size) undef, defers := [] }) (fun _ _ => rfl) _ _ hd _ (fun e a' w' hp => ?_)
    have fin : NextV c w.heap.size (fun b => ow b ≠ none) w F (av { tmps := args ++ Array.replicate (fn.ntmps - args.size) undef, defers := [] }) (fun δ => retK c δ some) (.ret rs us) a' w' → a'.defers = [] ∧ ∃ v, (results fn a'.tmps).run P w' = .ok v w' ∧ ∃ v', Ending.returned v = .returned v' ∧ ∃ F' R vs, v' = resV vs ∧ CallPost { pm := pm, rm := rm, f := denFJ c J fn } args rs us w F ow F' R vs w' := by
      rintro ⟨⟨F', O', δ', hI', hk⟩, hV'⟩
      obtain ⟨rs', h1, h2, h3⟩ := retK_is hk
      simp only [Option.some.injEq, Out.ret.injEq] at h3
      obtain ⟨rfl, rfl⟩ := h3
      obtain ⟨vs, g1, g2, g3, g4⟩ := res_run (P := P) hT hI' c.res rm rs' hokr h1
      refine ⟨hI'.df, resV vs, ?_, _, rfl, F', fun b => if w.heap.size ≤ b then (match O' b with
        | some (t, 0) => resIx c.res t 0
        | _ => none) else none, vs, rfl, ?_⟩
      · have hrun : (fn.results.mapM (getRes a'.tmps)).run P w' = .ok vs.toArray w' := by
          rw [Array.mapM_eq_mapM_toList, ← hres]
          simp [g1]
        have hrw : results fn a'.tmps = (do
            let vs ← fn.results.mapM (getRes a'.tmps)
            pure (if h : vs.size = 1 then vs[0] else .tuple vs)) := by
          unfold results
          congr 1
        rw [hrw]
        simp only [Sem.run_bind, hrun, Result.andThen_ok, Sem.run_pure]
        congr 1
        rcases vs with _ | ⟨y, _ | ⟨y', vs⟩⟩
        · simp [resV]
        · simp [resV]
        · simp [resV]
      · refine ⟨hI'.os, hI'.tape, hI'.output, hI'.bb, fun b hb ho => hI'.keep b hb (by simp [ho]), hI'.f0, fun b hb => ⟨hI'.fn b hb, (hI'.fl b hb).1, by simp only [(hI'.fl b hb).2]; split <;> rfl⟩, fun b j hj => ?_, g2, g3, fun j => ?_, ?_⟩
        · split at hj
          case isFalse => cases hj
          rename_i hB
          refine ⟨hB, ?_⟩
          split at hj
          · rename_i t he; exact (hI'.ol b _ he).1
          · cases hj
        · refine ResOk_mono (fun hk g hg => ?_) (g4 j)
          obtain ⟨z, lv, hk⟩ := hk
          obtain ⟨e1, t, e2, e3⟩ := hg
          rw [if_pos e1]
          simp only [e3]
          have := (resIx_own c.res rm hokr j t 0 z lv hk e2).1
          simpa using this
        · rw [hios]
          refine UsOk_of pm args.toList 0 hal (fun j hj hio => ?_)
          rw [Nat.zero_add]
          have hkj := hpn j hj
          have hbj : nth δ' j ≠ .bad := by
            refine h2 _ ?_
            rw [hios, getAll_map]
            exact List.mem_map_of_mem (by simpa using ioIdx_mem pm 0 j hj hio)
          have havj : av a' j = args.toList.getD j undef := (hV' j (by rw [hkj]; exact hio)).trans (hav j hj)
          have hlv : ∀ lv, lv ≠ 1 → ∀ b, FB F' w.heap.size lv b → FB F' 0 lv b := fun lv h1 b hb => by
            match lv, h1 with
            | 0, _ => exact hb
            | _ + 2, _ => exact hb
          refine ⟨hbj, .inr ?_⟩
          rcases okPm_at hpm j hj with ⟨lv, hk, h1⟩ | ⟨z, lv, hk, h1⟩ | ⟨n, lv, hk, h1⟩
          · rw [hk] at hio; cases hio
          · have h5 := hI'.own (hkj.trans hk) hbj
            rw [havj] at h5
            rw [hk]
            exact OwnV_mono' (hlv lv h1) (fun _ _ => rfl) (fun _ _ _ => ⟨trivial, rfl⟩) h5
          · have h5 := hI'.box (hkj.trans hk) hbj
            rw [havj] at h5
            rw [hk]
            exact BoxV_mono' (hlv lv h1) (fun _ _ => rfl) (fun _ _ _ => ⟨trivial, rfl⟩) h5
    cases e with
    | normal => exact fin hp
    | exit i =>
      obtain ⟨⟨_, _, _, _, h⟩, _⟩ := hp
      cases h
    | ret =>
      refine fin (NextV_mono hp fun δ F O _ h => ?_)
      obtain ⟨rs', h1, h2, h3⟩ := retK_is h
      exact retK_of h1 h2 h3
    | _ => exact hp.elim

theorem meets_ofJ (hT : okT P c.T = true) (hS : ∀ f S, look c.S f = some S → Meets c.G P f S) (hm : P.follows .mixedOrders = true) {J : List (Nat × List Nat)} (hJ : okJ c J = true) {f : FuncId} {fn : Func} (hf : P.funcs[f]? = some fn) (hname : (fn.name == "runtime.NumGoroutine") = false) {pm rm : List Kd} (hok : okFn c fn pm rm = true) (hres : c.res = fn.results.toList) :
    Meets c.G P f { pm := pm, rm := rm, f := denFJ c J fn } := by
  intro ds rs us hd args w F ow hgl ha hF hO o a next Q hn
  have hbody : ∃ b, fn.body = some b := by
    have hd' : denFJ c J fn ds = some (.ret rs us) := hd
    unfold denFJ at hd'
    cases hb : fn.body with
    | none => rw [hb] at hd'; cases hd'
    | some b => exact ⟨b, rfl⟩
  obtain ⟨b, hb⟩ := hbody
  have hrun : (callFunc f args).run P w = .ok (.enter f args) w := by
    have h1 : ¬ fn.name = "runtime.NumGoroutine" := by simpa using hname
    simp [callFunc, hf, h1, hb]
  rw [hrun, Oper.upon_enter]
  refine Calls.mono (fn_callsJ hT hS hm hJ hf hok hres hd hgl ha hF hO) (fun e w' he => ?_)
  obtain ⟨v, rfl, F', R, vs, h1, h2⟩ := he
  exact hn v w' ⟨F', R, vs, h1, h2⟩


end

/-- A join: what is so of all that comes to it is so of the whole. -/
theorem joinC_of {f : (List D → Option Out) → Option Out} {k : List D → Option Out} {r : Option Out} (p : List D → Prop) (hk : ∀ s, p s → k s = r) (hf : ∀ j : List D → Option Out, (∀ s, p s → j s = r) → f j = r) : joinC f k = r := hf k hk
end Go.V
/-
  No facts of the world are asked at a seat whose rows list no variable.
-/
namespace Go.Proofs.Ytdgenchlghojlaa
open Go Go.V
abbrev gl0 : List (Nat × (Obj → Prop)) := []
end Go.Proofs.Ytdgenchlghojlaa
/-
  Contexts and contracts of functions, printed by gen.py.
-/
namespace Go.Proofs.Ytdgenchlghojlaa
open Go.V
set_option maxRecDepth 100000
theorem follows_mixed : Try.prog.follows .mixedOrders = true := by kernel_rfl
@[reducible] def ty3 : TI := { n := 1, zero := [.v (.int .i64 0)], ik := some .i64 }
/-- loop.example/g01054/impl.within -/
@[reducible] noncomputable def c_impl_within : Cx := { K := [.dat 0, .dat 0, .dat 0, .no, .no, .no, .dat 0, .dat 0, .dat 0, .dat 0, .dat 0, .dat 0, .dat 0, .dat 0, .dat 0], T := [(3, ty3)], S := [], H := [], res := [.tmp 6], ios := [], G := gl0 }
noncomputable def F_impl_within : List D → Option Out := denF c_impl_within Try.f76
@[reducible] noncomputable def S_impl_within : FS := { pm := [.dat 0, .dat 0, .dat 0], rm := [.dat 0], f := F_impl_within }
theorem M_impl_within : Meets gl0 Try.prog 76 S_impl_within := meets_of (P := Try.prog) (c := c_impl_within) (fn := Try.f76) (pm := S_impl_within.pm) (rm := S_impl_within.rm) (by kernel_rfl) lookNil follows_mixed Try.func76 (by kernel_rfl) (by kernel_rfl) rfl
end Go.Proofs.Ytdgenchlghojlaa
/-
  What the functions compute: their evaluated texts, printed.
-/
namespace Go.Proofs.Ytdgenchlghojlaa
open Go Go.V
theorem t_impl_within (x0 x1 x2 : D) : F_impl_within [x0, x1, x2] =
  ((bin BinOp.geq false [] x0 x1).bind fun z => (gate (D.tup []) z true (some x0)).bind fun z_1 => (gate (D.tup []) z true (some x2)).bind fun z_2 => (gate (D.tup []) z true (bin BinOp.leq false [] z_1 z_2)).bind fun z_3 =>
 (pickD z z_3 (D.v (Value.bool false))).bind fun z => some (Out.ret [z] [])) := by kernel_rfl
end Go.Proofs.Ytdgenchlghojlaa
/-
  From contracts of the kit (what a call with given values comes to) to contracts said of data.
-/
namespace Go.V
open Go.RowKit

section
variable {P : Program} {G : List (Nat × (Obj → Prop))}

theorem meets_of_calls {f : FuncId} {S : FS} (he : ∀ args w, (callFunc f args).run P w = .ok (.enter f args) w)
    (h : ∀ ds rs us, S.f ds = some (.ret rs us) → ∀ (args : Array Value) (w : World) (F : Nat → Prop) (ow : Nat → Option Nat), gOk G w F → ArgsOk w F ow 0 S.pm ds args.toList → (∀ b, F b → b < w.heap.size ∧ ow b = none) → (∀ b i, ow b = some i → b < w.heap.size) →
      Calls P f args w fun e w' => ∃ v, e = .returned v ∧ ∃ F' R vs, v = resV vs ∧ CallPost S args rs us w F ow F' R vs w') : Meets G P f S := by
  intro ds rs us hd args w F ow hg ha hF hO o a next Q hn
  rw [he, Oper.upon_enter]
  refine Calls.mono (h ds rs us hd args w F ow hg ha hF hO) (fun e w' hv => ?_)
  obtain ⟨v, rfl, F', R, vs, h1, h2⟩ := hv
  exact hn v w' ⟨F', R, vs, h1, h2⟩

theorem usOk_none {w : World} {F : Nat → Prop} : ∀ (ks : List Kd) (ys : List Value), (ks.all fun k => !isIo k) = true → ks.length = ys.length → UsOk w F ks [] ys
  | [], [], _, _ => trivial
  | k :: ks, y :: ys, h, hl => by
    simp only [List.all_cons, Bool.and_eq_true, Bool.not_eq_true'] at h
    simp only [UsOk, h.1]
    exact usOk_none ks ys h.2 (by simpa using hl)
  | [], _ :: _, _, hl => by cases hl
  | _ :: _, [], _, hl => by cases hl

theorem argsOk_len {w : World} {F : Nat → Prop} {ow : Nat → Option Nat} : ∀ (ks : List Kd) (ds : List D) (ys : List Value) (i : Nat), ArgsOk w F ow i ks ds ys → ds.length = ks.length ∧ ys.length = ks.length
  | [], [], [], _, _ => ⟨rfl, rfl⟩
  | k :: ks, d :: ds, y :: ys, i, h => by
    obtain ⟨h1, h2⟩ := argsOk_len ks ds ys (i + 1) h.2
    exact ⟨by simp [h1], by simp [h2]⟩
  | [], _ :: _, _, _, h => h.elim
  | [], [], _ :: _, _, h => h.elim
  | _ :: _, [], _, _, h => by cases ‹List Value› <;> exact h.elim
  | _ :: _, _ :: _, [], _, h => h.elim

theorem args_one {w : World} {F : Nat → Prop} {ow : Nat → Option Nat} {k : Kd} {ds : List D} {l : List Value} (h : ArgsOk w F ow 0 [k] ds l) : ∃ d y, ds = [d] ∧ l = [y] ∧ ArgOk w F (fun g => ow g = some 0) k d y := by
  match ds, l, h with
  | [d], [y], h => exact ⟨d, y, rfl, rfl, h.1⟩
  | [], l, h => cases l <;> exact h.elim
  | d :: d' :: ds, l, h =>
    match l, h with
    | [], h => exact h.elim
    | [y], h => exact h.2.elim
    | y :: y' :: ys, h => exact h.2.elim
  | [d], [], h => exact h.elim
  | [d], y :: y' :: ys, h => exact h.2.elim

theorem args_two {w : World} {F : Nat → Prop} {ow : Nat → Option Nat} {k k' : Kd} {ds : List D} {l : List Value} (h : ArgsOk w F ow 0 [k, k'] ds l) :
    ∃ d y d' y', ds = [d, d'] ∧ l = [y, y'] ∧ ArgOk w F (fun g => ow g = some 0) k d y ∧ ArgOk w F (fun g => ow g = some 1) k' d' y' := by
  obtain ⟨h1, h2⟩ := argsOk_len _ _ _ _ h
  match ds, l, h1, h2, h with
  | [d, d'], [y, y'], _, _, h => exact ⟨d, y, d', y', rfl, rfl, h.1, h.2.1⟩

theorem argD {w : World} {F own : Nat → Prop} {lv : Nat} {x y : Value} (h : ArgOk w F own (.dat lv) (.v x) y) : y = x ∧ flat x = true := by
  rcases h with h | h
  · cases h
  · exact RepV_v.1 h

/-- What a call leaves that writes nothing that was there. -/
theorem post_own {S : FS} {args : Array Value} {rs : List D} {vs : List Value} {w w' : World} {F : Nat → Prop} {ow : Nat → Option Nat} (R : Nat → Option Nat) (hB : Below w.heap.size w w') (hF : ∀ b, F b → b < w.heap.size ∧ ow b = none)
    (hR : ∀ b j, R b = some j → w.heap.size ≤ b ∧ b < w'.heap.size) (hio : (S.pm.all fun k => !isIo k) = true) (hl : S.pm.length = args.size) (h1 : vs.length = S.rm.length) (h2 : rs.length = S.rm.length)
    (hres : ∀ j, ResOk w' F w.heap.size (fun g => R g = some j) (nthK S.rm j) (nth rs j) (vs.getD j undef)) : CallPost S args rs [] w F ow F R vs w' :=
  ⟨hB.os, hB.tape, hB.output, hB.size, fun b hb _ => hB.block b hb, fun _ h => h, fun b hb => ⟨.inl hb, Nat.lt_of_lt_of_le (hF b hb).1 hB.size, by
    cases h : R b with
    | none => rfl
    | some j => exact absurd (hR b j h).1 (Nat.not_le.2 (hF b hb).1)⟩, hR, h1, h2, hres, usOk_none _ _ hio (by simpa using hl)⟩

/-- Scalars handed back. -/
theorem post_flat {S : FS} {args : Array Value} {w w' : World} {F : Nat → Prop} {ow : Nat → Option Nat} (hB : Below w.heap.size w w') (hF : ∀ b, F b → b < w.heap.size ∧ ow b = none) (hio : (S.pm.all fun k => !isIo k) = true) (hl : S.pm.length = args.size)
    (rs : List D) (vs : List Value) (hrm : S.rm = rs.map fun _ => .dat 0) (hv : vs.length = rs.length) (h : ∀ (j : Nat) (d : D), rs[j]? = some d → ∃ y : Value, vs[j]? = some y ∧ RepV w' (fun _ => False) d y) : CallPost S args rs [] w F ow F (fun _ => none) vs w' := by
  refine post_own _ hB hF (fun b j h => by cases h) hio hl (by rw [hrm, hv]; simp) (by rw [hrm]; simp) (fun j => ?_)
  rw [nth_eq, List.getD_eq_getElem?_getD]
  cases hj : rs[j]? with
  | none => exact .inl rfl
  | some d =>
    obtain ⟨y, h1, h2⟩ := h j d hj
    have hk : nthK S.rm j = .dat 0 := by
      rw [hrm]
      clear hrm h hv h1 h2
      induction rs generalizing j with
      | nil => simp at hj
      | cons r rs ih =>
        cases j with
        | zero => rfl
        | succ j => exact ih j (by simpa using hj)
    refine .inr ?_
    rw [hk, List.getD_eq_getElem?_getD, h1]
    exact RepV_mono (fun b hb => hb.elim) (fun _ _ => rfl) h2

theorem RepL_texts {w : World} {F : Nat → Prop} : ∀ (l : List ByteArray), RepL w F (l.map T) (l.map Value.string)
  | [] => RepL_nil.2 rfl
  | s :: l => RepL_cons.2 ⟨[.string s], l.map Value.string, rfl, by simp only [RepC]; exact ⟨trivial, rfl⟩, RepL_texts l⟩

/-- A new slice of texts handed back. -/
theorem ownV_texts {w' : World} {F own : Nat → Prop} {A c e : Nat} {cur : Array Value} {l : List ByteArray} (hb : w'.heap[A]? = some (.cells cur e (0, 0))) (hc : l.length ≤ c) (hs : c ≤ cur.size) (hl : ∀ (i : Nat) (u : Value), (l.map Value.string)[i]? = some u → cur[i]? = some u) (ho : own A) :
    OwnV w' F own 1 (.arr 1 (l.map T)) (.slice (some ⟨A, 0, none⟩) l.length c) := by
  refine ⟨l.map T, rfl, fun x hx => ?_, .inr ⟨A, 0, c, l.map Value.string, cur, e, by simp, by simpa using hc, hb, by omega, RepL_texts l, fun i u hu => by simpa using hl i u hu, ho⟩⟩
  obtain ⟨s, _, rfl⟩ := List.mem_map.1 hx
  rfl

end
end Go.V
/-
  impl.isDifferent: walked by hand, for it keeps a map.
-/
namespace Go.Proofs.Ytdgenchlghojlaa
open Go Go.V Go.RowKit Go.Maps
set_option linter.unusedSimpArgs false

/-- Are numbers different ones from 0 on, less than n? -/
def difG (n : Int) : List Int → List Int → Bool
  | [], _ => true
  | x :: l, seen => decide (0 ≤ x ∧ x ≤ n - 1) && !(decide (x ∈ seen)) && difG n l (x :: seen)
def inI (x : Int) : Prop := -9223372036854775808 ≤ x ∧ x ≤ 9223372036854775807
instance (x : Int) : Decidable (inI x) := by unfold inI; infer_instance
theorem e_within (a b c : Int) : F_impl_within [I a, I b, I c] = some (.ret [B (decide (b ≤ a ∧ a ≤ c))] []) := by
  rw [t_impl_within]
  by_cases h : b ≤ a <;> simp [h]

/-- A call of a function whose contract is said of data. -/
theorem calls_of_meets' {P : Program} {G : List (Nat × (Obj → Prop))} {f : FuncId} {S : FS} (he : ∀ args w, (callFunc f args).run P w = .ok (.enter f args) w) (hm : Meets G P f S) {ds rs us : List D} (hd : S.f ds = some (.ret rs us)) {args : Array Value} {w : World} {F : Nat → Prop} {ow : Nat → Option Nat}
    (hgl : gOk G w F) (ha : ArgsOk w F ow 0 S.pm ds args.toList) (hF : ∀ b, F b → b < w.heap.size ∧ ow b = none) (hO : ∀ b i, ow b = some i → b < w.heap.size) :
    Calls P f args w fun e w' => ∃ v, e = .returned v ∧ ∃ F' R vs, v = resV vs ∧ CallPost S args rs us w F ow F' R vs w' := by
  have h2 := hm ds rs us hd args w F ow hgl ha hF hO { (default : Oper) with dst := some 0 } { tmps := #[undef], defers := [] } (fun a w' => ∃ F' R vs, a.tmps.getD 0 undef = resV vs ∧ CallPost S args rs us w F ow F' R vs w') (fun _ _ _ => False) (fun v w' h => by
    obtain ⟨F', R, vs, rfl, h⟩ := h
    exact ⟨F', R, vs, by simp [Act.put], h⟩)
  rw [he, Oper.upon_enter] at h2
  refine Calls.mono h2 fun e w' he => ?_
  cases e with
  | returned v =>
    obtain ⟨F', R, vs, h3, h4⟩ := he
    exact ⟨v, rfl, F', R, vs, by simpa [Act.put] using h3, h4⟩
  | panicked c => exact he.elim
  | outgrown => obtain ⟨_, _, h⟩ := he; exact h.elim

/-- A call that hands one scalar back, of a function whose contract is said of data. -/
theorem calls_flat1 {P : Program} {G : List (Nat × (Obj → Prop))} {f : FuncId} {S : FS} (he : ∀ args w, (callFunc f args).run P w = .ok (.enter f args) w) (hm : Meets G P f S) {ds : List D} {y : Value} (f' : List D → Option Out) (hf' : S.f = f') (hd : f' ds = some (.ret [.v y] [])) (hrm : S.rm = [.dat 0]) {args : Array Value} {w : World} {F : Nat → Prop}
    (hgl : gOk G w F) (ha : ArgsOk w F (fun _ => none) 0 S.pm ds args.toList) (hF : ∀ b, F b → b < w.heap.size) : Calls P f args w fun e w' => e = .returned y ∧ Below w.heap.size w w' := by
  refine (calls_of_meets' he hm (hf' ▸ hd) hgl ha (fun b hb => ⟨hF b hb, rfl⟩) (fun b i h => by cases h)).mono ?_
  rintro e w' ⟨v, rfl, F', R, vs, rfl, hpost⟩
  have hl := hpost.len
  rw [hrm] at hl
  obtain ⟨u, rfl⟩ := List.length_eq_one_iff.1 hl
  have h0 := hpost.res 0
  rw [hrm] at h0
  simp only [nthK, nth, List.getD_cons_zero] at h0
  rcases h0 with h0 | h0
  · cases h0
  exact ⟨by rw [resV, (RepV_v.1 h0).1], ⟨hpost.os, hpost.tape, hpost.output, hpost.size, fun b hb => hpost.keep b hb rfl⟩⟩
set_option maxRecDepth 100000 in
theorem call_within (a b c : Int) (w : World) : Calls Try.prog 76 #[.int .i64 a, .int .i64 b, .int .i64 c] w fun e w' => e = .returned (.bool (decide (b ≤ a ∧ a ≤ c))) ∧ Below w.heap.size w w' :=
  calls_flat1 (Go.Proofs.enters_of Try.func76 (by kernel_rfl) rfl) M_impl_within F_impl_within rfl (e_within a b c) rfl (F := fun _ => False) gOk_nil
    (show ArgOk w _ _ (.dat 0) (I a) (.int .i64 a) ∧ ArgOk w _ _ (.dat 0) (I b) (.int .i64 b) ∧ ArgOk w _ _ (.dat 0) (I c) (.int .i64 c) ∧ True from ⟨.inr (RepV_v.2 ⟨rfl, rfl⟩), .inr (RepV_v.2 ⟨rfl, rfl⟩), .inr (RepV_v.2 ⟨rfl, rfl⟩), trivial⟩) (fun b h => h.elim)

/-! ### a set of numbers: map[int]bool -/
section
variable {H : Type} {P : Program} {k : TypeId} {w : World} {b n : Nat} {D : DataW H}
theorem plainElem_bool_inv {e : TypeId} (he : P.underlying e = some .bool) {v : Value} {z : DataW H × List MemPlace} (h : plainElem P e v = some z) : ∃ x, v = .bool x ∧ z = (.lit (.bool x), []) := by
  unfold plainElem at h
  rw [he] at h
  cases v <;> simp at h
  exact ⟨_, rfl, h.symm⟩
theorem lookup_bool {t e : TypeId} (h : w.ownsMap P k (plainElem P e) b n D) (K : Keyed P k) (ht : P.underlying t = some (.map k e)) (he : P.underlying e = some .bool) (hz : (zeroValue e).run P w = .ok (.bool false) w)
    {key : Value} {kl : Lit} (hkey : keyOf P k key = some kl) : ∃ c, (Instr.lookup t (.map (some b)) key false).run P w = .ok (.bool c) w ∧ D.atKey kl (.lit (.bool false)) = .lit (.bool c) := by
  obtain ⟨v, ps, hrun, hv⟩ := h.lookup K ht hz (plainElem_bool he false) hkey
  obtain ⟨c, rfl, hc⟩ := plainElem_bool_inv he hv
  simp only [Prod.mk.injEq] at hc
  exact ⟨c, hrun, hc.1⟩
theorem owns_kept {R : Value → Option (DataW H × List MemPlace)} {w' : World} (h : w.ownsMap P k R b n D) (hB : Below w.heap.size w w') : w'.ownsMap P k R b n D := by
  obtain ⟨es, clock, hb, r⟩ := h
  exact ⟨es, clock, (hB.block b (Array.getElem?_eq_some_iff.1 hb).1).trans hb, r⟩
end
/-- What a set holds. -/
def SetIs (D : DataW Unit) (seen : List Int) : Prop := IsMap D ∧ ∀ x : Int, D.atKey (.int .i64 x) (.lit (.bool false)) = .lit (.bool (decide (x ∈ seen)))
theorem set_nil : SetIs (.map []) [] := ⟨⟨_, rfl⟩, fun x => by simp [DataW.atKey]⟩
theorem set_put {D : DataW Unit} {seen : List Int} (h : SetIs D seen) (x : Int) : SetIs (D.put (.int .i64 x) (.lit (.bool true))) (x :: seen) := by
  refine ⟨?_, fun y => ?_⟩
  · obtain ⟨es, rfl⟩ := h.1
    exact ⟨_, rfl⟩
  · by_cases hy : y = x
    · subst hy
      rw [atKey_put_same h.1 (show WideAt.IsKeyLit (.int .i64 y) from trivial)]
      simp
    · rw [atKey_put_other (by intro e; exact hy (by injection e)), h.2 y]
      simp [hy]

theorem key_law : Keyed Try.prog 3 := int_keyed Try.underlying3
theorem key_ok {x : Int} (h : inI x) : keyOf Try.prog 3 (.int .i64 x) = some (.int .i64 x) := keyOf_int_mk Try.underlying3 (by
  simp only [Lit.wf, Bool.and_eq_true, decide_eq_true_eq]
  exact h)
theorem zero_bool (w : World) : (zeroValue 4).run Try.prog w = .ok (.bool false) w := by kernel_rfl

set_option maxHeartbeats 4000000 in
set_option maxRecDepth 1000000 in
theorem isDifferent_walk (l : List Int) (n : Int) (hin : ∀ x ∈ l, inI x) (hl : l.length ≤ 1048576) (h0 : 0 ≤ n) (hn : n ≤ 1048576) (A : Option Addr) (c : Nat) (w : World)
    (hA : l ≠ [] → ∃ b o, A = some ⟨b, o, none⟩ ∧ b < w.heap.size ∧ ∀ (i : Nat) (x : Int), l[i]? = some x → w.cell? ⟨b, o + i, none⟩ = some (.int .i64 x)) :
    Calls Try.prog 66 #[.slice A l.length c, .int .i64 n] w fun e w' => e = .returned (.bool (difG n l [])) ∧ Below w.heap.size w w' := by
  have hmm := @run_makeMap Try.prog
  go_enter Try.func66, Try.ntmps66
  go_wp2
  go_loopw [11] (fun i wr => ∃ (k : Nat) (seen : List Int) (D : DataW Unit), i = .int .i64 k ∧ k ≤ l.length ∧ difG n (l.drop k) seen = difG n l [] ∧ SetIs D seen ∧ wr.ownsMap Try.prog 3 (plainElem Try.prog 4) w.heap.size k D ∧ Below w.heap.size w wr)
    (fun i _ => l.length - (intOf i).toNat)
  case atStart => exact ⟨0, [], .map [], rfl, Nat.zero_le _, rfl, set_nil, World.ownsMap_made _ _ _ _, (Below.refl _ _).alloc (Nat.le_refl _) _⟩
  case round =>
    obtain ⟨k, seen, D, rfl, hk, hd, hS, hown, hbw⟩ := hrel
    by_cases hp : k < l.length
    · have hpi : (k : Int) < (l.length : Int) := by omega
      obtain ⟨b, o, rfl, hb, hcell⟩ := hA (fun h => by rw [h] at hp; exact absurd hp (Nat.not_lt_zero _))
      have c0 : wr.cell? ⟨b, o + k, none⟩ = some (.int .i64 l[k]) := (World.cell?_of_block (hbw.block b hb)).trans (hcell k _ (List.getElem?_eq_getElem hp))
      have hx := hin l[k] (List.getElem_mem hp)
      have hw1 : IntKind.i64.wrap (n - 1) = n - 1 := wrap_id (by omega) (by omega)
      have hcall := call_within l[k] 0 (n - 1) wr
      go_wp2_with (go_at_call 76; refine hcall.mono ?_)
      rintro e W1 ⟨rfl, b1⟩
      have hown1 := owns_kept hown b1
      have hb1 := hbw.trans (b1.mono hbw.size)
      obtain ⟨c, hrun, hat⟩ := lookup_bool hown1 key_law Try.underlying68 Try.underlying4 (zero_bool W1) (key_ok hx)
      rw [hS.2] at hat
      have hc : decide (l[k] ∈ seen) = c := by injection hat with hat; injection hat
      rw [List.drop_eq_getElem_cons hp] at hd
      simp only [difG] at hd
      by_cases hin : 0 ≤ l[k] ∧ l[k] ≤ n - 1
      · cases c
        · rw [hc] at hd
          simp only [hin, and_self, decide_true, Bool.not_false, Bool.true_and] at hd
          simp only [hin, and_self, decide_true]
          go_wp2_with (first
            | (at_mapUpdate; refine wpList_mapUpdate_own _ rfl _ _ _ 68 rfl 3 4 key_law Try.underlying68 _ w.heap.size k _ rfl hown1 (by unfold maxLen; omega) _ _ _ rfl rfl (key_ok hx) _ [] (plainElem_bool Try.underlying4 true) ?_; intro w2 hown2 hgrow2)
            | go_in)
          refine ⟨⟨k + 1, l[k] :: seen, _, congrArg (Value.int .i64) (by omega), by omega, hd, set_put hS l[k], hown2, hb1.grown hgrow2 hb1.size (fun j hj => by cases hj; exact Nat.le_refl _)⟩, ?_⟩
          show l.length - ((k : Int) + 1).toNat < l.length - (k : Int).toNat
          omega
        · rw [hc] at hd
          simp only [Bool.not_true, Bool.and_false, Bool.false_and] at hd
          have hd' := hd.symm
          clear hd
          simp only [hin, and_self, decide_true]
          go_wp2
          go_ret
          exact ⟨by rw [hd']; rfl, hb1⟩
      · simp only [hin, decide_false, Bool.false_and] at hd
        have hd' := hd.symm
        clear hd
        simp only [hin, decide_false]
        go_wp2
        go_ret
        exact ⟨by rw [hd']; rfl, hb1⟩
    · have hpi : ¬ (k : Int) < (l.length : Int) := by omega
      rw [List.drop_eq_nil_of_le (by omega)] at hd
      have hd' : difG n l [] = true := hd.symm
      clear hd
      go_wp2
      go_ret
      exact ⟨rfl, hbw⟩

theorem size2 {args : Array Value} {y y' : Value} (h : args.toList = [y, y']) : args = #[y, y'] := by
  apply Array.ext'
  rw [h]
/-- Numbers out of data. -/
def intsOf : List D → Option (List Int)
  | [] => some []
  | .v (.int .i64 a) :: l => if inI a then (intsOf l).map (a :: ·) else none
  | _ => none
theorem intsOf_some : ∀ (ds : List D) (l : List Int), intsOf ds = some l → ds = l.map (fun n => I n) ∧ ∀ x ∈ l, inI x := by
  intro ds
  induction ds with
  | nil => intro l h; cases h; simp
  | cons d ds ih =>
    intro l h
    unfold intsOf at h
    split at h
    · rename_i e; cases e
    · rename_i a m e
      cases e
      split at h
      · rename_i ha
        obtain ⟨m', h2, rfl⟩ := Option.map_eq_some_iff.1 h
        obtain ⟨g1, g2⟩ := ih m' h2
        rw [g1]
        refine ⟨rfl, fun x hx => ?_⟩
        rcases List.mem_cons.1 hx with rfl | hx
        · exact ha
        · exact g2 x hx
      · cases h
    · cases h
theorem intsOf_map : ∀ (l : List Int), (∀ x ∈ l, inI x) → intsOf (l.map fun n => I n) = some l
  | [], _ => rfl
  | x :: l, h => by
    simp only [List.map_cons, intsOf]
    rw [if_pos (h x (by simp)), intsOf_map l fun y hy => h y (by simp [hy])]
    rfl
theorem rep_ints {w : World} {F : Nat → Prop} : ∀ (l : List Int) (us : List Value), RepL w F (l.map fun n => I n) us → us = l.map fun n => .int .i64 n
  | [], us, h => RepL_nil.1 h
  | x :: l, us, h => by
    obtain ⟨v1, v2, rfl, h1, h2⟩ := RepL_cons.1 h
    simp only [RepC] at h1
    rw [rep_ints l v2 h2, h1.1]
    rfl
def fDif : List D → Option Out
  | [.arr _ ds, .v (.int .i64 n)] => (intsOf ds).bind fun l => if l.length ≤ 1048576 ∧ 0 ≤ n ∧ n ≤ 1048576 then some (.ret [B (difG n l [])] []) else none
  | _ => none
@[reducible] def S_impl_isDifferent : FS := { pm := [.dat 2, .dat 0], rm := [.dat 0], f := fDif }
set_option maxRecDepth 100000 in
theorem M_impl_isDifferent : Meets gl0 Try.prog 66 S_impl_isDifferent := by
  have he : ∀ args w, (callFunc 66 args).run Try.prog w = .ok (.enter 66 args) w := Go.Proofs.enters_of Try.func66 (by kernel_rfl) rfl
  refine meets_of_calls he fun ds rs us hd args w F ow hg ha hF _ => ?_
  obtain ⟨d, y, d', y', rfl, h2, h3, h4⟩ := args_two ha
  replace hd : fDif [d, d'] = some (.ret rs us) := hd
  unfold fDif at hd
  split at hd
  case h_2 => cases hd
  rename_i z ds n e
  cases e
  obtain ⟨l, hl, hd⟩ := Option.bind_eq_some_iff.1 hd
  split at hd
  case isFalse => cases hd
  rename_i hz
  cases hd
  obtain ⟨rfl, hin⟩ := intsOf_some _ _ hl
  obtain ⟨rfl, _⟩ := argD h4
  rcases h3 with h3 | h3
  · cases h3
  simp only [RepV, RepC] at h3
  obtain ⟨A, c, us, hy, hc, hr, _, hA⟩ := h3
  simp only [List.cons.injEq, and_true] at hy
  subst hy
  have hus := rep_ints l us hr
  subst hus
  rw [size2 h2]
  rw [List.length_map] at hc ⊢
  refine (isDifferent_walk l n hin hz.1 hz.2.1 hz.2.2 A c w (fun hne => ?_)).mono ?_
  · obtain ⟨b, o, rfl, h5, h6⟩ := hA (by simpa using hne)
    refine ⟨b, o, rfl, (hF b h5).1, fun i x hx => h6 i _ (by simp [hx])⟩
  · rintro e w' ⟨rfl, hB⟩
    refine ⟨_, rfl, F, _, [_], rfl, post_flat hB hF rfl rfl [_] [_] rfl rfl fun j d hj => ?_⟩
    match j, hj with
    | 0, hj =>
      simp only [List.getElem?_cons_zero, Option.some.injEq] at hj
      subst hj
      exact ⟨_, rfl, RepV_v.2 ⟨rfl, rfl⟩⟩
end Go.Proofs.Ytdgenchlghojlaa
/-
  Contexts and contracts of functions, printed by gen.py.
-/
namespace Go.Proofs.Ytdgenchlghojlaa
open Go.V
set_option maxRecDepth 100000
@[reducible] def ty4 : TI := { n := 1, zero := [.v (.bool false)], bl := true }
@[reducible] def ty22 : TI := { n := 1, zero := [.arr 4 []], elem := 47, ez := 4, eb := 32 }
@[reducible] def ty23 : TI := { n := 1, zero := [.arr 1 []], elem := 3, ez := 1, eb := 8 }
@[reducible] def ty27 : TI := { n := 1, zero := [.arr 4 []], elem := 45, ez := 4, eb := 32 }
@[reducible] def ty45 : TI := { agg := true, n := 4, zero := [.v (.int .i64 0), .v (.int .i64 0), .v (.int .i64 0), .v (.int .i64 0)], fs := [(0, 3), (1, 3), (2, 3), (3, 3)], eq := [1, 1, 1, 1] }
@[reducible] def ty47 : TI := { agg := true, n := 4, zero := [.v (.int .i64 0), .v (.int .i64 0), .v (.int .i64 0), .v (.int .i64 0)], fs := [(0, 3), (1, 3), (2, 3), (3, 3)], eq := [1, 1, 1, 1] }
/-- loop.example/g01054/laws.szOrderS -/
@[reducible] noncomputable def c_laws_szOrderS : Cx := { K := [.dat 2, .dat 0, .no, .no, .dat 0, .dat 0, .dat 2, .dat 0, .dat 0, .dat 0, .dat 0, .dat 0], T := [(3, ty3), (22, ty22), (47, ty47)], S := [], H := [], res := [.tmp 4], ios := [], G := gl0 }
noncomputable def F_laws_szOrderS : List D → Option Out := denF c_laws_szOrderS Try.f11
@[reducible] noncomputable def S_laws_szOrderS : FS := { pm := [.dat 2, .dat 0], rm := [.dat 0], f := F_laws_szOrderS }
theorem M_laws_szOrderS : Meets gl0 Try.prog 11 S_laws_szOrderS := meets_of (P := Try.prog) (c := c_laws_szOrderS) (fn := Try.f11) (pm := S_laws_szOrderS.pm) (rm := S_laws_szOrderS.rm) (by kernel_rfl) lookNil follows_mixed Try.func11 (by kernel_rfl) (by kernel_rfl) rfl
/-- loop.example/g01054/laws.toOrder -/
@[reducible] noncomputable def c_laws_toOrder : Cx := { K := [.dat 0, .box 4 0 false, .box 4 0 false, .box 4 0 false, .ref 1, .dat 0, .ref 3, .ref 1, .dat 0, .ref 3, .ref 1, .dat 0, .ref 3, .ref 1, .dat 0, .ref 3, .dat 0], T := [(3, ty3), (45, ty45), (47, ty47)], S := [], H := [], res := [.cell 2 45], ios := [], G := gl0 }
noncomputable def F_laws_toOrder : List D → Option Out := denF c_laws_toOrder Try.f37
@[reducible] noncomputable def S_laws_toOrder : FS := { pm := [.dat 0], rm := [.dat 0], f := F_laws_toOrder }
theorem M_laws_toOrder : Meets gl0 Try.prog 37 S_laws_toOrder := meets_of (P := Try.prog) (c := c_laws_toOrder) (fn := Try.f37) (pm := S_laws_toOrder.pm) (rm := S_laws_toOrder.rm) (by kernel_rfl) lookNil follows_mixed Try.func37 (by kernel_rfl) (by kernel_rfl) rfl
/-- loop.example/g01054/laws.toOrderS -/
@[reducible] noncomputable def c_laws_toOrderS : Cx := { K := [.dat 2, .no, .own 4 0 false, .own 4 0 false, .dat 0, .dat 2, .dat 0, .own 4 0 false, .dat 0, .dat 2, .dat 0, .dat 0, .dat 0, .dat 0, .via 3, .dat 0, .dat 2, .dat 0, .dat 2, .dat 0, .dat 0, .ref 3, .own 4 0 false], T := [(3, ty3), (22, ty22), (27, ty27), (45, ty45), (47, ty47)], S := [(37, S_laws_toOrder)], H := [(0, ([0, 3, 4], [3]))], res := [.tmp 2], ios := [], G := gl0 }
noncomputable def F_laws_toOrderS : List D → Option Out := denF c_laws_toOrderS Try.f13
@[reducible] noncomputable def S_laws_toOrderS : FS := { pm := [.dat 2], rm := [.own 4 0 false], f := F_laws_toOrderS }
theorem M_laws_toOrderS : Meets gl0 Try.prog 13 S_laws_toOrderS := meets_of (P := Try.prog) (c := c_laws_toOrderS) (fn := Try.f13) (pm := S_laws_toOrderS.pm) (rm := S_laws_toOrderS.rm) (by kernel_rfl) (lookCons M_laws_toOrder lookNil) follows_mixed Try.func13 (by kernel_rfl) (by kernel_rfl) rfl
/-- loop.example/g01054/laws.toIntS -/
@[reducible] noncomputable def c_laws_toIntS : Cx := { K := [.dat 2, .no, .own 1 0 false, .own 1 0 false, .dat 0, .dat 2, .dat 0, .own 1 0 false, .dat 0, .dat 2, .dat 0, .dat 0, .dat 0, .dat 0, .via 3, .dat 0, .dat 2, .dat 0, .dat 2, .dat 0, .ref 3, .own 1 0 false], T := [(3, ty3), (23, ty23)], S := [], H := [(0, ([0, 3, 4], [3]))], res := [.tmp 2], ios := [], G := gl0 }
noncomputable def F_laws_toIntS : List D → Option Out := denF c_laws_toIntS Try.f14
@[reducible] noncomputable def S_laws_toIntS : FS := { pm := [.dat 2], rm := [.own 1 0 false], f := F_laws_toIntS }
theorem M_laws_toIntS : Meets gl0 Try.prog 14 S_laws_toIntS := meets_of (P := Try.prog) (c := c_laws_toIntS) (fn := Try.f14) (pm := S_laws_toIntS.pm) (rm := S_laws_toIntS.rm) (by kernel_rfl) lookNil follows_mixed Try.func14 (by kernel_rfl) (by kernel_rfl) rfl
/-- loop.example/g01054/spec.l1In -/
@[reducible] noncomputable def c_spec_l1In : Cx := { K := [.dat 0, .dat 0, .dat 0, .no, .no, .no, .dat 0, .dat 0, .dat 0, .dat 0, .dat 0, .dat 0, .dat 0, .dat 0, .dat 0], T := [(3, ty3)], S := [], H := [], res := [.tmp 6], ios := [], G := gl0 }
noncomputable def F_spec_l1In : List D → Option Out := denF c_spec_l1In Try.f63
@[reducible] noncomputable def S_spec_l1In : FS := { pm := [.dat 0, .dat 0, .dat 0], rm := [.dat 0], f := F_spec_l1In }
theorem M_spec_l1In : Meets gl0 Try.prog 63 S_spec_l1In := meets_of (P := Try.prog) (c := c_spec_l1In) (fn := Try.f63) (pm := S_spec_l1In.pm) (rm := S_spec_l1In.rm) (by kernel_rfl) lookNil follows_mixed Try.func63 (by kernel_rfl) (by kernel_rfl) rfl
/-- loop.example/g01054/spec.orOne -/
@[reducible] noncomputable def c_spec_orOne : Cx := { K := [.dat 0, .box 4 0 false, .dat 0, .ref 1, .dat 0, .dat 0, .dat 0, .ref 1, .dat 0, .dat 0, .dat 0, .dat 0, .ref 1, .dat 0, .dat 0, .dat 0, .dat 0, .ref 1, .dat 0, .dat 0, .dat 0], T := [(3, ty3), (45, ty45)], S := [(63, S_spec_l1In)], H := [], res := [.tmp 2], ios := [], G := gl0 }
noncomputable def F_spec_orOne : List D → Option Out := denF c_spec_orOne Try.f68
@[reducible] noncomputable def S_spec_orOne : FS := { pm := [.dat 0], rm := [.dat 0], f := F_spec_orOne }
theorem M_spec_orOne : Meets gl0 Try.prog 68 S_spec_orOne := meets_of (P := Try.prog) (c := c_spec_orOne) (fn := Try.f68) (pm := S_spec_orOne.pm) (rm := S_spec_orOne.rm) (by kernel_rfl) (lookCons M_spec_l1In lookNil) follows_mixed Try.func68 (by kernel_rfl) (by kernel_rfl) rfl
/-- loop.example/g01054/spec.orGood -/
@[reducible] noncomputable def c_spec_orGood : Cx := { K := [.dat 2, .no, .dat 0, .dat 0, .box 4 0 false, .dat 2, .dat 0, .dat 0, .dat 0, .dat 0, .dat 2, .dat 0, .dat 0, .dat 0, .dat 0, .dat 0, .dat 0, .dat 0, .dat 0, .dat 2, .dat 0, .dat 0, .dat 2, .dat 2, .dat 0, .ref 4, .dat 0, .dat 0, .dat 0, .dat 0, .dat 0, .dat 2, .dat 0, .dat 0], T := [(3, ty3), (27, ty27), (45, ty45)], S := [(68, S_spec_orOne)], H := [(0, ([0, 5, 6, 7], [0]))], res := [.tmp 2], ios := [], G := gl0 }
noncomputable def F_spec_orGood : List D → Option Out := denF c_spec_orGood Try.f48
@[reducible] noncomputable def S_spec_orGood : FS := { pm := [.dat 2], rm := [.dat 0], f := F_spec_orGood }
theorem M_spec_orGood : Meets gl0 Try.prog 48 S_spec_orGood := meets_of (P := Try.prog) (c := c_spec_orGood) (fn := Try.f48) (pm := S_spec_orGood.pm) (rm := S_spec_orGood.rm) (by kernel_rfl) (lookCons M_spec_orOne lookNil) follows_mixed Try.func48 (by kernel_rfl) (by kernel_rfl) rfl
/-- loop.example/g01054/spec.l1Has -/
@[reducible] noncomputable def c_spec_l1Has : Cx := { K := [.dat 2, .dat 0, .no, .no, .dat 0, .no, .dat 0, .dat 2, .dat 0, .dat 0, .dat 0, .dat 2, .dat 0, .dat 0, .dat 0, .dat 0, .dat 0], T := [(3, ty3), (23, ty23)], S := [], H := [(0, ([1, 7, 8, 9], []))], res := [.tmp 4], ios := [], G := gl0 }
noncomputable def F_spec_l1Has : List D → Option Out := denF c_spec_l1Has Try.f64
@[reducible] noncomputable def S_spec_l1Has : FS := { pm := [.dat 2, .dat 0], rm := [.dat 0], f := F_spec_l1Has }
theorem M_spec_l1Has : Meets gl0 Try.prog 64 S_spec_l1Has := meets_of (P := Try.prog) (c := c_spec_l1Has) (fn := Try.f64) (pm := S_spec_l1Has.pm) (rm := S_spec_l1Has.rm) (by kernel_rfl) lookNil follows_mixed Try.func64 (by kernel_rfl) (by kernel_rfl) rfl
/-- loop.example/g01054/spec.orAsked -/
@[reducible] noncomputable def c_spec_orAsked : Cx := { K := [.dat 2, .dat 2, .no, .no, .dat 0, .dat 0, .dat 0, .dat 2, .dat 0, .dat 0, .dat 0, .dat 2, .dat 0, .dat 2, .dat 0, .dat 0, .dat 0, .dat 2, .dat 0, .dat 0, .dat 0, .dat 0, .dat 2, .dat 0, .dat 0, .dat 2, .dat 0, .dat 0, .dat 0, .dat 0, .dat 0, .dat 2, .dat 0, .dat 2, .dat 0, .dat 0, .dat 0, .dat 0], T := [(3, ty3), (23, ty23), (27, ty27), (45, ty45)], S := [(48, S_spec_orGood), (63, S_spec_l1In), (64, S_spec_l1Has)], H := [(0, ([0, 1, 17, 18, 19], []))], res := [.tmp 4], ios := [], G := gl0 }
noncomputable def F_spec_orAsked : List D → Option Out := denF c_spec_orAsked Try.f35
@[reducible] noncomputable def S_spec_orAsked : FS := { pm := [.dat 2, .dat 2], rm := [.dat 0], f := F_spec_orAsked }
theorem M_spec_orAsked : Meets gl0 Try.prog 35 S_spec_orAsked := meets_of (P := Try.prog) (c := c_spec_orAsked) (fn := Try.f35) (pm := S_spec_orAsked.pm) (rm := S_spec_orAsked.rm) (by kernel_rfl) (lookCons M_spec_orGood (lookCons M_spec_l1In (lookCons M_spec_l1Has lookNil))) follows_mixed Try.func35 (by kernel_rfl) (by kernel_rfl) rfl
/-- loop.example/g01054/spec.l1Most -/
@[reducible] noncomputable def c_spec_l1Most : Cx := { K := [.dat 0, .dat 0, .no, .no, .dat 0, .dat 0, .dat 0, .dat 0, .dat 0, .dat 0], T := [(3, ty3)], S := [], H := [], res := [.tmp 4], ios := [], G := gl0 }
noncomputable def F_spec_l1Most : List D → Option Out := denF c_spec_l1Most Try.f65
@[reducible] noncomputable def S_spec_l1Most : FS := { pm := [.dat 0, .dat 0], rm := [.dat 0], f := F_spec_l1Most }
theorem M_spec_l1Most : Meets gl0 Try.prog 65 S_spec_l1Most := meets_of (P := Try.prog) (c := c_spec_l1Most) (fn := Try.f65) (pm := S_spec_l1Most.pm) (rm := S_spec_l1Most.rm) (by kernel_rfl) lookNil follows_mixed Try.func65 (by kernel_rfl) (by kernel_rfl) rfl
/-- loop.example/g01054/spec.orTimes -/
@[reducible] noncomputable def c_spec_orTimes : Cx := { K := [.dat 2, .dat 2, .no, .no, .own 1 0 false, .dat 0, .own 1 0 false, .dat 0, .dat 0, .dat 0, .no, .dat 0, .dat 2, .dat 0, .dat 0, .dat 0, .dat 2, .dat 0, .dat 0, .dat 2, .dat 0, .dat 2, .dat 2, .dat 0, .dat 0, .dat 0, .dat 0, .dat 0, .dat 0, .dat 0, .dat 0, .dat 0, .dat 0, .dat 0, .dat 2, .dat 0, .dat 2, .dat 2, .dat 0, .dat 0, .own 1 0 false, .dat 0, .dat 1, .own 1 0 false, .dat 0, .own 1 0 false, .dat 0], T := [(3, ty3), (23, ty23), (27, ty27), (45, ty45)], S := [(65, S_spec_l1Most)], H := [(0, ([0, 6, 7, 8, 9, 12, 13, 14], [6, 9]))], res := [.tmp 4, .tmp 5], ios := [], G := gl0 }
noncomputable def F_spec_orTimes : List D → Option Out := denF c_spec_orTimes Try.f36
@[reducible] noncomputable def S_spec_orTimes : FS := { pm := [.dat 2, .dat 2], rm := [.own 1 0 false, .dat 0], f := F_spec_orTimes }
theorem M_spec_orTimes : Meets gl0 Try.prog 36 S_spec_orTimes := meets_of (P := Try.prog) (c := c_spec_orTimes) (fn := Try.f36) (pm := S_spec_orTimes.pm) (rm := S_spec_orTimes.rm) (by kernel_rfl) (lookCons M_spec_l1Most lookNil) follows_mixed Try.func36 (by kernel_rfl) (by kernel_rfl) rfl
/-- loop.example/g01054/spec.FinishTimes -/
@[reducible] noncomputable def c_spec_FinishTimes : Cx := { K := [.dat 2, .dat 2, .no, .no, .own 1 0 false, .dat 0, .own 1 0 false, .dat 0, .dat 2, .dat 2, .dat 0, .dat 0, .tup [.own 1 0 false, .dat 0], .dat 2, .dat 2, .tup [.own 1 0 false, .dat 0], .own 1 0 false, .dat 0, .own 1 0 false], T := [(23, ty23)], S := [(35, S_spec_orAsked), (36, S_spec_orTimes)], H := [], res := [.tmp 4, .tmp 5], ios := [], G := gl0 }
noncomputable def F_spec_FinishTimes : List D → Option Out := denF c_spec_FinishTimes Try.f20
@[reducible] noncomputable def S_spec_FinishTimes : FS := { pm := [.dat 2, .dat 2], rm := [.own 1 0 false, .dat 0], f := F_spec_FinishTimes }
theorem M_spec_FinishTimes : Meets gl0 Try.prog 20 S_spec_FinishTimes := meets_of (P := Try.prog) (c := c_spec_FinishTimes) (fn := Try.f20) (pm := S_spec_FinishTimes.pm) (rm := S_spec_FinishTimes.rm) (by kernel_rfl) (lookCons M_spec_orAsked (lookCons M_spec_orTimes lookNil)) follows_mixed Try.func20 (by kernel_rfl) (by kernel_rfl) rfl
/-- loop.example/g01054/impl.isOrder -/
@[reducible] noncomputable def c_impl_isOrder : Cx := { K := [.dat 0, .box 4 0 false, .dat 0, .ref 1, .dat 0, .dat 0, .dat 0, .ref 1, .dat 0, .dat 0, .dat 0, .dat 0, .ref 1, .dat 0, .dat 0, .dat 0, .dat 0, .ref 1, .dat 0, .dat 0, .dat 0], T := [(3, ty3), (45, ty45)], S := [(76, S_impl_within)], H := [], res := [.tmp 2], ios := [], G := gl0 }
noncomputable def F_impl_isOrder : List D → Option Out := denF c_impl_isOrder Try.f69
@[reducible] noncomputable def S_impl_isOrder : FS := { pm := [.dat 0], rm := [.dat 0], f := F_impl_isOrder }
theorem M_impl_isOrder : Meets gl0 Try.prog 69 S_impl_isOrder := meets_of (P := Try.prog) (c := c_impl_isOrder) (fn := Try.f69) (pm := S_impl_isOrder.pm) (rm := S_impl_isOrder.rm) (by kernel_rfl) (lookCons M_impl_within lookNil) follows_mixed Try.func69 (by kernel_rfl) (by kernel_rfl) rfl
/-- loop.example/g01054/impl.AreOrders -/
@[reducible] noncomputable def c_impl_AreOrders : Cx := { K := [.dat 2, .no, .dat 0, .dat 0, .box 4 0 false, .dat 2, .dat 0, .dat 0, .dat 0, .dat 0, .dat 2, .dat 0, .dat 0, .dat 0, .dat 0, .dat 0, .dat 0, .dat 0, .dat 0, .dat 2, .dat 0, .dat 0, .dat 2, .dat 2, .dat 0, .ref 4, .dat 0, .dat 0, .dat 0, .dat 0, .dat 0, .dat 2, .dat 0, .dat 0], T := [(3, ty3), (27, ty27), (45, ty45)], S := [(69, S_impl_isOrder)], H := [(0, ([0, 5, 6, 7], [0]))], res := [.tmp 2], ios := [], G := gl0 }
noncomputable def F_impl_AreOrders : List D → Option Out := denF c_impl_AreOrders Try.f50
@[reducible] noncomputable def S_impl_AreOrders : FS := { pm := [.dat 2], rm := [.dat 0], f := F_impl_AreOrders }
theorem M_impl_AreOrders : Meets gl0 Try.prog 50 S_impl_AreOrders := meets_of (P := Try.prog) (c := c_impl_AreOrders) (fn := Try.f50) (pm := S_impl_AreOrders.pm) (rm := S_impl_AreOrders.rm) (by kernel_rfl) (lookCons M_impl_isOrder lookNil) follows_mixed Try.func50 (by kernel_rfl) (by kernel_rfl) rfl
/-- loop.example/g01054/impl.isSequence -/
@[reducible] noncomputable def c_impl_isSequence : Cx := { K := [.dat 2, .dat 2, .no, .no, .dat 0, .dat 2, .dat 0, .dat 0, .dat 2, .dat 0, .dat 2, .dat 0, .dat 0, .dat 0, .dat 0, .dat 2, .dat 2, .dat 0, .dat 0, .dat 0], T := [(3, ty3), (23, ty23), (27, ty27), (45, ty45)], S := [(50, S_impl_AreOrders), (66, S_impl_isDifferent)], H := [], res := [.tmp 4], ios := [], G := gl0 }
noncomputable def F_impl_isSequence : List D → Option Out := denF c_impl_isSequence Try.f38
@[reducible] noncomputable def S_impl_isSequence : FS := { pm := [.dat 2, .dat 2], rm := [.dat 0], f := F_impl_isSequence }
theorem M_impl_isSequence : Meets gl0 Try.prog 38 S_impl_isSequence := meets_of (P := Try.prog) (c := c_impl_isSequence) (fn := Try.f38) (pm := S_impl_isSequence.pm) (rm := S_impl_isSequence.rm) (by kernel_rfl) (lookCons M_impl_AreOrders (lookCons M_impl_isDifferent lookNil)) follows_mixed Try.func38 (by kernel_rfl) (by kernel_rfl) rfl
/-- loop.example/g01054/impl.finished -/
@[reducible] noncomputable def c_impl_finished : Cx := { K := [.dat 2, .dat 2, .no, .no, .own 1 0 false, .own 1 0 false, .dat 0, .dat 0, .no, .dat 0, .own 1 0 false, .dat 2, .dat 0, .dat 0, .dat 0, .dat 2, .dat 0, .dat 0, .dat 2, .dat 0, .dat 2, .dat 2, .dat 0, .dat 0, .dat 0, .dat 0, .dat 0, .dat 2, .dat 0, .dat 2, .dat 2, .dat 0, .dat 0, .own 1 0 false, .dat 0, .dat 1, .own 1 0 false, .dat 0, .own 1 0 false], T := [(3, ty3), (23, ty23), (27, ty27), (45, ty45)], S := [], H := [(0, ([0, 5, 6, 7, 11, 12, 13], [5]))], res := [.tmp 4], ios := [], G := gl0 }
noncomputable def F_impl_finished : List D → Option Out := denF c_impl_finished Try.f40
@[reducible] noncomputable def S_impl_finished : FS := { pm := [.dat 2, .dat 2], rm := [.own 1 0 false], f := F_impl_finished }
theorem M_impl_finished : Meets gl0 Try.prog 40 S_impl_finished := meets_of (P := Try.prog) (c := c_impl_finished) (fn := Try.f40) (pm := S_impl_finished.pm) (rm := S_impl_finished.rm) (by kernel_rfl) lookNil follows_mixed Try.func40 (by kernel_rfl) (by kernel_rfl) rfl
/-- loop.example/g01054/impl.FinishTimes -/
@[reducible] noncomputable def c_impl_FinishTimes : Cx := { K := [.dat 2, .dat 2, .no, .no, .own 1 0 false, .dat 0, .dat 2, .dat 2, .dat 0, .dat 0, .own 1 0 false, .dat 2, .dat 2, .own 1 0 false], T := [(3, ty3), (23, ty23)], S := [(38, S_impl_isSequence), (40, S_impl_finished)], H := [], res := [.tmp 4, .tmp 5], ios := [], G := gl0 }
noncomputable def F_impl_FinishTimes : List D → Option Out := denF c_impl_FinishTimes Try.f21
@[reducible] noncomputable def S_impl_FinishTimes : FS := { pm := [.dat 2, .dat 2], rm := [.own 1 0 false, .dat 0], f := F_impl_FinishTimes }
theorem M_impl_FinishTimes : Meets gl0 Try.prog 21 S_impl_FinishTimes := meets_of (P := Try.prog) (c := c_impl_FinishTimes) (fn := Try.f21) (pm := S_impl_FinishTimes.pm) (rm := S_impl_FinishTimes.rm) (by kernel_rfl) (lookCons M_impl_isSequence (lookCons M_impl_finished lookNil)) follows_mixed Try.func21 (by kernel_rfl) (by kernel_rfl) rfl
/-- loop.example/g01054/laws.eqIntS -/
@[reducible] noncomputable def c_laws_eqIntS : Cx := { K := [.dat 2, .dat 2, .no, .no, .dat 0, .dat 0, .dat 2, .dat 0, .dat 2, .dat 0, .dat 0, .dat 0, .dat 2, .dat 0, .dat 0, .dat 0, .dat 0, .dat 2, .dat 0, .dat 2, .dat 0, .dat 2, .dat 0, .dat 2, .dat 0, .dat 0], T := [(3, ty3), (23, ty23)], S := [], H := [(0, ([0, 1, 5], []))], res := [.tmp 4], ios := [], G := gl0 }
noncomputable def F_laws_eqIntS : List D → Option Out := denF c_laws_eqIntS Try.f17
@[reducible] noncomputable def S_laws_eqIntS : FS := { pm := [.dat 2, .dat 2], rm := [.dat 0], f := F_laws_eqIntS }
theorem M_laws_eqIntS : Meets gl0 Try.prog 17 S_laws_eqIntS := meets_of (P := Try.prog) (c := c_laws_eqIntS) (fn := Try.f17) (pm := S_laws_eqIntS.pm) (rm := S_laws_eqIntS.rm) (by kernel_rfl) lookNil follows_mixed Try.func17 (by kernel_rfl) (by kernel_rfl) rfl
/-- loop.example/g01054/laws.eqOrder -/
@[reducible] noncomputable def c_laws_eqOrder : Cx := { K := [.dat 0, .dat 0, .box 4 0 false, .box 4 0 false, .dat 0, .ref 2, .dat 0, .ref 3, .dat 0, .dat 0, .ref 2, .dat 0, .ref 3, .dat 0, .dat 0, .ref 2, .dat 0, .ref 3, .dat 0, .dat 0, .ref 2, .dat 0, .ref 3, .dat 0, .dat 0], T := [(3, ty3), (45, ty45)], S := [], H := [], res := [.tmp 4], ios := [], G := gl0 }
noncomputable def F_laws_eqOrder : List D → Option Out := denF c_laws_eqOrder Try.f41
@[reducible] noncomputable def S_laws_eqOrder : FS := { pm := [.dat 0, .dat 0], rm := [.dat 0], f := F_laws_eqOrder }
theorem M_laws_eqOrder : Meets gl0 Try.prog 41 S_laws_eqOrder := meets_of (P := Try.prog) (c := c_laws_eqOrder) (fn := Try.f41) (pm := S_laws_eqOrder.pm) (rm := S_laws_eqOrder.rm) (by kernel_rfl) lookNil follows_mixed Try.func41 (by kernel_rfl) (by kernel_rfl) rfl
/-- loop.example/g01054/laws.eqOrderS -/
@[reducible] noncomputable def c_laws_eqOrderS : Cx := { K := [.dat 2, .dat 2, .no, .no, .dat 0, .dat 0, .dat 2, .dat 0, .dat 2, .dat 0, .dat 0, .dat 0, .dat 2, .dat 0, .dat 0, .dat 0, .dat 0, .dat 2, .dat 0, .dat 2, .dat 0, .dat 2, .dat 0, .dat 2, .dat 0, .dat 0, .dat 0], T := [(3, ty3), (27, ty27), (45, ty45)], S := [(41, S_laws_eqOrder)], H := [(0, ([0, 1, 5], []))], res := [.tmp 4], ios := [], G := gl0 }
noncomputable def F_laws_eqOrderS : List D → Option Out := denF c_laws_eqOrderS Try.f16
@[reducible] noncomputable def S_laws_eqOrderS : FS := { pm := [.dat 2, .dat 2], rm := [.dat 0], f := F_laws_eqOrderS }
theorem M_laws_eqOrderS : Meets gl0 Try.prog 16 S_laws_eqOrderS := meets_of (P := Try.prog) (c := c_laws_eqOrderS) (fn := Try.f16) (pm := S_laws_eqOrderS.pm) (rm := S_laws_eqOrderS.rm) (by kernel_rfl) (lookCons M_laws_eqOrder lookNil) follows_mixed Try.func16 (by kernel_rfl) (by kernel_rfl) rfl
/-- loop.example/g01054/laws.markOrderS -/
@[reducible] noncomputable def c_laws_markOrderS : Cx := { K := [.own 4 0 true, .dat 0, .no, .no, .dat 0, .dat 0, .dat 0, .via 0, .dat 0, .dat 0, .dat 0, .dat 0, .via 0, .dat 0, .dat 0, .ref 0, .ref 0, .dat 0, .dat 0, .via 0, .dat 0, .dat 0, .ref 0, .ref 0, .dat 0, .dat 0, .via 0, .dat 0, .dat 0, .ref 0, .ref 0, .dat 0, .dat 0, .via 0, .dat 0, .dat 0, .ref 0, .ref 0, .dat 0, .dat 0, .dat 0], T := [(3, ty3), (27, ty27), (45, ty45)], S := [], H := [(0, ([0, 1, 5], [0, 1]))], res := [.tmp 4], ios := [0], G := gl0 }
noncomputable def F_laws_markOrderS : List D → Option Out := denF c_laws_markOrderS Try.f22
@[reducible] noncomputable def S_laws_markOrderS : FS := { pm := [.own 4 0 true, .dat 0], rm := [.dat 0], f := F_laws_markOrderS }
theorem M_laws_markOrderS : Meets gl0 Try.prog 22 S_laws_markOrderS := meets_of (P := Try.prog) (c := c_laws_markOrderS) (fn := Try.f22) (pm := S_laws_markOrderS.pm) (rm := S_laws_markOrderS.rm) (by kernel_rfl) lookNil follows_mixed Try.func22 (by kernel_rfl) (by kernel_rfl) rfl
/-- loop.example/g01054/laws.markIntS -/
@[reducible] noncomputable def c_laws_markIntS : Cx := { K := [.own 1 0 true, .dat 0, .no, .no, .dat 0, .dat 0, .dat 0, .via 0, .dat 0, .dat 0, .dat 0, .dat 0, .via 0, .dat 0, .dat 0, .ref 0, .dat 0, .dat 0, .dat 0], T := [(3, ty3), (23, ty23)], S := [], H := [(0, ([0, 1, 5], [0, 1]))], res := [.tmp 4], ios := [0], G := gl0 }
noncomputable def F_laws_markIntS : List D → Option Out := denF c_laws_markIntS Try.f23
@[reducible] noncomputable def S_laws_markIntS : FS := { pm := [.own 1 0 true, .dat 0], rm := [.dat 0], f := F_laws_markIntS }
theorem M_laws_markIntS : Meets gl0 Try.prog 23 S_laws_markIntS := meets_of (P := Try.prog) (c := c_laws_markIntS) (fn := Try.f23) (pm := S_laws_markIntS.pm) (rm := S_laws_markIntS.rm) (by kernel_rfl) lookNil follows_mixed Try.func23 (by kernel_rfl) (by kernel_rfl) rfl
/-- loop.example/g01054/laws.heldIntS -/
@[reducible] noncomputable def c_laws_heldIntS : Cx := { K := [.dat 2, .dat 0, .no, .no, .dat 0, .dat 0, .dat 0, .dat 2, .dat 0, .dat 0, .dat 0, .dat 0, .dat 2, .dat 0, .dat 2, .dat 0, .dat 0, .dat 0, .dat 0, .dat 0, .dat 0], T := [(3, ty3), (23, ty23)], S := [], H := [(0, ([0, 1, 5], [1]))], res := [.tmp 4], ios := [], G := gl0 }
noncomputable def F_laws_heldIntS : List D → Option Out := denF c_laws_heldIntS Try.f24
@[reducible] noncomputable def S_laws_heldIntS : FS := { pm := [.dat 2, .dat 0], rm := [.dat 0], f := F_laws_heldIntS }
theorem M_laws_heldIntS : Meets gl0 Try.prog 24 S_laws_heldIntS := meets_of (P := Try.prog) (c := c_laws_heldIntS) (fn := Try.f24) (pm := S_laws_heldIntS.pm) (rm := S_laws_heldIntS.rm) (by kernel_rfl) lookNil follows_mixed Try.func24 (by kernel_rfl) (by kernel_rfl) rfl
/-- loop.example/g01054/laws.FnExactFinishTimes -/
@[reducible] noncomputable def c_laws_FnExactFinishTimes : Cx := { K := [.dat 2, .dat 2, .no, .no, .dat 0, .dat 0, .dat 1, .dat 0, .via 34, .via 36, .via 41, .dat 0, .dat 0, .dat 0, .dat 0, .dat 1, .dat 0, .dat 2, .dat 0, .dat 0, .dat 2, .dat 0, .dat 0, .dat 0, .dat 0, .tup [.own 1 0 false, .dat 0], .dat 2, .dat 1, .dat 2, .dat 1, .tup [.own 1 0 false, .dat 0], .dat 1, .dat 0, .dat 2, .own 4 0 false, .dat 2, .own 1 0 false, .tup [.own 1 0 false, .dat 0], .via 34, .via 36, .tup [.own 1 0 false, .dat 0], .own 1 0 false, .dat 0, .via 41, .dat 1, .dat 0, .dat 0, .dat 0, .dat 0, .dat 0, .dat 0, .dat 0, .via 34, .dat 2, .dat 1, .dat 0, .dat 0, .via 36, .dat 2, .dat 1, .dat 0, .dat 0, .via 34, .dat 0, .dat 0, .via 36, .dat 0, .dat 0, .dat 0, .dat 0, .dat 0, .via 41, .dat 1, .dat 0, .dat 0, .dat 0, .dat 0, .dat 0, .dat 0, .dat 0, .dat 0, .via 41, .dat 0, .dat 0, .via 41, .dat 0, .dat 0, .dat 0, .dat 0, .dat 0, .dat 0, .dat 0, .tup [.own 1 0 false, .dat 0], .dat 2, .dat 1, .dat 2, .dat 1, .tup [.own 1 0 false, .dat 0], .dat 1, .dat 0, .dat 1, .dat 1, .dat 0, .dat 0, .dat 0, .dat 0, .dat 0, .dat 0, .dat 0, .via 41, .dat 0, .dat 0, .dat 0, .dat 0, .dat 0, .dat 0, .dat 0], T := [(3, ty3), (4, ty4), (23, ty23)], S := [(11, S_laws_szOrderS), (13, S_laws_toOrderS), (14, S_laws_toIntS), (16, S_laws_eqOrderS), (17, S_laws_eqIntS), (20, S_spec_FinishTimes), (21, S_impl_FinishTimes), (22, S_laws_markOrderS), (23, S_laws_markIntS), (24, S_laws_heldIntS)], H := [], res := [.tmp 4], ios := [], G := gl0 }
noncomputable def F_laws_FnExactFinishTimes : List D → Option Out := denF c_laws_FnExactFinishTimes Try.f5
@[reducible] noncomputable def S_laws_FnExactFinishTimes : FS := { pm := [.dat 2, .dat 2], rm := [.dat 0], f := F_laws_FnExactFinishTimes }
theorem M_laws_FnExactFinishTimes : Meets gl0 Try.prog 5 S_laws_FnExactFinishTimes := meets_of (P := Try.prog) (c := c_laws_FnExactFinishTimes) (fn := Try.f5) (pm := S_laws_FnExactFinishTimes.pm) (rm := S_laws_FnExactFinishTimes.rm) (by kernel_rfl) (lookCons M_laws_szOrderS (lookCons M_laws_toOrderS (lookCons M_laws_toIntS (lookCons M_laws_eqOrderS (lookCons M_laws_eqIntS (lookCons M_spec_FinishTimes (lookCons M_impl_FinishTimes (lookCons M_laws_markOrderS (lookCons M_laws_markIntS (lookCons M_laws_heldIntS lookNil)))))))))) follows_mixed Try.func5 (by kernel_rfl) (by kernel_rfl) rfl
/-- loop.example/g01054/spec.orLate -/
@[reducible] noncomputable def c_spec_orLate : Cx := { K := [.dat 2, .dat 2, .no, .no, .own 1 0 false, .dat 1, .dat 0, .own 1 0 false, .dat 0, .dat 0, .tup [.own 1 0 false, .dat 0], .dat 2, .dat 2, .tup [.own 1 0 false, .dat 0], .dat 1, .dat 0, .dat 2, .dat 0, .dat 0, .dat 0, .dat 0, .dat 2, .dat 0, .own 1 0 false, .dat 1, .dat 0, .dat 1, .dat 0, .dat 2, .dat 0, .dat 2, .dat 2, .dat 0, .dat 0, .dat 0, .dat 1, .own 1 0 false, .dat 0, .own 1 0 false], T := [(3, ty3), (23, ty23), (27, ty27), (45, ty45)], S := [(36, S_spec_orTimes), (65, S_spec_l1Most)], H := [(0, ([0, 5, 7, 16, 17, 18], [7]))], res := [.tmp 4], ios := [], G := gl0 }
noncomputable def F_spec_orLate : List D → Option Out := denF c_spec_orLate Try.f43
@[reducible] noncomputable def S_spec_orLate : FS := { pm := [.dat 2, .dat 2], rm := [.own 1 0 false], f := F_spec_orLate }
theorem M_spec_orLate : Meets gl0 Try.prog 43 S_spec_orLate := meets_of (P := Try.prog) (c := c_spec_orLate) (fn := Try.f43) (pm := S_spec_orLate.pm) (rm := S_spec_orLate.rm) (by kernel_rfl) (lookCons M_spec_orTimes (lookCons M_spec_l1Most lookNil)) follows_mixed Try.func43 (by kernel_rfl) (by kernel_rfl) rfl
/-- loop.example/g01054/spec.juSum -/
@[reducible] noncomputable def c_spec_juSum : Cx := { K := [.dat 2, .no, .dat 0, .dat 0, .no, .dat 0, .dat 2, .dat 0, .dat 0, .dat 0, .dat 2, .dat 0, .dat 0, .dat 0, .dat 0, .dat 0, .dat 0], T := [(3, ty3), (23, ty23)], S := [], H := [(0, ([3, 6, 7, 8], [3]))], res := [.tmp 2], ios := [], G := gl0 }
noncomputable def F_spec_juSum : List D → Option Out := denF c_spec_juSum Try.f42
@[reducible] noncomputable def S_spec_juSum : FS := { pm := [.dat 2], rm := [.dat 0], f := F_spec_juSum }
theorem M_spec_juSum : Meets gl0 Try.prog 42 S_spec_juSum := meets_of (P := Try.prog) (c := c_spec_juSum) (fn := Try.f42) (pm := S_spec_juSum.pm) (rm := S_spec_juSum.rm) (by kernel_rfl) lookNil follows_mixed Try.func42 (by kernel_rfl) (by kernel_rfl) rfl
/-- loop.example/g01054/spec.TotalLateness -/
@[reducible] noncomputable def c_spec_TotalLateness : Cx := { K := [.dat 2, .dat 2, .no, .no, .dat 0, .dat 0, .dat 2, .dat 2, .dat 0, .dat 0, .dat 2, .dat 2, .dat 1, .dat 0], T := [], S := [(35, S_spec_orAsked), (42, S_spec_juSum), (43, S_spec_orLate)], H := [], res := [.tmp 4, .tmp 5], ios := [], G := gl0 }
noncomputable def F_spec_TotalLateness : List D → Option Out := denF c_spec_TotalLateness Try.f18
@[reducible] noncomputable def S_spec_TotalLateness : FS := { pm := [.dat 2, .dat 2], rm := [.dat 0, .dat 0], f := F_spec_TotalLateness }
theorem M_spec_TotalLateness : Meets gl0 Try.prog 18 S_spec_TotalLateness := meets_of (P := Try.prog) (c := c_spec_TotalLateness) (fn := Try.f18) (pm := S_spec_TotalLateness.pm) (rm := S_spec_TotalLateness.rm) (by kernel_rfl) (lookCons M_spec_orAsked (lookCons M_spec_juSum (lookCons M_spec_orLate lookNil))) follows_mixed Try.func18 (by kernel_rfl) (by kernel_rfl) rfl
/-- loop.example/g01054/impl.lateness -/
@[reducible] noncomputable def c_impl_lateness : Cx := { K := [.dat 2, .dat 2, .no, .no, .own 1 0 false, .own 1 0 false, .dat 0, .dat 0, .own 1 0 false, .dat 2, .dat 2, .dat 1, .dat 0, .dat 0, .dat 0, .dat 0, .dat 1, .dat 0, .own 1 0 false, .dat 0, .dat 2, .dat 2, .dat 0, .dat 2, .dat 0, .dat 2, .dat 2, .dat 0, .dat 0, .dat 0, .dat 1, .own 1 0 false, .dat 0, .own 1 0 false], T := [(3, ty3), (23, ty23), (27, ty27), (45, ty45)], S := [(40, S_impl_finished)], H := [(0, ([0, 1, 5, 11, 12, 13], [5]))], res := [.tmp 4], ios := [], G := gl0 }
noncomputable def F_impl_lateness : List D → Option Out := denF c_impl_lateness Try.f45
@[reducible] noncomputable def S_impl_lateness : FS := { pm := [.dat 2, .dat 2], rm := [.own 1 0 false], f := F_impl_lateness }
theorem M_impl_lateness : Meets gl0 Try.prog 45 S_impl_lateness := meets_of (P := Try.prog) (c := c_impl_lateness) (fn := Try.f45) (pm := S_impl_lateness.pm) (rm := S_impl_lateness.rm) (by kernel_rfl) (lookCons M_impl_finished lookNil) follows_mixed Try.func45 (by kernel_rfl) (by kernel_rfl) rfl
/-- loop.example/g01054/impl.sum -/
@[reducible] noncomputable def c_impl_sum : Cx := { K := [.dat 2, .no, .dat 0, .dat 0, .no, .dat 0, .dat 2, .dat 0, .dat 0, .dat 0, .dat 2, .dat 0, .dat 0, .dat 0, .dat 0, .dat 0, .dat 0], T := [(3, ty3), (23, ty23)], S := [], H := [(0, ([3, 6, 7, 8], [3]))], res := [.tmp 2], ios := [], G := gl0 }
noncomputable def F_impl_sum : List D → Option Out := denF c_impl_sum Try.f44
@[reducible] noncomputable def S_impl_sum : FS := { pm := [.dat 2], rm := [.dat 0], f := F_impl_sum }
theorem M_impl_sum : Meets gl0 Try.prog 44 S_impl_sum := meets_of (P := Try.prog) (c := c_impl_sum) (fn := Try.f44) (pm := S_impl_sum.pm) (rm := S_impl_sum.rm) (by kernel_rfl) lookNil follows_mixed Try.func44 (by kernel_rfl) (by kernel_rfl) rfl
/-- loop.example/g01054/impl.TotalLateness -/
@[reducible] noncomputable def c_impl_TotalLateness : Cx := { K := [.dat 2, .dat 2, .no, .no, .dat 0, .dat 0, .dat 2, .dat 2, .dat 0, .dat 0, .dat 2, .dat 2, .dat 1, .dat 0], T := [], S := [(38, S_impl_isSequence), (44, S_impl_sum), (45, S_impl_lateness)], H := [], res := [.tmp 4, .tmp 5], ios := [], G := gl0 }
noncomputable def F_impl_TotalLateness : List D → Option Out := denF c_impl_TotalLateness Try.f19
@[reducible] noncomputable def S_impl_TotalLateness : FS := { pm := [.dat 2, .dat 2], rm := [.dat 0, .dat 0], f := F_impl_TotalLateness }
theorem M_impl_TotalLateness : Meets gl0 Try.prog 19 S_impl_TotalLateness := meets_of (P := Try.prog) (c := c_impl_TotalLateness) (fn := Try.f19) (pm := S_impl_TotalLateness.pm) (rm := S_impl_TotalLateness.rm) (by kernel_rfl) (lookCons M_impl_isSequence (lookCons M_impl_sum (lookCons M_impl_lateness lookNil))) follows_mixed Try.func19 (by kernel_rfl) (by kernel_rfl) rfl
/-- loop.example/g01054/laws.FnExactTotalLateness -/
@[reducible] noncomputable def c_laws_FnExactTotalLateness : Cx := { K := [.dat 2, .dat 2, .no, .no, .dat 0, .dat 0, .dat 0, .dat 0, .dat 1, .dat 1, .dat 0, .dat 0, .dat 2, .dat 0, .dat 0, .dat 2, .dat 0, .dat 0, .dat 0, .dat 0, .tup [.dat 0, .dat 0], .dat 2, .dat 1, .dat 2, .dat 1, .tup [.dat 0, .dat 0], .dat 0, .dat 0, .dat 2, .dat 1, .dat 2, .dat 1, .tup [.dat 0, .dat 0], .dat 1, .dat 1, .tup [.dat 0, .dat 0], .dat 0, .dat 0, .dat 0, .dat 0, .dat 0, .dat 0, .dat 0, .dat 0, .dat 0, .dat 0, .dat 1, .dat 2, .dat 1, .dat 0, .dat 0, .dat 1, .dat 2, .dat 1, .dat 0, .dat 0], T := [(3, ty3), (4, ty4), (23, ty23)], S := [(11, S_laws_szOrderS), (13, S_laws_toOrderS), (14, S_laws_toIntS), (16, S_laws_eqOrderS), (17, S_laws_eqIntS), (18, S_spec_TotalLateness), (19, S_impl_TotalLateness)], H := [], res := [.tmp 4], ios := [], G := gl0 }
noncomputable def F_laws_FnExactTotalLateness : List D → Option Out := denF c_laws_FnExactTotalLateness Try.f4
@[reducible] noncomputable def S_laws_FnExactTotalLateness : FS := { pm := [.dat 2, .dat 2], rm := [.dat 0], f := F_laws_FnExactTotalLateness }
theorem M_laws_FnExactTotalLateness : Meets gl0 Try.prog 4 S_laws_FnExactTotalLateness := meets_of (P := Try.prog) (c := c_laws_FnExactTotalLateness) (fn := Try.f4) (pm := S_laws_FnExactTotalLateness.pm) (rm := S_laws_FnExactTotalLateness.rm) (by kernel_rfl) (lookCons M_laws_szOrderS (lookCons M_laws_toOrderS (lookCons M_laws_toIntS (lookCons M_laws_eqOrderS (lookCons M_laws_eqIntS (lookCons M_spec_TotalLateness (lookCons M_impl_TotalLateness lookNil))))))) follows_mixed Try.func4 (by kernel_rfl) (by kernel_rfl) rfl
/-- loop.example/g01054/spec.IdlePress -/
@[reducible] noncomputable def c_spec_IdlePress : Cx := { K := [.dat 2, .dat 2, .no, .no, .dat 0, .dat 0, .dat 1, .dat 0, .dat 2, .dat 2, .dat 0, .dat 0, .tup [.own 1 0 false, .dat 0], .dat 2, .dat 2, .tup [.own 1 0 false, .dat 0], .dat 1, .dat 0, .dat 0], T := [], S := [(35, S_spec_orAsked), (36, S_spec_orTimes)], H := [], res := [.tmp 4, .tmp 5], ios := [], G := gl0 }
noncomputable def F_spec_IdlePress : List D → Option Out := denF c_spec_IdlePress Try.f12
@[reducible] noncomputable def S_spec_IdlePress : FS := { pm := [.dat 2, .dat 2], rm := [.dat 0, .dat 0], f := F_spec_IdlePress }
theorem M_spec_IdlePress : Meets gl0 Try.prog 12 S_spec_IdlePress := meets_of (P := Try.prog) (c := c_spec_IdlePress) (fn := Try.f12) (pm := S_spec_IdlePress.pm) (rm := S_spec_IdlePress.rm) (by kernel_rfl) (lookCons M_spec_orAsked (lookCons M_spec_orTimes lookNil)) follows_mixed Try.func12 (by kernel_rfl) (by kernel_rfl) rfl
/-- loop.example/g01054/impl.greatest -/
@[reducible] noncomputable def c_impl_greatest : Cx := { K := [.dat 2, .no, .dat 0, .dat 0, .no, .dat 0, .dat 2, .dat 0, .dat 0, .dat 0, .dat 2, .dat 0, .dat 0, .dat 0, .dat 0, .dat 0, .dat 0], T := [(3, ty3), (23, ty23)], S := [], H := [(0, ([3, 6, 7, 8], [3]))], res := [.tmp 2], ios := [], G := gl0 }
noncomputable def F_impl_greatest : List D → Option Out := denF c_impl_greatest Try.f39
@[reducible] noncomputable def S_impl_greatest : FS := { pm := [.dat 2], rm := [.dat 0], f := F_impl_greatest }
theorem M_impl_greatest : Meets gl0 Try.prog 39 S_impl_greatest := meets_of (P := Try.prog) (c := c_impl_greatest) (fn := Try.f39) (pm := S_impl_greatest.pm) (rm := S_impl_greatest.rm) (by kernel_rfl) lookNil follows_mixed Try.func39 (by kernel_rfl) (by kernel_rfl) rfl
/-- loop.example/g01054/impl.IdlePress -/
@[reducible] noncomputable def c_impl_IdlePress : Cx := { K := [.dat 2, .dat 2, .no, .no, .dat 0, .dat 0, .dat 0, .no, .box 4 0 false, .dat 2, .dat 2, .dat 0, .dat 0, .dat 2, .dat 2, .dat 1, .dat 0, .dat 2, .dat 0, .dat 0, .dat 0, .dat 2, .dat 0, .dat 0, .ref 8, .dat 0, .dat 0, .dat 0, .dat 0], T := [(3, ty3), (27, ty27), (45, ty45)], S := [(38, S_impl_isSequence), (39, S_impl_greatest), (40, S_impl_finished)], H := [(0, ([6, 17, 18, 19], [6]))], res := [.tmp 4, .tmp 5], ios := [], G := gl0 }
noncomputable def F_impl_IdlePress : List D → Option Out := denF c_impl_IdlePress Try.f15
@[reducible] noncomputable def S_impl_IdlePress : FS := { pm := [.dat 2, .dat 2], rm := [.dat 0, .dat 0], f := F_impl_IdlePress }
theorem M_impl_IdlePress : Meets gl0 Try.prog 15 S_impl_IdlePress := meets_of (P := Try.prog) (c := c_impl_IdlePress) (fn := Try.f15) (pm := S_impl_IdlePress.pm) (rm := S_impl_IdlePress.rm) (by kernel_rfl) (lookCons M_impl_isSequence (lookCons M_impl_greatest (lookCons M_impl_finished lookNil))) follows_mixed Try.func15 (by kernel_rfl) (by kernel_rfl) rfl
/-- loop.example/g01054/laws.FnExactIdlePress -/
@[reducible] noncomputable def c_laws_FnExactIdlePress : Cx := { K := [.dat 2, .dat 2, .no, .no, .dat 0, .dat 0, .dat 0, .dat 0, .dat 1, .dat 1, .dat 0, .dat 0, .dat 2, .dat 0, .dat 0, .dat 2, .dat 0, .dat 0, .dat 0, .dat 0, .tup [.dat 0, .dat 0], .dat 2, .dat 1, .dat 2, .dat 1, .tup [.dat 0, .dat 0], .dat 0, .dat 0, .dat 2, .dat 1, .dat 2, .dat 1, .tup [.dat 0, .dat 0], .dat 1, .dat 1, .tup [.dat 0, .dat 0], .dat 0, .dat 0, .dat 0, .dat 0, .dat 0, .dat 0, .dat 0, .dat 0, .dat 0, .dat 0, .dat 1, .dat 2, .dat 1, .dat 0, .dat 0, .dat 1, .dat 2, .dat 1, .dat 0, .dat 0], T := [(3, ty3), (4, ty4), (23, ty23)], S := [(11, S_laws_szOrderS), (12, S_spec_IdlePress), (13, S_laws_toOrderS), (14, S_laws_toIntS), (15, S_impl_IdlePress), (16, S_laws_eqOrderS), (17, S_laws_eqIntS)], H := [], res := [.tmp 4], ios := [], G := gl0 }
noncomputable def F_laws_FnExactIdlePress : List D → Option Out := denF c_laws_FnExactIdlePress Try.f3
@[reducible] noncomputable def S_laws_FnExactIdlePress : FS := { pm := [.dat 2, .dat 2], rm := [.dat 0], f := F_laws_FnExactIdlePress }
theorem M_laws_FnExactIdlePress : Meets gl0 Try.prog 3 S_laws_FnExactIdlePress := meets_of (P := Try.prog) (c := c_laws_FnExactIdlePress) (fn := Try.f3) (pm := S_laws_FnExactIdlePress.pm) (rm := S_laws_FnExactIdlePress.rm) (by kernel_rfl) (lookCons M_laws_szOrderS (lookCons M_spec_IdlePress (lookCons M_laws_toOrderS (lookCons M_laws_toIntS (lookCons M_impl_IdlePress (lookCons M_laws_eqOrderS (lookCons M_laws_eqIntS lookNil))))))) follows_mixed Try.func3 (by kernel_rfl) (by kernel_rfl) rfl
end Go.Proofs.Ytdgenchlghojlaa
