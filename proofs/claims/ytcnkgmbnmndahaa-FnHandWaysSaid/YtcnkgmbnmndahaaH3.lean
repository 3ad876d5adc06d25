/-
  The best exchange of two boxes; the nearest free place: what both compute.
-/
import Derived.Test.YtcnkgmbnmndahaaH2
namespace Go.Proofs.Ytcnkgmbnmndahaa
open Go Go.V
set_option linter.unusedSimpArgs false

def dX (d : Int) (s : Option (Nat × Nat)) : Int := match s with
  | none => d
  | some p => p.1
def dY (d : Int) (s : Option (Nat × Nat)) : Int := match s with
  | none => d
  | some p => p.2
def dW (d : Int) (w : Nat → Nat → Int) (s : Option (Nat × Nat)) : Int := match s with
  | none => d
  | some p => w p.1 p.2
def gLt (a b : Nat) : Bool := decide (a < b)
abbrev wy (l : List Bx) (cs : List ByteArray) : Nat → Nat → Int := fun a b => wayOf (swapB l a b) cs
abbrev bestP (l : List Bx) (cs : List ByteArray) : Option (Nat × Nat) := allP gLt (wy l cs) l.length l.length
theorem inB_swap {l : List Bx} (h : inB l) (a b : Nat) : inB (swapB l a b) := fun x hx => by
  have hg : ∀ i, (0 ≤ (l.getD i (ByteArray.empty, 0, 0, 0)).2.1 ∧ (l.getD i (ByteArray.empty, 0, 0, 0)).2.1 ≤ 9) ∧ (0 ≤ (l.getD i (ByteArray.empty, 0, 0, 0)).2.2.1 ∧ (l.getD i (ByteArray.empty, 0, 0, 0)).2.2.1 ≤ 9) := fun i => by
    rw [List.getD_eq_getElem?_getD]
    cases e : l[i]? with
    | none => simp
    | some y => exact h y (List.mem_of_getElem? e)
  simp only [swapB] at hx
  rcases List.mem_or_eq_of_mem_set hx with hx | rfl
  · rcases List.mem_or_eq_of_mem_set hx with hx | rfl
    · exact h x hx
    · exact hg b
  · exact hg a
theorem wy_nonneg {l : List Bx} {cs : List ByteArray} (h : Case l) (hc : cs.length ≤ 60) (a b : Nat) : 0 ≤ wayOf (swapB l a b) cs := wayOf_nonneg (inB_swap h.inB a b) cs hc
theorem rowLt {w : Nat → Nat → Int} {a : Nat} {s : Option (Nat × Nat)} : rowP gLt w a s (a + 1) = s := rowP_start _ fun c hc => by simp [gLt]; omega
theorem rowLt_succ {w : Nat → Nat → Int} {a b : Nat} {s : Option (Nat × Nat)} (h : a < b) : rowP gLt w a s (b + 1) = updP w (rowP gLt w a s b) a b := by
  rw [rowP, if_pos (by simp [gLt]; omega)]

theorem e_spec_BestSwap (l : List Bx) (cs : List ByteArray) (h : okBx l) (hc : cs.length ≤ 1048576) : F_spec_BestSwap [bxs l, txs cs] =
    if okWay l cs = true ∧ 2 ≤ l.length then some (.ret [I (dX (-1) (bestP l cs)), I (dY (-1) (bestP l cs)), I (dW 0 (wy l cs) (bestP l cs)), B true] []) else some (.ret [I 0, I 0, I 0, B false] []) := by
  rw [t_spec_BestSwap]
  have e := e_spec_caAsked l cs h hc
  rw [show (hasAll l cs && goodC l && decide ((cs.length : Int) ≤ 60)) = okWay l cs from rfl] at e
  have hl := h.1
  cases hq : okWay l cs
  · simp -implicitDefEqProofs [e, hq]
  by_cases h2 : 2 ≤ l.length
  case neg =>
    have h2' : (l.length : Int) < 2 := by omega
    simp -implicitDefEqProofs [e, hq, h2, h2']
  obtain ⟨hin, hcase, hcs⟩ := okWay_parts hq
  have h2' : ¬ (l.length : Int) < 2 := by omega
  simp -implicitDefEqProofs [e, hq, h2, h2']
  refine loop_bind _ (loop_for l.length (fun i => [bxs l, txs cs, I (dX (-1) (allP gLt (wy l cs) l.length i)), I (dY (-1) (allP gLt (wy l cs) l.length i)), I (dW 0 (wy l cs) (allP gLt (wy l cs) l.length i)), I l.length, I i])
    (.ext 0 [I (dX (-1) (bestP l cs)), I (dY (-1) (bestP l cs)), I (dW 0 (wy l cs) (bestP l cs))]) (fun i hi => ?_) ?_ rfl rfl) ?_
  · have hw : IntKind.i64.wrap ((i : Int) + 1) = (i : Int) + 1 := wrap_id (by omega) (by omega)
    simp -implicitDefEqProofs [hi, hw, allP]
    generalize allP gLt (wy l cs) l.length i = s
    refine loop_bind _ (loop_range (i + 1) l.length (by omega) (fun b => [bxs l, txs cs, I (dX (-1) (rowP gLt (wy l cs) i s b)), I (dY (-1) (rowP gLt (wy l cs) i s b)), I (dW 0 (wy l cs) (rowP gLt (wy l cs) i s b)), I i, I b, I l.length, I i])
      (.ext 2 [bxs l, txs cs, I (dX (-1) (rowP gLt (wy l cs) i s l.length)), I (dY (-1) (rowP gLt (wy l cs) i s l.length)), I (dW 0 (wy l cs) (rowP gLt (wy l cs) i s l.length)), I l.length, I i]) (fun b hb1 hb2 => ?_) ?_ rfl ?_) ?_
    · have hwb : IntKind.i64.wrap ((b : Int) + 1) = (b : Int) + 1 := wrap_id (by omega) (by omega)
      have e1 := e_spec_caSwap l i b (by omega) hb2 hl
      have e2 := e_spec_caWay (swapB l i b) cs (by rw [swapB_len]; exact hl) hc (swapB_in hin hi hb2)
      rw [rowLt_succ (by omega)]
      generalize rowP gLt (wy l cs) i s b = q
      cases q with
      | none => simp -implicitDefEqProofs [hb2, hwb, e1, e2, dX, dY, dW, updP]
      | some p =>
        have hp : ¬ (p.1 : Int) < 0 := by omega
        by_cases hlt : wayOf (swapB l i b) cs < wayOf (swapB l p.1 p.2) cs <;> simp -implicitDefEqProofs [hb2, hwb, e1, e2, dX, dY, dW, updP, hp, hlt]
    · simp -implicitDefEqProofs
    · rw [rowLt]
      rfl
    · simp -implicitDefEqProofs [hw]
  · simp -implicitDefEqProofs
  · simp -implicitDefEqProofs
theorem e_impl_BestSwap (l : List Bx) (cs : List ByteArray) (h : okBx l) (hc : cs.length ≤ 1048576) : F_impl_BestSwap [bxs l, txs cs] =
    if okWay l cs = true ∧ 2 ≤ l.length then some (.ret [I (dX 0 (bestP l cs)), I (dY 0 (bestP l cs)), I (dW (-1) (wy l cs) (bestP l cs)), B true] []) else some (.ret [I 0, I 0, I 0, B false] []) := by
  rw [t_impl_BestSwap]
  have e := e_impl_areCodes l cs h hc
  rw [show (hasAll l cs && goodC l && decide ((cs.length : Int) ≤ 60)) = okWay l cs from rfl] at e
  have hl := h.1
  cases hq : okWay l cs
  · simp -implicitDefEqProofs [e, hq]
  by_cases h2 : 2 ≤ l.length
  case neg =>
    have h2' : (l.length : Int) < 2 := by omega
    simp -implicitDefEqProofs [e, hq, h2, h2']
  obtain ⟨hin, hcase, hcs⟩ := okWay_parts hq
  have h2' : ¬ (l.length : Int) < 2 := by omega
  simp -implicitDefEqProofs [e, hq, h2, h2']
  refine loop_bind _ (loop_for l.length (fun i => [bxs l, txs cs, I (dX 0 (allP gLt (wy l cs) l.length i)), I (dY 0 (allP gLt (wy l cs) l.length i)), I (dW (-1) (wy l cs) (allP gLt (wy l cs) l.length i)), I l.length, I i])
    (.ext 0 [I (dX 0 (bestP l cs)), I (dY 0 (bestP l cs)), I (dW (-1) (wy l cs) (bestP l cs))]) (fun i hi => ?_) ?_ rfl rfl) ?_
  · have hw : IntKind.i64.wrap ((i : Int) + 1) = (i : Int) + 1 := wrap_id (by omega) (by omega)
    simp -implicitDefEqProofs [hi, hw, allP]
    generalize allP gLt (wy l cs) l.length i = s
    refine loop_bind _ (loop_range (i + 1) l.length (by omega) (fun b => [bxs l, txs cs, I (dX 0 (rowP gLt (wy l cs) i s b)), I (dY 0 (rowP gLt (wy l cs) i s b)), I (dW (-1) (wy l cs) (rowP gLt (wy l cs) i s b)), I i, I b, I l.length, I i])
      (.ext 2 [bxs l, txs cs, I (dX 0 (rowP gLt (wy l cs) i s l.length)), I (dY 0 (rowP gLt (wy l cs) i s l.length)), I (dW (-1) (wy l cs) (rowP gLt (wy l cs) i s l.length)), I l.length, I i]) (fun b hb1 hb2 => ?_) ?_ rfl ?_) ?_
    · have hwb : IntKind.i64.wrap ((b : Int) + 1) = (b : Int) + 1 := wrap_id (by omega) (by omega)
      have e1 := e_impl_swap l i b (by omega) hb2 hl
      have e2 := e_impl_handWay (swapB l i b) cs (by rw [swapB_len]; exact hl) hc (swapB_in hin hi hb2)
      rw [rowLt_succ (by omega)]
      generalize rowP gLt (wy l cs) i s b = q
      cases q with
      | none => simp -implicitDefEqProofs [hb2, hwb, e1, e2, dX, dY, dW, updP]
      | some p =>
        have hp : ¬ wayOf (swapB l p.1 p.2) cs < 0 := by
          have := wy_nonneg hcase hcs p.1 p.2
          omega
        by_cases hlt : wayOf (swapB l i b) cs < wayOf (swapB l p.1 p.2) cs <;> simp -implicitDefEqProofs [hb2, hwb, e1, e2, dX, dY, dW, updP, hp, hlt]
    · simp -implicitDefEqProofs
    · rw [rowLt]
      rfl
    · simp -implicitDefEqProofs [hw]
  · simp -implicitDefEqProofs
  · simp -implicitDefEqProofs
/-- The best one is there, and no other is better. -/
theorem bestP_is {l : List Bx} {cs : List ByteArray} (h2 : 2 ≤ l.length) : ∃ p : Nat × Nat, bestP l cs = some p ∧ ∀ a b, a < b → b < l.length → wayOf (swapB l p.1 p.2) cs ≤ wayOf (swapB l a b) cs := by
  have h := allP_least (g := gLt) (w := wy l cs) (R := fun _ _ => True) (n := l.length) l.length fun _ _ _ _ _ => trivial
  obtain ⟨p, hp, _⟩ := h.le 0 1 ⟨by omega, by omega, rfl⟩
  refine ⟨p, hp, fun a b hab hb => ?_⟩
  obtain ⟨q, hq, hle⟩ := h.le a b ⟨by omega, hb, by simp [gLt, hab]⟩
  have : some p = some q := hp.symm.trans hq
  cases this
  exact hle

/-! ### the nearest free place -/
abbrev plc (i k : Nat) : Bx := (ByteArray.empty, (i : Int), (k : Int), 0)
def freeP (l : List Bx) (i k : Nat) : Bool := allI (fun _ y => !sameP (plc i k) y) 0 l
def farP (row col : Int) (i k : Nat) : Int := absW ((i : Int) - row) + absW ((k : Int) - col)
def okPl (n : Int) : Bool := decide (0 ≤ n ∧ n ≤ 9)
abbrev nearP (l : List Bx) (row col : Int) : Option (Nat × Nat) := allP (freeP l) (farP row col) 10 10
theorem used_is {p : Bx → Bool} : ∀ (l : List Bx) (i : Nat) (u : Bool), l.foldl (fun u y => u || p y) u = (u || !allI (fun _ y => !p y) i l)
  | [], _, u => by simp [allI]
  | x :: l, i, u => by
    rw [List.foldl_cons, used_is l (i + 1), allI]
    cases u <;> cases p x <;> simp
theorem e_spec_NearestFree (l : List Bx) (row col : Int) (h : okBx l) : F_spec_NearestFree [bxs l, I row, I col] =
    if (goodC l && okPl row && okPl col) = true then some (.ret [I (dX (-1) (nearP l row col)), I (dY (-1) (nearP l row col)), B true] []) else some (.ret [I 0, I 0, B false] []) := by
  rw [t_spec_NearestFree]
  have e := e_spec_caGood l h
  have hl := h.1
  cases hg : goodC l
  · simp -implicitDefEqProofs [e, hg]
  by_cases hr : 0 ≤ row ∧ row ≤ 9
  case neg => simp -implicitDefEqProofs [e, hg, e_spec_l1In, hr, okPl]
  by_cases hk : 0 ≤ col ∧ col ≤ 9
  case neg => simp -implicitDefEqProofs [e, hg, e_spec_l1In, hr, hk, okPl]
  simp -implicitDefEqProofs [e, hg, e_spec_l1In, hr, hk, okPl]
  refine loop_bind _ (loop_for 10 (fun i => [bxs l, I row, I col, I (dX (-1) (allP (freeP l) (farP row col) 10 i)), I (dY (-1) (allP (freeP l) (farP row col) 10 i)), I (dW 0 (farP row col) (allP (freeP l) (farP row col) 10 i)), I i])
    (.ext 0 [I (dX (-1) (nearP l row col)), I (dY (-1) (nearP l row col))]) (fun i hi => ?_) ?_ rfl rfl) ?_
  · have hw : IntKind.i64.wrap ((i : Int) + 1) = (i : Int) + 1 := wrap_id (by omega) (by omega)
    have hi' : (i : Int) < 10 := by omega
    simp -implicitDefEqProofs [hi', hw, allP]
    generalize allP (freeP l) (farP row col) 10 i = s
    refine loop_bind _ (loop_for 10 (fun k => [bxs l, I row, I col, I (dX (-1) (rowP (freeP l) (farP row col) i s k)), I (dY (-1) (rowP (freeP l) (farP row col) i s k)), I (dW 0 (farP row col) (rowP (freeP l) (farP row col) i s k)), I i, I k])
      (.ext 2 [bxs l, I row, I col, I (dX (-1) (rowP (freeP l) (farP row col) i s 10)), I (dY (-1) (rowP (freeP l) (farP row col) i s 10)), I (dW 0 (farP row col) (rowP (freeP l) (farP row col) i s 10)), I i]) (fun k hk' => ?_) ?_ rfl rfl) ?_
    · have hwk : IntKind.i64.wrap ((k : Int) + 1) = (k : Int) + 1 := wrap_id (by omega) (by omega)
      have hk2 : (k : Int) < 10 := by omega
      have w1 : IntKind.i64.wrap ((i : Int) - row) = (i : Int) - row := wrap_id (by omega) (by omega)
      have w2 : IntKind.i64.wrap ((k : Int) - col) = (k : Int) - col := wrap_id (by omega) (by omega)
      have a1 := absW_small (n := (i : Int) - row) (by omega)
      have a2 := absW_small (n := (k : Int) - col) (by omega)
      have w3 : IntKind.i64.wrap (absW ((i : Int) - row) + absW ((k : Int) - col)) = farP row col i k := wrap_id (by omega) (by omega)
      have hfar : farP row col i k = absW ((i : Int) - row) + absW ((k : Int) - col) := rfl
      rw [rowP]
      generalize rowP (freeP l) (farP row col) i s k = q
      simp -implicitDefEqProofs [hk2]
      have hu : l.foldl (fun u y => u || sameP (plc i k) y) false = !freeP l i k := used_is l 0 false
      refine loop_bind (.ext 4 [bxs l, I row, I col, I (dX (-1) q), I (dY (-1) q), I (dW 0 (farP row col) q), I i, I k, B (l.foldl (fun u y => u || sameP (plc i k) y) false)])
        (loop_foldl l (fun j u => [bxs l, I row, I col, I (dX (-1) q), I (dY (-1) q), I (dW 0 (farP row col) q), I i, I k, B u, bxs l, I l.length, I j]) (fun u y => u || sameP (plc i k) y)
          (fun u => .ext 4 [bxs l, I row, I col, I (dX (-1) q), I (dY (-1) q), I (dW 0 (farP row col) q), I i, I k, B u]) false (fun j u hj => ?_) (fun u => ?_) (fun _ => rfl) rfl) ?_
      · have hwj : IntKind.i64.wrap ((j : Int) + 1) = (j : Int) + 1 := wrap_id (by omega) (by omega)
        cases u <;> by_cases c1 : l[j].2.1 = (i : Int) <;> by_cases c2 : l[j].2.2.1 = (k : Int) <;> simp -implicitDefEqProofs [hj, hwj, c1, c2, sameP]
      · simp -implicitDefEqProofs
      rw [hu]
      · cases hf : freeP l i k
        · simp -implicitDefEqProofs [e_spec_l1Abs, w1, w2, w3, hwk, hf]
        · cases q with
          | none => simp -implicitDefEqProofs [e_spec_l1Abs, w1, w2, w3, hwk, hf, dX, dY, dW, updP]
          | some p =>
            have hp : ¬ (p.1 : Int) < 0 := by omega
            by_cases hlt : farP row col i k < farP row col p.1 p.2 <;> simp -implicitDefEqProofs [e_spec_l1Abs, w1, w2, w3, hwk, hf, dX, dY, dW, updP, hp, hlt]
    · simp -implicitDefEqProofs
    · simp -implicitDefEqProofs [hw]
  · simp -implicitDefEqProofs
  · simp -implicitDefEqProofs
theorem e_impl_NearestFree (l : List Bx) (row col : Int) (h : okBx l) : F_impl_NearestFree [bxs l, I row, I col] =
    if (goodC l && okPl row && okPl col) = true then some (.ret [I (dX 0 (nearP l row col)), I (dY 0 (nearP l row col)), B true] []) else some (.ret [I 0, I 0, B false] []) := by
  rw [t_impl_NearestFree]
  have e := e_impl_IsCase l h
  have hl := h.1
  cases hg : goodC l
  · simp -implicitDefEqProofs [e, hg]
  by_cases hr : 0 ≤ row ∧ row ≤ 9
  case neg => simp -implicitDefEqProofs [e, hg, e_impl_isPlace, hr, okPl]
  by_cases hk : 0 ≤ col ∧ col ≤ 9
  case neg => simp -implicitDefEqProofs [e, hg, e_impl_isPlace, hr, hk, okPl]
  simp -implicitDefEqProofs [e, hg, e_impl_isPlace, hr, hk, okPl]
  refine loop_bind _ (loop_for 10 (fun i => [bxs l, I row, I col, I (dX 0 (allP (freeP l) (farP row col) 10 i)), I (dY 0 (allP (freeP l) (farP row col) 10 i)), I (dW (-1) (farP row col) (allP (freeP l) (farP row col) 10 i)), I i])
    (.ext 0 [I (dX 0 (nearP l row col)), I (dY 0 (nearP l row col))]) (fun i hi => ?_) ?_ rfl rfl) ?_
  · have hw : IntKind.i64.wrap ((i : Int) + 1) = (i : Int) + 1 := wrap_id (by omega) (by omega)
    have hi' : (i : Int) ≤ 9 := by omega
    simp -implicitDefEqProofs [hi', hw, allP]
    have hs : Least (farP row col) (fun a b => a < 10 ∧ b < 10) (fun x y => x < i ∧ y < 10 ∧ freeP l x y = true) (allP (freeP l) (farP row col) 10 i) := allP_least i fun a c ha hc _ => ⟨by omega, hc⟩
    generalize allP (freeP l) (farP row col) 10 i = s at hs
    refine loop_bind _ (loop_for 10 (fun k => [bxs l, I row, I col, I (dX 0 (rowP (freeP l) (farP row col) i s k)), I (dY 0 (rowP (freeP l) (farP row col) i s k)), I (dW (-1) (farP row col) (rowP (freeP l) (farP row col) i s k)), I i, I k])
      (.ext 2 [bxs l, I row, I col, I (dX 0 (rowP (freeP l) (farP row col) i s 10)), I (dY 0 (rowP (freeP l) (farP row col) i s 10)), I (dW (-1) (farP row col) (rowP (freeP l) (farP row col) i s 10)), I i]) (fun k hk' => ?_) ?_ rfl rfl) ?_
    · have hwk : IntKind.i64.wrap ((k : Int) + 1) = (k : Int) + 1 := wrap_id (by omega) (by omega)
      have hk2 : (k : Int) ≤ 9 := by omega
      have w1 : IntKind.i64.wrap ((i : Int) - row) = (i : Int) - row := wrap_id (by omega) (by omega)
      have w2 : IntKind.i64.wrap ((k : Int) - col) = (k : Int) - col := wrap_id (by omega) (by omega)
      have a1 := absW_small (n := (i : Int) - row) (by omega)
      have a2 := absW_small (n := (k : Int) - col) (by omega)
      have w3 : IntKind.i64.wrap (absW ((i : Int) - row) + absW ((k : Int) - col)) = farP row col i k := wrap_id (by omega) (by omega)
      have et : F_impl_isTaken [bxs l, I i, I k] = some (.ret [B (!freeP l i k)] []) := e_impl_isTaken l (plc i k) hl
      have hq := (rowP_least (g := freeP l) (a := i) hs k fun c hc _ => ⟨hi, by omega⟩).lt
      rw [rowP]
      generalize rowP (freeP l) (farP row col) i s k = q at hq
      cases hf : freeP l i k
      · simp -implicitDefEqProofs [e_impl_abs, w1, w2, w3, hk2, hwk, et, hf]
      · cases q with
        | none => simp -implicitDefEqProofs [e_impl_abs, w1, w2, w3, hk2, hwk, et, hf, dX, dY, dW, updP]
        | some p =>
          obtain ⟨p1, p2⟩ := hq p rfl
          have hp : ¬ farP row col p.1 p.2 < 0 := by
            have b1 := absW_small (n := (p.1 : Int) - row) (by omega)
            have b2 := absW_small (n := (p.2 : Int) - col) (by omega)
            unfold farP
            omega
          by_cases hlt : farP row col i k < farP row col p.1 p.2 <;> simp -implicitDefEqProofs [e_impl_abs, w1, w2, w3, hk2, hwk, et, hf, dX, dY, dW, updP, hp, hlt]
    · simp -implicitDefEqProofs
    · simp -implicitDefEqProofs [hw]
  · simp -implicitDefEqProofs
  · simp -implicitDefEqProofs

/-- Of more places than boxes one is free. -/
theorem pigeon {β : Type} (f : β → Nat) : ∀ (l : List β) (L : List Nat), L.Nodup → l.length < L.length → ∃ x ∈ L, ∀ y ∈ l, f y ≠ x
  | [], L, _, h => by
    cases L with
    | nil => simp at h
    | cons x L => exact ⟨x, by simp, by simp⟩
  | y :: l, L, hn, h => by
    obtain ⟨x, hx, hy⟩ := pigeon f l (L.erase (f y)) (hn.erase _) (by
      rw [List.length_erase]
      simp only [List.length_cons] at h
      split <;> omega)
    refine ⟨x, List.mem_of_mem_erase hx, fun z hz => ?_⟩
    rcases List.mem_cons.1 hz with rfl | hz
    · rintro rfl
      exact hn.not_mem_erase hx
    · exact hy z hz
theorem free_is {l : List Bx} (h : l.length ≤ 32) : ∃ i k : Nat, i < 10 ∧ k < 10 ∧ freeP l i k = true := by
  obtain ⟨x, hx, hy⟩ := pigeon (fun y : Bx => (y.2.1 * 10 + y.2.2.1).toNat) l (List.range 100) List.nodup_range (by simp; omega)
  have hx' : x < 100 := by simpa using hx
  refine ⟨x / 10, x % 10, by omega, by omega, ?_⟩
  unfold freeP
  refine allI_of fun j hj => ?_
  have := hy l[j] (List.getElem_mem hj)
  simp only [sameP, Bool.not_eq_true', Bool.and_eq_false_iff, decide_eq_false_iff_not]
  by_cases c1 : l[j].2.1 = ((x / 10 : Nat) : Int)
  · refine .inr fun c2 => this ?_
    rw [c1, c2]
    omega
  · exact .inl c1
theorem nearP_is {l : List Bx} {row col : Int} (h : l.length ≤ 32) : ∃ p : Nat × Nat, nearP l row col = some p ∧ freeP l p.1 p.2 = true := by
  have hs := allP_least (g := freeP l) (w := farP row col) (R := fun a b => freeP l a b = true) (n := 10) 10 fun _ _ _ _ hg => hg
  obtain ⟨i, k, hi, hk, hf⟩ := free_is h
  obtain ⟨p, hp, _⟩ := hs.le i k ⟨hi, hk, hf⟩
  exact ⟨p, hp, hs.lt p hp⟩

end Go.Proofs.Ytcnkgmbnmndahaa
