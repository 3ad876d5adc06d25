/-
  The law of the ways of the hand.
-/
import Derived.Test.YtcnkgmbnmndahaaH4
namespace Go.Proofs.Ytcnkgmbnmndahaa
open Go Go.V
set_option linter.unusedSimpArgs false

theorem SmallC.okBx {l : List Bx} (h : SmallC l 40) : okBx l := ⟨by have := h.len; omega, fun x hx => by have := h.size x hx; omega⟩
theorem law_HandWays (code more : List Int) (hb1 : ∀ n ∈ code, 0 ≤ n ∧ n ≤ 255) (hb2 : ∀ n ∈ more, 0 ≤ n ∧ n ≤ 255) (hl1 : code.length ≤ maxLen) (hl2 : more.length ≤ maxLen) : F_laws_FnHandWays [bytesD code, bytesD more] = some (.ret [B true] []) := by
  rw [t_laws_FnHandWays]
  unfold maxLen at hl1 hl2
  by_cases hbig : 1048576 < IntKind.i64.wrap ((code.length : Int) + (more.length : Int))
  · simp -implicitDefEqProofs [hbig]
  obtain ⟨l, cs, e1, k1, k2⟩ := d_DrawBestSwap code ⟨hb1, by omega⟩
  obtain ⟨u, row, col, e2, k3⟩ := d_DrawNearestFree more ⟨hb2, by omega⟩
  have ho := k1.okBx
  have ho' := k3.okBx
  have i1 := e_impl_BestSwap l cs ho (by omega)
  have s1 := e_spec_BestSwap l cs ho (by omega)
  have i2 := e_impl_HandWay l cs ho (by omega)
  have s2 := e_spec_HandWay l cs ho (by omega)
  have i3 := e_impl_NearestFree u row col ho'
  have s3 := e_spec_NearestFree u row col ho'
  have hul : u.length ≤ 40 := k3.len
  have hll : l.length ≤ 40 := k1.len
  -- the second half
  have near : ∀ (c : Bool), (goodC u && okPl row && okPl col) = c → (c = true → ∃ p : Nat × Nat, nearP u row col = some p ∧ freeP u p.1 p.2 = true) := fun c hc h => by
    subst h
    simp only [Bool.and_eq_true] at hc
    have hcase := goodC_iff.1 hc.1.1
    exact nearP_is hcase.len.2
  cases hn : (goodC u && okPl row && okPl col)
  case false =>
    rw [hn, if_neg (by simp)] at i3 s3
    by_cases hq : okWay l cs = true ∧ 2 ≤ l.length
    case neg =>
      rw [if_neg hq] at i1 s1
      cases hq1 : okWay l cs <;> simp -implicitDefEqProofs [hbig, e1, i1, s1, i2, s2, hq1, e2, i3, s3]
    case pos =>
      rw [if_pos hq] at i1 s1
      obtain ⟨p, hp, hmin⟩ := bestP_is (cs := cs) hq.2
      rw [hp] at i1 s1
      have hq1 := hq.1
      simp -implicitDefEqProofs [hbig, e1, i1, s1, i2, s2, hq1, dX, dY, dW]
      refine loop_bind _ (loop_for l.length (fun i => [bytesD more, bxs l, txs cs, I p.1, I p.2, I (wayOf (swapB l p.1 p.2) cs), I l.length, I i]) (.ext 0 [bytesD more]) (fun i hi => ?_) ?_ rfl rfl) ?_
      · have hwi : IntKind.i64.wrap ((i : Int) + 1) = (i : Int) + 1 := wrap_id (by omega) (by omega)
        simp -implicitDefEqProofs [hi, hwi]
        refine loop_bind _ (loop_range (i + 1) l.length (by omega) (fun k => [bytesD more, bxs l, txs cs, I p.1, I p.2, I (wayOf (swapB l p.1 p.2) cs), I i, I k, I l.length, I i]) (.ext 2 [bytesD more, bxs l, txs cs, I p.1, I p.2, I (wayOf (swapB l p.1 p.2) cs), I l.length, I i]) (fun k hk1 hk2 => ?_) ?_ rfl rfl) ?_
        · have hwk : IntKind.i64.wrap ((k : Int) + 1) = (k : Int) + 1 := wrap_id (by omega) (by omega)
          have e5 := e_spec_SwapBoxes l i k ho (goodC_iff.2 (okWay_parts hq1).2.1) (by omega) hk2
          have e6 := e_impl_HandWay (swapB l i k) cs (swapB_ok ho hi hk2) (by omega)
          rw [okWay_swap hq1 (by omega) hk2] at e6
          have h7 : ¬ wayOf (swapB l i k) cs < wayOf (swapB l p.1 p.2) cs := by
            have := hmin i k (by omega) hk2
            omega
          by_cases h8 : (i : Int) = (p.1 : Int)
          · by_cases h9 : (k : Int) = (p.2 : Int)
            · have h10 : wayOf (swapB l i k) cs = wayOf (swapB l p.1 p.2) cs := by
                rw [show i = p.1 by omega, show k = p.2 by omega]
              simp -implicitDefEqProofs [hk2, hwk, e5, e6, h7]
              simp -implicitDefEqProofs [h8, h9, h10]
            · (simp -implicitDefEqProofs [hk2, hwk, e5, e6, h7]; simp -implicitDefEqProofs [h8, h9])
          · simp -implicitDefEqProofs [hk2, hwk, e5, e6, h7, h8]
        · simp -implicitDefEqProofs
        · simp -implicitDefEqProofs [hwi]
      · simp -implicitDefEqProofs
      · simp -implicitDefEqProofs [e2, i3, s3]
  case true =>
    rw [hn, if_pos rfl] at i3 s3
    obtain ⟨q, hqq, hfree⟩ := near true hn rfl
    rw [hqq] at i3 s3
    have free : ∀ (i : Nat) (hi : i < u.length), ¬ (u[i].2.1 = (q.1 : Int) ∧ u[i].2.2.1 = (q.2 : Int)) := fun i hi h => by
      have := allI_at hfree i hi
      simp [sameP, h.1, h.2] at this
    by_cases hq : okWay l cs = true ∧ 2 ≤ l.length
    case neg =>
      rw [if_neg hq] at i1 s1
      cases hq1 : okWay l cs <;> simp -implicitDefEqProofs [hbig, e1, i1, s1, i2, s2, hq1, e2, i3, s3, dX, dY]
      all_goals
        refine loop_bind _ (loop_for u.length (fun i => [I q.1, I q.2, bxs u, I u.length, I i]) (.ext 4 []) (fun i hi => ?_) ?_ rfl rfl) ?_
        · have hwi : IntKind.i64.wrap ((i : Int) + 1) = (i : Int) + 1 := wrap_id (by omega) (by omega)
          have hf := free i hi
          by_cases h1 : u[i].2.1 = (q.1 : Int)
          · have h2 : ¬ u[i].2.2.1 = (q.2 : Int) := fun h => hf ⟨h1, h⟩
            simp -implicitDefEqProofs [hi, hwi, h1, h2]
          · simp -implicitDefEqProofs [hi, hwi, h1]
        · simp -implicitDefEqProofs
        · simp -implicitDefEqProofs
    case pos =>
      rw [if_pos hq] at i1 s1
      obtain ⟨p, hp, hmin⟩ := bestP_is (cs := cs) hq.2
      rw [hp] at i1 s1
      have hq1 := hq.1
      simp -implicitDefEqProofs [hbig, e1, i1, s1, i2, s2, hq1, dX, dY, dW]
      refine loop_bind _ (loop_for l.length (fun i => [bytesD more, bxs l, txs cs, I p.1, I p.2, I (wayOf (swapB l p.1 p.2) cs), I l.length, I i]) (.ext 0 [bytesD more]) (fun i hi => ?_) ?_ rfl rfl) ?_
      · have hwi : IntKind.i64.wrap ((i : Int) + 1) = (i : Int) + 1 := wrap_id (by omega) (by omega)
        simp -implicitDefEqProofs [hi, hwi]
        refine loop_bind _ (loop_range (i + 1) l.length (by omega) (fun k => [bytesD more, bxs l, txs cs, I p.1, I p.2, I (wayOf (swapB l p.1 p.2) cs), I i, I k, I l.length, I i]) (.ext 2 [bytesD more, bxs l, txs cs, I p.1, I p.2, I (wayOf (swapB l p.1 p.2) cs), I l.length, I i]) (fun k hk1 hk2 => ?_) ?_ rfl rfl) ?_
        · have hwk : IntKind.i64.wrap ((k : Int) + 1) = (k : Int) + 1 := wrap_id (by omega) (by omega)
          have e5 := e_spec_SwapBoxes l i k ho (goodC_iff.2 (okWay_parts hq1).2.1) (by omega) hk2
          have e6 := e_impl_HandWay (swapB l i k) cs (swapB_ok ho hi hk2) (by omega)
          rw [okWay_swap hq1 (by omega) hk2] at e6
          have h7 : ¬ wayOf (swapB l i k) cs < wayOf (swapB l p.1 p.2) cs := by
            have := hmin i k (by omega) hk2
            omega
          by_cases h8 : (i : Int) = (p.1 : Int)
          · by_cases h9 : (k : Int) = (p.2 : Int)
            · have h10 : wayOf (swapB l i k) cs = wayOf (swapB l p.1 p.2) cs := by
                rw [show i = p.1 by omega, show k = p.2 by omega]
              simp -implicitDefEqProofs [hk2, hwk, e5, e6, h7]
              simp -implicitDefEqProofs [h8, h9, h10]
            · (simp -implicitDefEqProofs [hk2, hwk, e5, e6, h7]; simp -implicitDefEqProofs [h8, h9])
          · simp -implicitDefEqProofs [hk2, hwk, e5, e6, h7, h8]
        · simp -implicitDefEqProofs
        · simp -implicitDefEqProofs [hwi]
      · simp -implicitDefEqProofs
      · simp -implicitDefEqProofs [e2, i3, s3, dX, dY]
        refine loop_bind _ (loop_for u.length (fun i => [I q.1, I q.2, bxs u, I u.length, I i]) (.ext 4 []) (fun i hi => ?_) ?_ rfl rfl) ?_
        · have hwi : IntKind.i64.wrap ((i : Int) + 1) = (i : Int) + 1 := wrap_id (by omega) (by omega)
          have hf := free i hi
          by_cases h1 : u[i].2.1 = (q.1 : Int)
          · have h2 : ¬ u[i].2.2.1 = (q.2 : Int) := fun h => hf ⟨h1, h⟩
            simp -implicitDefEqProofs [hi, hwi, h1, h2]
          · simp -implicitDefEqProofs [hi, hwi, h1]
        · simp -implicitDefEqProofs
        · simp -implicitDefEqProofs

end Go.Proofs.Ytcnkgmbnmndahaa
