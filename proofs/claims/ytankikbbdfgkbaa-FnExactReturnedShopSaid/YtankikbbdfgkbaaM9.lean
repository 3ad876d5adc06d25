/-
  Marks that are held: a shop; laws.markShop over any shop; calls of both.
-/
import Derived.Test.YtankikbbdfgkbaaRows
import Derived.Test.YtankikbbdfgkbaaM8
import Derived.Deep.RegionHeld3
import Derived.Deep.DrawnRows
namespace Go.Proofs.Ytankikbbdfgkbaa
open Go Go.Proofs Go.V Go.RowKit
set_option linter.unusedSimpArgs false
set_option linter.unusedVariables false

theorem rem3 (k : Int) : bin .rem false [] (I k) (I 3) = some (I (k.tmod 3)) := by simp [bin, intBin]
theorem e_laws_heldStringS (k : Int) (n : Nat) (h : n ≤ 1048577) (h1 : 0 < k) (h2 : k ≤ 10000000000) : F_laws_heldStringS [txs (mksL k n), I k] = some (.ret [I (k + n)] []) := by
  rw [t_laws_heldStringS]
  refine loop_bind _ (loop_for n (fun i => [txs (mksL k n), I (k + i), I i]) (.ext 0 [I (k + n)]) (fun i hi => ?_) ?_ rfl ?_) ?_
  · have hw : IntKind.i64.wrap ((i : Int) + 1) = (i : Int) + 1 := wrap_id (by omega) (by omega)
    have w1 : IntKind.i64.wrap (k + (i : Int) + 1) = k + (i + 1) := by rw [wrap_id (by omega) (by omega)]; omega
    have hm := e_markText (k + i) (by omega) (by omega)
    simp -implicitDefEqProofs [mksL, hi, hw, w1, hm]
  · simp [mksL]
  · simp
  · simp
theorem e_laws_heldBoxS (k : Int) (n : Nat) (h : n ≤ 1048577) (h1 : 0 < k) (h2 : k ≤ 1000000000) : F_laws_heldBoxS [bxs (mksB k n), I k] = some (.ret [I (k + 4 * n)] []) := by
  rw [t_laws_heldBoxS]
  refine loop_bind _ (loop_for n (fun i => [bxs (mksB k n), I (k + 4 * i), I i]) (.ext 0 [I (k + 4 * n)]) (fun i hi => ?_) ?_ rfl ?_) ?_
  · have hw : IntKind.i64.wrap ((i : Int) + 1) = (i : Int) + 1 := wrap_id (by omega) (by omega)
    have w1 : IntKind.i64.wrap (k + 4 * (i : Int) + 1) = k + 4 * i + 1 := wrap_id (by omega) (by omega)
    have w2 : IntKind.i64.wrap (k + 4 * (i : Int) + 1 + 1) = k + 4 * i + 2 := by rw [wrap_id (by omega) (by omega)]; omega
    have w3 : IntKind.i64.wrap (k + 4 * (i : Int) + 2 + 1) = k + 4 * i + 3 := by rw [wrap_id (by omega) (by omega)]; omega
    have w4 : IntKind.i64.wrap (k + 4 * (i : Int) + 3 + 1) = k + 4 * (i + 1) := by rw [wrap_id (by omega) (by omega)]; omega
    have hm := e_markText (k + 4 * i) (by omega) (by omega)
    simp -implicitDefEqProofs [mksB, mkBx, hi, hw, w1, w2, w3, w4, hm]
  · simp [mksB]
  · simp
  · simp
theorem mkF_get : ∀ (l : List Fm) (k : Int) (i : Nat) (h : i < l.length), (mkF k l)[i]? = some (mkFm (k + totF (l.take i)) l[i])
  | [], _, _, h => by simp at h
  | x :: l, k, 0, _ => by simp [mkF, totF]
  | x :: l, k, i + 1, h => by
    have ih := mkF_get l (k + 3 + x.2.1.length) i (by simpa using h)
    simp only [mkF, List.getElem?_cons_succ, ih, List.take_succ_cons, totF, List.getElem_cons_succ]
    rw [show k + 3 + (x.2.1.length : Int) + totF (l.take i) = k + (3 + x.2.1.length + totF (l.take i)) by omega]
theorem e_laws_heldFormeS (l : List Fm) (k : Int) (hk : 0 < k) (hK : k + totF l ≤ 1000000000) (hln : l.length ≤ 1048576) (hls : ∀ x ∈ l, x.2.1.length ≤ 1048576) : F_laws_heldFormeS [fms (mkF k l), I k] = some (.ret [I (k + totF l)] []) := by
  rw [t_laws_heldFormeS]
  refine loop_bind _ (loop_for l.length (fun i => [fms (mkF k l), I (k + totF (l.take i)), I i]) (.ext 0 [I (k + totF l)]) (fun i hi => ?_) ?_ rfl ?_) ?_
  · have hw : IntKind.i64.wrap ((i : Int) + 1) = (i : Int) + 1 := wrap_id (by omega) (by omega)
    have ht0 := totF_nn (l.take i)
    have ht1 := tot_succ l hi
    have ht2 := tot_le l (i + 1)
    have ht3 := totF_nn (l.drop (i + 1))
    have hxl := hls l[i] (List.getElem_mem hi)
    have hl : (mkF k l).length = l.length := mkF_len l k
    have hi2 : i < (mkF k l).length := by omega
    have hge := fm_get hi2
    have hgx : (mkF k l)[i] = mkFm (k + totF (l.take i)) l[i] := Option.some.inj ((List.getElem?_eq_getElem hi2).symm.trans (mkF_get l k i hi))
    rw [hgx] at hge
    simp only [mkFm] at hge
    obtain ⟨q, hq⟩ : ∃ q, q = k + totF (l.take i) := ⟨_, rfl⟩
    rw [show k + totF (l.take (i + 1)) = q + 3 + l[i].2.1.length by omega]
    rw [← hq] at hge ⊢
    clear hgx
    generalize l[i] = x at *
    have hs := e_laws_heldStringS (q + 1) x.2.1.length (by omega) (by omega) (by omega)
    have e3 : (q + 1 + (x.2.1.length : Int)).tmod 3 = (q + 1 + (x.2.1.length : Int)) % 3 := Int.tmod_eq_emod_of_nonneg (by omega)
    have w1 : IntKind.i64.wrap (q + 1) = q + 1 := wrap_id (by omega) (by omega)
    have w2 : IntKind.i64.wrap (q + 1 + (x.2.1.length : Int) + 1) = q + 1 + x.2.1.length + 1 := wrap_id (by omega) (by omega)
    have w3 : IntKind.i64.wrap (q + 1 + (x.2.1.length : Int) + 1 + 1) = q + 3 + x.2.1.length := by rw [wrap_id (by omega) (by omega)]; omega
    have hneg : ¬ (q + 1 + (x.2.1.length : Int) < 0) := by omega
    have hi' : (i : Int) < (l.length : Int) := by omega
    simp -implicitDefEqProofs [hge, hl, hi', hs, e3, w1, w2, w3, hw, hneg, rem3, Int.natCast_add, Int.natCast_one]
    rfl
  · simp [mkF_len]
  · simp [totF]
  · simp
theorem e_laws_heldShop (s : Sp) (k : Int) (hs : okSp s) (hk : 0 < k) (hK : k + 4 * s.1.length + totF s.2.1 ≤ 1000000000) : F_laws_heldShop [sp (mkS k s), I k] = some (.ret [I (k + 4 * s.1.length + totF s.2.1)] []) := by
  rw [t_laws_heldShop]
  have ht := totF_nn s.2.1
  have e1 := e_laws_heldBoxS k s.1.length (by have := hs.1.1; omega) hk (by omega)
  have e2 := e_laws_heldFormeS s.2.1 (k + 4 * s.1.length) (by omega) (by omega) hs.2.1 hs.2.2
  have n1 : ¬ (k + 4 * (s.1.length : Int) < 0) := by omega
  have n2 : ¬ (k + 4 * (s.1.length : Int) + totF s.2.1 < 0) := by omega
  simp -implicitDefEqProofs [mkS, e1, e2, n1, n2]
set_option maxHeartbeats 4000000 in
set_option maxRecDepth 1000000 in
theorem markF_nil (k : Int) (w : World) :
    Calls Try.prog 38 #[.slice none 0 0, .int .i64 k] w fun e w' => e = .returned (.int .i64 k) ∧ w' = w := by
  go_enter Try.func38, Try.ntmps38
  go_wp2
  go_loopw [1, 5] (fun vk vi wr => vi = .int .i64 0 ∧ vk = .int .i64 k ∧ wr = w) (fun _ vi _ => 0)
  case atStart => exact ⟨rfl, rfl, rfl⟩
  case round =>
    obtain ⟨rfl, rfl, rfl⟩ := hrel
    go_wp2
    go_ret
    exact ⟨rfl, rfl⟩
theorem markF_any (l : List Fm) (k : Int) (hk : 0 < k) (hK : k + totF l ≤ 1000000000) (hln : l.length ≤ 1048576) (hls : ∀ x ∈ l, x.2.1.length ≤ 1048576) (w : World) (B : Nat) (A : Option Addr) (n c : Nat) (ys : List Value) (h : FmsAt w B (.slice A n c) ys l) :
    Calls Try.prog 38 #[.slice A n c, .int .i64 k] w fun e w' => e = .returned (.int .i64 (k + totF l)) ∧ FmsAt w' B (.slice A n c) ys (mkF k l) ∧ KeptX (FmS (.slice A n c) ys) w w' := by
  obtain ⟨h1, ⟨e, h2⟩ | ⟨g, cap, cur, e, _⟩⟩ := h.own
  · cases e
    obtain rfl : l = [] := List.eq_nil_of_length_eq_zero h2
    refine (markF_nil k w).mono ?_
    rintro e w' ⟨rfl, rfl⟩
    exact ⟨by simp [totF], by simpa [mkF] using h, KeptX.refl _ _⟩
  · cases e
    exact markF_walk l k hk hK hln hls w B g _ ys h
set_option maxHeartbeats 4000000 in
set_option maxRecDepth 1000000 in
theorem markShop_any (s : Sp) (k : Int) (hs : okSp s) (hk : 0 < k) (hK : k + 4 * s.1.length + totF s.2.1 ≤ 1000000000) (w : World) (B : Nat) (v Vb Vf : Value) (ys : List Value) (h : ShopAt w B v Vb Vf ys s) :
    Calls Try.prog 13 #[v, .int .i64 k] w fun e w' => e = .returned (.int .i64 (k + 4 * s.1.length + totF s.2.1)) ∧ ShopAt w' B v Vb Vf ys (mkS k s) ∧ KeptX (ShS Vb Vf ys) w w' := by
  have ht := totF_nn s.2.1
  have hlt := h.lt
  obtain ⟨rfl, hb, hge, hf, hd⟩ := h
  obtain ⟨bA, bn, bc, rfl⟩ := own_slice hb
  obtain ⟨fA, fn, fc, rfl⟩ := row_slice hf.own
  go_enter Try.func13, Try.ntmps13
  have hc1 := fun (a : Obj) => call_markBoxS s.1 k (by have := hs.1.1; omega) hk (by omega) (w := w.alloc a) (y := .slice bA bn bc) (own_keep hb fun b h1 => alloc_lt _ (own_lt hb b h1)) (fun b h1 => by have := own_lt hb b h1; simp; omega)
  go_wp2_with (go_at_call 37; refine (hc1 _).mono ?_)
  rintro e w2 ⟨rfl, hb2, hx2⟩
  have H1 : w2.heap[w.heap.size]? = some (.cells #[.slice bA bn bc, .slice fA fn fc, .int .i64 s.2.2.1, .int .i64 s.2.2.2] 33 (0, 0)) := (hx2.block _ (by simp) fun h1 => by have := own_lt hb _ h1; omega).trans (at_alloc _ rfl)
  have c1 := (cells4 H1).2.1
  have hX2 : KeptX (ownB (.slice bA bn bc)) w w2 := by
    refine ⟨hx2.os, hx2.tape, hx2.output, Nat.le_trans (by simp) hx2.size, fun b h1 h2 => (hx2.block b (by simp; omega) h2).trans (alloc_lt _ h1)⟩
  have hf2 := hf.keep (w' := w2) fun b hb1 => hX2.block b (hlt b (.inr hb1)).2 fun h1 => hd b h1 hb1
  have hc2 := markF_any s.2.1 (k + 4 * s.1.length) (by omega) (by omega) hs.2.1 hs.2.2 w2 B fA fn fc ys hf2
  go_wp2_with (go_at_call 38; refine hc2.mono ?_)
  rintro e w3 ⟨rfl, hf3, hx3⟩
  go_wp2
  go_ret
  refine ⟨rfl, ⟨rfl, own_keep hb2 fun b h1 => hx3.block b (own_lt hb2 b h1) (hd b h1), hge, hf3, hd⟩, (hX2.mono fun b h1 => .inl h1).trans (hx3.mono fun b h1 => .inr h1)⟩
set_option maxRecDepth 100000 in
theorem call_heldShop (s : Sp) (k : Int) (hs : okSp s) (hk : 0 < k) (hK : k + 4 * s.1.length + totF s.2.1 ≤ 1000000000) {w : World} {F : Nat → Prop} {y : Value} (hr : RepV w F (sp (mkS k s)) y) (hF : ∀ b, F b → b < w.heap.size) :
    Calls Try.prog 18 #[y, .int .i64 k] w fun e w' => e = .returned (.int .i64 (k + 4 * s.1.length + totF s.2.1)) ∧ Below w.heap.size w w' :=
  calls_dat1 (Go.Proofs.enters_of Try.func18 (by kernel_rfl) rfl) M_laws_heldShop (e_laws_heldShop s k hs hk hK) hr hF
end Go.Proofs.Ytankikbbdfgkbaa
/-
  The law of ReturnedShop, walked by hand (printed by lawret.py).
-/
namespace Go.Proofs.Ytankikbbdfgkbaa
open Go Go.Proofs Go.V Go.RowKit
set_option linter.unusedSimpArgs false
set_option linter.unusedVariables false
attribute [local go_sem ↓] Go.wp_at_zero Go.wp_at_succ

theorem retS_ok {s : Sp} (h : okSp s) : okSp (retS s) := by
  unfold retS
  split
  · exact ⟨okBx_cods h.1 (mvs_cods _ _), by simp [okFm]⟩
  · exact ⟨by simp [okBx], by simp [okFm]⟩
theorem retS_tot {s : Sp} : totF (retS s).2.1 = 0 := by
  unfold retS
  split <;> rfl
theorem ShopAt.keptX {S : Nat → Prop} {w w' : World} {B : Nat} {v Vb Vf : Value} {ys : List Value} {s : Sp} (h : ShopAt w B v Vb Vf ys s) (hX : KeptX S w w') (hS : ∀ b, ShS Vb Vf ys b → ¬ S b) : ShopAt w' B v Vb Vf ys s :=
  h.keep fun b hb => hX.block b (h.lt b hb).2 (hS b hb)
theorem alloc_size (w : World) (o : Obj) : (w.alloc o).heap.size = w.heap.size + 1 := by simp
set_option maxHeartbeats 16000000 in
set_option maxRecDepth 1000000 in
theorem retLaw_walk (s : Sp) (hs : inSp s) (v0 : Value) (w : World) (F : Nat → Prop) (hr : RepV w F (sp s) v0) (hF : ∀ b, F b → b < w.heap.size) :
    Calls Try.prog 4 #[v0] w fun e w' => e = .returned (.bool true) ∧ Below w.heap.size w w' := by
  obtain ⟨A, n, c, A', n', c', rfl, hb0, hf0⟩ := shop_parts hr
  obtain ⟨m, em, m0, m1⟩ := sz_Shop s hs
  go_enter Try.func4, Try.ntmps4
  have B0 : ∀ o, Below w.heap.size w (w.alloc o) := fun o => below_alloc w o
  have rep : ∀ {W : World}, Below w.heap.size w W → RepV W F (sp s) (.agg #[.slice A n c, .slice A' n' c', .int .i64 s.2.2.1, .int .i64 s.2.2.2]) := fun {W} h => RepV_mono (fun _ h => h) (fun b hb => h.block b (hF b hb)) hr
  have hFW : ∀ {W : World}, Below w.heap.size w W → ∀ b, F b → b < W.heap.size := fun {W} h b hb => Nat.lt_of_lt_of_le (hF b hb) h.size
  have hc1 := fun o => call_szShop s m em (rep (B0 o)) (hFW (B0 o))
  go_wp2_with (go_at_call 7; refine (hc1 _).mono ?_)
  rintro e w1 ⟨rfl, b1⟩
  have bx : w1.heap[w.heap.size]? = some (.cells #[.slice A n c, .slice A' n' c', .int .i64 s.2.2.1, .int .i64 s.2.2.2] 25 (0, 0)) := Below.some b1 (at_alloc _ rfl)
  have B1 : Below w.heap.size w w1 := bel_on (B0 _) b1 (by simp)
  clear b1 hc1
  by_cases hm : m < 0
  · go_wp2
    go_ret
    exact ⟨rfl, B1⟩
  obtain ⟨hok, htot⟩ := m1 (by omega)
  have hRok := retS_ok hok
  have hRtot : totF (retS s).2.1 = 0 := retS_tot
  have hRl := hRok.1.1
  have hc2 := toShop_walk s hok _ w1 F (rep B1) (hFW B1)
  obtain ⟨cb0, cb1, cb2, cb3⟩ := cells4 bx
  go_wp2_with (go_at_call 9; refine hc2.mono ?_)
  rintro e w2 ⟨va, Va, ga, capa, ya, rfl, sa, b2⟩
  clear hc2 cb0 cb1 cb2 cb3
  replace bx := Below.some b2 bx
  have B2 := bel_on B1 b2 B1.size
  have hc3 := spec_ReturnedShop_walk s hok _ w2 _ sa.rep (fun b hb => (sa.lt b hb).2)
  go_wp2_with (go_at_call 16; refine hc3.mono ?_)
  rintro e w3 ⟨vW, rfl, hW, b3⟩
  obtain ⟨VbW, VfW, yW, sW⟩ := hW
  generalize hR : retS s = R at *
  have fW := sW.lt
  obtain rfl := sW.val
  obtain ⟨wA, wn, wc, rfl⟩ := own_slice sW.box
  obtain ⟨wfA, wfn, wfc, rfl⟩ := row_slice sW.fms.own
  replace bx := Below.some b3 bx
  have B3 := bel_on B2 b3 B2.size
  have bxlt := some_lt bx
  have hs3 := b3.size
  clear hc3 b2 b3 sa

  have ba := below_alloc w3 (.cells #[.slice wA wn wc, .slice wfA wfn wfc, .int .i64 R.2.2.1, .int .i64 R.2.2.2] 33)
  have b4x : (w3.alloc (.cells #[.slice wA wn wc, .slice wfA wfn wfc, .int .i64 R.2.2.1, .int .i64 R.2.2.2] 33)).heap[w3.heap.size]? = some (.cells #[.slice wA wn wc, .slice wfA wfn wfc, .int .i64 R.2.2.1, .int .i64 R.2.2.2] 33 (0, 0)) := at_alloc _ rfl
  replace bx := Below.some ba bx
  replace sW := sW.below ba
  replace B3 := bel_on B3 ba B3.size
  have sz3 : (w3.alloc (.cells #[.slice wA wn wc, .slice wfA wfn wfc, .int .i64 R.2.2.1, .int .i64 R.2.2.2] 33)).heap.size = w3.heap.size + 1 := alloc_size _ _
  clear ba
  have hc4 := toShop_walk s hok _ _ F (rep B3) (hFW B3)
  obtain ⟨cb0, cb1, cb2, cb3⟩ := cells4 bx
  go_wp2_with (go_at_call 9; refine hc4.mono ?_)
  rintro e w4 ⟨vx, Vb, g, cap, ys, rfl, sx, b4⟩
  have fx := sx.lt
  obtain ⟨bA, bn, bc, rfl⟩ := own_slice sx.box
  obtain rfl := sx.val
  clear hc4 cb0 cb1 cb2 cb3
  replace bx := Below.some b4 bx
  replace b4x := Below.some b4 b4x
  replace sW := sW.below b4
  have B4 := bel_on B3 b4 B3.size
  have hs4 := b4.size
  clear b4
  have ba := below_alloc w4 (.cells #[.slice bA bn bc, .slice (some ⟨g, 0, none⟩) s.2.1.length cap, .int .i64 s.2.2.1, .int .i64 s.2.2.2] 33)
  have b6x : (w4.alloc (.cells #[.slice bA bn bc, .slice (some ⟨g, 0, none⟩) s.2.1.length cap, .int .i64 s.2.2.1, .int .i64 s.2.2.2] 33)).heap[w4.heap.size]? = some (.cells #[.slice bA bn bc, .slice (some ⟨g, 0, none⟩) s.2.1.length cap, .int .i64 s.2.2.1, .int .i64 s.2.2.2] 33 (0, 0)) := at_alloc _ rfl
  replace bx := Below.some ba bx
  replace b4x := Below.some ba b4x
  replace sW := sW.below ba
  replace sx := sx.below ba
  replace B4 := bel_on B4 ba B4.size
  have sz4 : (w4.alloc (.cells #[.slice bA bn bc, .slice (some ⟨g, 0, none⟩) s.2.1.length cap, .int .i64 s.2.2.1, .int .i64 s.2.2.2] 33)).heap.size = w4.heap.size + 1 := alloc_size _ _
  clear ba
  have hc5 := impl_ReturnedShop_walk s hok _ _ _ sx.rep (fun b hb => (sx.lt b hb).2)
  go_wp2_with (go_at_call 17; refine hc5.mono ?_)
  rintro e w5 ⟨vG, rfl, hG, b5⟩
  rw [hR] at hG
  obtain ⟨VbG, VfG, yG, sG⟩ := hG
  have fG := sG.lt
  obtain rfl := sG.val
  obtain ⟨gA, gn, gc, rfl⟩ := own_slice sG.box
  obtain ⟨gfA, gfn, gfc, rfl⟩ := row_slice sG.fms.own
  clear hc5
  replace bx := Below.some b5 bx
  replace b4x := Below.some b5 b4x
  replace b6x := Below.some b5 b6x
  replace sW := sW.below b5
  replace sx := sx.below b5
  have B5 := bel_on B4 b5 B4.size
  have hs5 := b5.size
  clear b5
  have ba := below_alloc w5 (.cells #[.slice gA gn gc, .slice gfA gfn gfc, .int .i64 R.2.2.1, .int .i64 R.2.2.2] 33)
  have b7x : (w5.alloc (.cells #[.slice gA gn gc, .slice gfA gfn gfc, .int .i64 R.2.2.1, .int .i64 R.2.2.2] 33)).heap[w5.heap.size]? = some (.cells #[.slice gA gn gc, .slice gfA gfn gfc, .int .i64 R.2.2.1, .int .i64 R.2.2.2] 33 (0, 0)) := at_alloc _ rfl
  replace bx := Below.some ba bx
  replace b4x := Below.some ba b4x
  replace b6x := Below.some ba b6x
  replace sW := sW.below ba
  replace sx := sx.below ba
  replace sG := sG.below ba
  replace B5 := bel_on B5 ba B5.size
  have sz5 : (w5.alloc (.cells #[.slice gA gn gc, .slice gfA gfn gfc, .int .i64 R.2.2.1, .int .i64 R.2.2.2] 33)).heap.size = w5.heap.size + 1 := alloc_size _ _
  clear ba
  have hc6 := call_eqShop R hRok sG.rep (fun b hb => (sG.lt b hb).2) sW.rep (fun b hb => (sW.lt b hb).2)
  obtain ⟨cg0, cg1, cg2, cg3⟩ := cells4 b7x
  obtain ⟨cw0, cw1, cw2, cw3⟩ := cells4 b4x
  go_wp2_with (go_at_call 12; refine hc6.mono ?_)
  rintro e w6 ⟨rfl, b6⟩
  clear hc6 cg0 cg1 cg2 cg3 cw0 cw1 cw2 cw3
  replace bx := Below.some b6 bx
  replace b4x := Below.some b6 b4x
  replace b6x := Below.some b6 b6x
  replace b7x := Below.some b6 b7x
  replace sW := sW.below b6
  replace sx := sx.below b6
  replace sG := sG.below b6
  have B6 := bel_on B5 b6 B5.size
  have hs6 := b6.size
  clear b6
  go_wp2
  have b6d := below_drew w6
  have bx6 := Below.some b6d bx
  have six6 := Below.some b6d b6x
  have B6d := bel_on B6 b6d B6.size
  obtain ⟨cb0, cb1, cb2, cb3⟩ := cells4 bx6
  obtain ⟨cs0, cs1, cs2, cs3⟩ := cells4 six6
  have hc7 := toShop_walk s hok _ w6.drew F (rep B6d) (hFW B6d)
  go_region_held3 (fun w' => w'.cell? ⟨w.heap.size, 0, none⟩ = some (.slice A n c) ∧ w'.cell? ⟨w.heap.size, 1, none⟩ = some (.slice A' n' c') ∧ w'.cell? ⟨w.heap.size, 2, none⟩ = some (.int .i64 s.2.2.1) ∧ w'.cell? ⟨w.heap.size, 3, none⟩ = some (.int .i64 s.2.2.2) ∧ w'.cell? ⟨w4.heap.size, 0, none⟩ = some (.slice bA bn bc) ∧ w'.cell? ⟨w4.heap.size, 1, none⟩ = some (.slice (some ⟨g, 0, none⟩) s.2.1.length cap) ∧ w'.cell? ⟨w4.heap.size, 2, none⟩ = some (.int .i64 s.2.2.1) ∧ w'.cell? ⟨w4.heap.size, 3, none⟩ = some (.int .i64 s.2.2.2)) (first | (refine ⟨?_, ?_, ?_, ?_, ?_, ?_, ?_, ?_⟩ <;> assumption) | go_keep)
    (first
      | (go_at_call 9; refine hc7.mono ?_; rintro e w7 ⟨vz, Vz, gz, capz, yz, rfl, sz, b7⟩; obtain ⟨cc0, cc1, cc2, cc3⟩ := cells4 (Below.some b7 bx6); obtain ⟨ct0, ct1, ct2, ct3⟩ := cells4 (Below.some b7 six6))
      | (go_at_call 12; refine (call_eqShop s hok ((sx.below b6d).below b7).rep (fun b hb => (((sx.below b6d).below b7).lt b hb).2) sz.rep (fun b hb => (sz.lt b hb).2)).mono ?_; rintro e w8 ⟨rfl, b8⟩; obtain ⟨cu0, cu1, cu2, cu3⟩ := cells4 (Below.some b8 (Below.some b7 bx6)); obtain ⟨cv0, cv1, cv2, cv3⟩ := cells4 (Below.some b8 (Below.some b7 six6))))
  have K8 : Below w6.heap.size w6 w8 := (b6d.trans b7).trans (b8.mono b7.size)
  clear hc7 b7 b8 b6d bx6 six6 B6d sz cb0 cb1 cb2 cb3 cs0 cs1 cs2 cs3 cc0 cc1 cc2 cc3 ct0 ct1 ct2 ct3 cu0 cu1 cu2 cu3 cv0 cv1 cv2 cv3
  have b8 := K8
  replace bx := Below.some b8 bx
  replace b4x := Below.some b8 b4x
  replace b6x := Below.some b8 b6x
  replace b7x := Below.some b8 b7x
  replace sW := sW.below b8
  replace sx := sx.below b8
  replace sG := sG.below b8
  have B8 := bel_on B6 b8 B6.size
  have hs8 := b8.size
  clear b8 K8
  have hl1 := hok.1.1
  have htn := totF_nn s.2.1
  have bl7 := some_lt b7x
  obtain ⟨cs0, cs1, cs2, cs3⟩ := cells4 b6x
  have hc9 := markShop_any s 1 hok (by omega) (by omega) w8 _ _ _ _ ys sx
  go_wp2_with (go_at_call 13; refine hc9.mono ?_)
  rintro e w9 ⟨rfl, sx9, x9⟩
  have fx' : ∀ b, ShS (.slice bA bn bc) (.slice (some ⟨g, 0, none⟩) s.2.1.length cap) ys b → w3.heap.size + 1 ≤ b ∧ b < w4.heap.size := fun b hb => by have := fx b hb; omega
  have fG' : ∀ b, ShS (.slice gA gn gc) (.slice gfA gfn gfc) yG b → w4.heap.size + 1 ≤ b ∧ b < w5.heap.size := fun b hb => by have := fG b hb; omega
  have fW' : ∀ b, ShS (.slice wA wn wc) (.slice wfA wfn wfc) yW b → w2.heap.size ≤ b ∧ b < w3.heap.size := fun b hb => by have := fW b hb; omega
  replace bx := KeptX.some x9 bx fun h => by have := fx' _ h; omega
  replace b4x := KeptX.some x9 b4x fun h => by have := fx' _ h; omega
  replace b7x := KeptX.some x9 b7x fun h => by have := fx' _ h; omega
  replace sW := sW.keptX x9 fun b hb h => by have := fW' b hb; have := fx' b h; omega
  replace sG := sG.keptX x9 fun b hb h => by have := fG' b hb; have := fx' b h; omega
  have B9 : Below w.heap.size w w9 := B8.trans (x9.below (fun b hb => by have := fx' b hb; omega) B8.size)
  have hs9 := x9.size
  clear hc9 x9 cs0 cs1 cs2 cs3 sx b6x sx9
  have hk9 : ¬ (1 + 4 * (s.1.length : Int) + totF s.2.1 < 0) := by omega
  have hc10 := call_eqShop R hRok sG.rep (fun b hb => (sG.lt b hb).2) sW.rep (fun b hb => (sW.lt b hb).2)
  obtain ⟨cg0, cg1, cg2, cg3⟩ := cells4 b7x
  obtain ⟨cw0, cw1, cw2, cw3⟩ := cells4 b4x
  go_wp2_with (go_at_call 12; refine hc10.mono ?_)
  rintro e w10 ⟨rfl, b10⟩
  clear hc10 cg0 cg1 cg2 cg3 cw0 cw1 cw2 cw3
  replace bx := Below.some b10 bx
  replace b4x := Below.some b10 b4x
  replace b7x := Below.some b10 b7x
  replace sW := sW.below b10
  replace sG := sG.below b10
  have B10 := bel_on B9 b10 B9.size
  have hs10 := b10.size
  clear b10
  have hc11 := markShop_any R 1 hRok (by omega) (by omega) w10 _ _ _ _ yG sG
  obtain ⟨cg0, cg1, cg2, cg3⟩ := cells4 b7x
  go_wp2_with (go_at_call 13; refine hc11.mono ?_)
  rintro e w11 ⟨rfl, sG11, x11⟩
  replace bx := KeptX.some x11 bx fun h => by have := fG' _ h; omega
  replace b4x := KeptX.some x11 b4x fun h => by have := fG' _ h; omega
  replace b7x := KeptX.some x11 b7x fun h => by have := fG' _ h; omega
  replace sW := sW.keptX x11 fun b hb h => by have := fW' b hb; have := fG' b h; omega
  have B11 : Below w.heap.size w w11 := B10.trans (x11.below (fun b hb => by have := fG' b hb; omega) B10.size)
  have hs11 := x11.size
  clear hc11 x11 cg0 cg1 cg2 cg3 sG
  have hc12 := call_heldShop R 1 hRok (by omega) (by omega) sG11.rep (fun b hb => (sG11.lt b hb).2)
  obtain ⟨cg0, cg1, cg2, cg3⟩ := cells4 b7x
  go_wp2_with (go_at_call 18; refine hc12.mono ?_)
  rintro e w12 ⟨rfl, b12⟩
  clear hc12 cg0 cg1 cg2 cg3
  replace bx := Below.some b12 bx
  replace b4x := Below.some b12 b4x
  replace b7x := Below.some b12 b7x
  replace sW := sW.below b12
  replace sG11 := sG11.below b12
  have B12 := bel_on B11 b12 B11.size
  have hs12 := b12.size
  clear b12
  have hRn := totF_nn R.2.1
  have hq : ¬ (1 + 4 * (R.1.length : Int) + totF R.2.1 < 0) := by omega
  have hc13 := toShop_walk s hok _ w12 F (rep B12) (hFW B12)
  obtain ⟨cb0, cb1, cb2, cb3⟩ := cells4 bx
  go_wp2_with (go_at_call 9; refine hc13.mono ?_)
  rintro e w13 ⟨vh, Vh, gh, caph, yh, rfl, sh, b13⟩
  clear hc13 cb0 cb1 cb2 cb3
  replace bx := Below.some b13 bx
  replace b4x := Below.some b13 b4x
  replace b7x := Below.some b13 b7x
  replace sW := sW.below b13
  replace sG11 := sG11.below b13
  have B13 := bel_on B12 b13 B12.size
  have hs13 := b13.size
  clear b13
  have hc14 := impl_ReturnedShop_walk s hok _ w13 _ sh.rep (fun b hb => (sh.lt b hb).2)
  go_wp2_with (go_at_call 17; refine hc14.mono ?_)
  rintro e w14 ⟨vH, rfl, hH, b14⟩
  rw [hR] at hH
  obtain ⟨VbH, VfH, yH, sH⟩ := hH
  obtain rfl := sH.val
  obtain ⟨hA, hn, hc, rfl⟩ := own_slice sH.box
  obtain ⟨hfA, hfn, hfc, rfl⟩ := row_slice sH.fms.own
  clear hc14 sh
  replace bx := Below.some b14 bx
  replace b4x := Below.some b14 b4x
  replace b7x := Below.some b14 b7x
  replace sW := sW.below b14
  replace sG11 := sG11.below b14
  have B14 := bel_on B13 b14 B13.size
  have hs14 := b14.size
  clear b14
  have ba := below_alloc w14 (.cells #[.slice hA hn hc, .slice hfA hfn hfc, .int .i64 R.2.2.1, .int .i64 R.2.2.2] 33)
  have b12x : (w14.alloc (.cells #[.slice hA hn hc, .slice hfA hfn hfc, .int .i64 R.2.2.1, .int .i64 R.2.2.2] 33)).heap[w14.heap.size]? = some (.cells #[.slice hA hn hc, .slice hfA hfn hfc, .int .i64 R.2.2.1, .int .i64 R.2.2.2] 33 (0, 0)) := at_alloc _ rfl
  replace bx := Below.some ba bx
  replace b4x := Below.some ba b4x
  replace b7x := Below.some ba b7x
  replace sW := sW.below ba
  replace sG11 := sG11.below ba
  replace sH := sH.below ba
  replace B14 := bel_on B14 ba B14.size
  have sz14 : (w14.alloc (.cells #[.slice hA hn hc, .slice hfA hfn hfc, .int .i64 R.2.2.1, .int .i64 R.2.2.2] 33)).heap.size = w14.heap.size + 1 := alloc_size _ _
  clear ba
  have hc15 := call_eqShop R hRok sH.rep (fun b hb => (sH.lt b hb).2) sW.rep (fun b hb => (sW.lt b hb).2)
  obtain ⟨cg0, cg1, cg2, cg3⟩ := cells4 b12x
  obtain ⟨cw0, cw1, cw2, cw3⟩ := cells4 b4x
  go_wp2_with (go_at_call 12; refine hc15.mono ?_)
  rintro e w15 ⟨rfl, b15⟩
  clear hc15 cg0 cg1 cg2 cg3 cw0 cw1 cw2 cw3 sW sH
  replace bx := Below.some b15 bx
  replace b7x := Below.some b15 b7x
  replace sG11 := sG11.below b15
  have B15 := bel_on B14 b15 B14.size
  have hs15 := b15.size
  clear b15
  have hc16 := call_heldShop R 1 hRok (by omega) (by omega) sG11.rep (fun b hb => (sG11.lt b hb).2)
  obtain ⟨cg0, cg1, cg2, cg3⟩ := cells4 b7x
  go_wp2_with (go_at_call 18; refine hc16.mono ?_)
  rintro e w16 ⟨rfl, b16⟩
  have B16 := bel_on B15 b16 B15.size
  clear hc16 b16 cg0 cg1 cg2 cg3
  go_wp2
  go_ret
  exact ⟨rfl, B16⟩
@[reducible] noncomputable def S_laws_FnExactReturnedShop : FS := { pm := [.dat 2], rm := [.dat 0], f := fShop }
set_option maxRecDepth 100000 in
theorem M_laws_FnExactReturnedShop : Meets gl0 Try.prog 4 S_laws_FnExactReturnedShop :=
  meets_shop (Go.Proofs.enters_of Try.func4 (by kernel_rfl) rfl) fun s hs v0 w F => retLaw_walk s hs v0 w F
end Go.Proofs.Ytankikbbdfgkbaa
