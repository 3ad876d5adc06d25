/-
  impl.subsets, walked by hand: all increasing lists, each in a block of its own.
-/
import Derived.Test.YtaphcpfkgpaefaaRows
import Derived.Test.YtaphcpfkgpaefaaM6
namespace Go.Proofs.Ytaphcpfkgpaefaa
open Go Go.Proofs Go.V Go.RowKit
set_option linter.unusedSimpArgs false
set_option linter.unusedVariables false

theorem exP_succ (s : List Int) (j : Nat) : exP s (j + 1) = exP s j ++ if nxI s ≤ (j : Int) then [s ++ [(j : Int)]] else [] := by
  unfold exP
  rw [List.range_succ, List.filter_append, List.map_append]
  congr 1
  by_cases h : nxI s ≤ (j : Int) <;> simp [h]
theorem exP_none (s : List Int) (j : Nat) (h : (j : Int) ≤ nxI s) : exP s j = [] := by
  unfold exP
  rw [List.map_eq_nil_iff, List.filter_eq_nil_iff]
  intro k hk
  have := List.mem_range.1 hk
  simp
  omega
theorem st_pre (n : Nat) : ∀ (d i : Nat), ∃ r, stL n (i + d) = stL n i ++ r
  | 0, i => ⟨[], by simp⟩
  | d + 1, i => by
    obtain ⟨r, hr⟩ := st_pre n d i
    exact ⟨_, by rw [← Nat.add_assoc, stL, hr, List.append_assoc]⟩
/-- The list that is looked at in round i. -/
theorem st_at {n i : Nat} (hn : n < 9) (hi : i < 2 ^ n) : ∃ s, (stL n i)[i]? = some s ∧ s ∈ subsI n := by
  have h1 := (st_lt hn).1 i hi
  refine ⟨(stL n i)[i], by rw [List.getElem?_eq_getElem h1], ?_⟩
  obtain ⟨r, hr⟩ := st_pre n (2 ^ n - i) i
  rw [show i + (2 ^ n - i) = 2 ^ n by omega] at hr
  unfold subsI
  rw [hr]
  exact List.mem_append_left _ (List.getElem_mem h1)
theorem nx_le {n : Nat} (hn : n < 9) {s : List Int} (hs : s ∈ subsI n) : 0 ≤ nxI s ∧ nxI s ≤ n := by
  have h := ((tab_parts hn).2.1 s hs).1
  unfold nxI
  cases hl : s.getLast? with
  | none => simp
  | some x =>
    have := h x (List.mem_of_getLast? hl)
    simp
    omega
/-- A list of numbers in a block of its own. -/
def RowO (W : World) (B : Nat) (v : Value) (o : List Int) : Prop := ∃ g cap cur, v = .slice (some ⟨g, 0, none⟩) o.length cap ∧ B ≤ g ∧ W.heap[g]? = some (.cells cur 3 (0, 0)) ∧
  o.length ≤ cap ∧ cap ≤ cur.size ∧ ∀ (i : Nat) (u : Value), (o.map (Value.int .i64))[i]? = some u → cur[i]? = some u
theorem RowO.kept {W W' : World} {B : Nat} {v : Value} {o : List Int} (h : RowO W B v o) (hk : ∀ (g : Nat) (cur : Array Value), W.heap[g]? = some (.cells cur 3 (0, 0)) → W'.heap[g]? = W.heap[g]?) : RowO W' B v o := by
  obtain ⟨g, cap, cur, h1, h2, h5, h6⟩ := h
  exact ⟨g, cap, cur, h1, h2, (hk g cur h5).trans h5, h6⟩
theorem RowO.below {W W' : World} {B : Nat} {v : Value} {o : List Int} (h : RowO W B v o) (hb : Below W.heap.size W W') : RowO W' B v o :=
  h.kept fun g cur hg => hb.block g (Array.getElem?_eq_some_iff.1 hg).1
theorem RowO.rep {W : World} {B : Nat} {v : Value} {o : List Int} (h : RowO W B v o) : ∃ g, g < W.heap.size ∧ RepV W (fun b => b = g) (ints o) v := by
  obtain ⟨g, cap, cur, rfl, h2, h5, h6, h7, h8⟩ := h
  refine ⟨g, (Array.getElem?_eq_some_iff.1 h5).1, ?_⟩
  have ho : OwnV W (fun _ => False) (fun b => b = g) 1 (ints o) (.slice (some ⟨g, 0, none⟩) o.length cap) :=
    ⟨o.map I, rfl, fun x hx => by obtain ⟨s, _, rfl⟩ := List.mem_map.1 hx; rfl, .inr ⟨g, 0, cap, o.map (Value.int .i64), cur, _, by rw [List.length_map], by rw [List.length_map]; exact h6, h5, by omega, RepL_ints _, fun i u hu => by rw [Nat.zero_add]; exact h8 i u hu, rfl⟩⟩
  exact RepV_mono (fun b hb => hb.elim False.elim id) (fun _ _ => rfl) (OwnV_rep ho)
theorem RowO.of {W : World} {B b : Nat} {v : Value} {o : List Int} (h : W.ownsRow b 3 1 v o.length (o.map (Value.int .i64))) (hb : B ≤ b) (hn : v ≠ .slice none 0 0) : RowO W B v o := by
  obtain ⟨_, ⟨hv, _⟩ | ⟨g, cap, cur, rfl, hge, hg, hcap, _, hcs, ht⟩⟩ := h
  · exact absurd hv hn
  · exact ⟨g, cap, cur, rfl, by omega, hg, hcap, by omega, take_get ht⟩
/-- A list of such lists. -/
structure LstO (W : World) (B : Nat) (v : Value) (L : List (List Int)) (vs : List Value) : Prop where
  own : W.ownsRow B 24 1 v L.length vs
  row : ∀ (i : Nat) (s : List Int), L[i]? = some s → ∃ y, vs[i]? = some y ∧ RowO W B y s
theorem LstO.cell {W : World} {B g cap n : Nat} {L : List (List Int)} {vs : List Value} (h : LstO W B (.slice (some ⟨g, 0, none⟩) n cap) L vs) {i : Nat} {s : List Int} (hi : L[i]? = some s) : ∃ y, W.cell? ⟨g, i, none⟩ = some y ∧ RowO W B y s := by
  obtain ⟨y, h1, h2⟩ := h.row i s hi
  have := h.own.cells (g := g) rfl i y h1
  rw [add_zero_at] at this
  exact ⟨y, this, h2⟩
theorem LstO.below {W W' : World} {B : Nat} {v : Value} {L : List (List Int)} {vs : List Value} (h : LstO W B v L vs) (hb : Below W.heap.size W W') : LstO W' B v L vs :=
  ⟨h.own.kept (row := none) ⟨hb.os, hb.tape, hb.output, hb.size, fun k hk _ => hb.block k hk⟩ (by cases hv : v.ownBlock <;> simp), fun i s hi => by
    obtain ⟨y, h1, h2⟩ := h.row i s hi
    exact ⟨y, h1, h2.below hb⟩⟩
theorem LstO.ne {W : World} {B g : Nat} {v : Value} {L : List (List Int)} {vs : List Value} (h : LstO W B v L vs) {cur : Array Value} (hg : W.heap[g]? = some (.cells cur 3 (0, 0))) : some g ≠ v.ownBlock := by
  obtain ⟨_, ⟨rfl, _⟩ | ⟨g', cap, cur', rfl, _, hg', _⟩⟩ := h.own
  · simp [Value.ownBlock]
  · intro e
    simp only [Value.ownBlock, Option.some.injEq] at e
    rw [e, hg'] at hg
    simp at hg
theorem LstO.grow {W W' : World} {B : Nat} {v v' y : Value} {L : List (List Int)} {s : List Int} {vs : List Value} (h : LstO W B v L vs) (hy : RowO W B y s) (ho : W'.ownsRow B 24 1 v' (L.length + 1) (vs ++ [y])) (hg : W.grownBy W' v.ownBlock) : LstO W' B v' (L ++ [s]) (vs ++ [y]) := by
  have hk : ∀ (g : Nat) (cur : Array Value), W.heap[g]? = some (.cells cur 3 (0, 0)) → W'.heap[g]? = W.heap[g]? := fun g cur hc => hg.block g (Array.getElem?_eq_some_iff.1 hc).1 (h.ne hc)
  have hlen : vs.length = L.length := by simpa using h.own.1
  refine ⟨by rw [List.length_append]; exact ho, fun i t hi => ?_⟩
  rcases Nat.lt_or_ge i L.length with h1 | h1
  · rw [List.getElem?_append_left h1] at hi
    obtain ⟨z, z1, z2⟩ := h.row i t hi
    exact ⟨z, by rw [List.getElem?_append_left (by omega)]; exact z1, z2.kept hk⟩
  · rw [List.getElem?_append_right h1] at hi
    have h0 : i - L.length = 0 := by
      have := (List.getElem?_eq_some_iff.1 hi).1
      simp at this
      omega
    rw [h0] at hi
    simp at hi
    subst hi
    exact ⟨y, by rw [List.getElem?_append_right (by omega), show i - vs.length = 0 by omega]; rfl, hy.kept hk⟩
theorem exP_len (s : List Int) (j : Nat) (h : j ≤ 9) : (exP s j).length ≤ 9 := by
  unfold exP
  rw [List.length_map]
  refine Nat.le_trans (List.length_filter_le _ _) ?_
  rw [List.length_range]
  exact h
theorem st_le {n i : Nat} (hn : n < 9) (hi : i ≤ 2 ^ n) : (stL n i).length ≤ 256 := by
  obtain ⟨r, hr⟩ := st_pre n (2 ^ n - i) i
  rw [show i + (2 ^ n - i) = 2 ^ n by omega] at hr
  have h1 := (st_lt hn).2
  have h2 : 2 ^ n ≤ 256 := Nat.pow_le_pow_right (by omega) (show n ≤ 8 by omega)
  unfold subsI at h1
  rw [hr, List.length_append] at h1
  omega
theorem past_cell {w : World} {o : Obj} {a : Addr} {v : Value} (h : w.cell? a = some v) : (w.alloc o).cell? a = some v :=
  (World.grownBy_alloc w o none).cell h (by simp)
theorem info51 : (Try.prog.info? 24).map (fun i => (i.zero, i.size, i.bytes)) = some (some (.slice none 0 0), 1, 24) := by kernel_rfl
set_option maxHeartbeats 8000000 in
set_option maxRecDepth 1000000 in
theorem subsets_walk (n : Nat) (hn : n < 9) (w : World) : Calls Try.prog 29 #[.int .i64 n] w fun e w' => ∃ g cap vs, e = .returned (.slice (some ⟨g, 0, none⟩) (subsI n).length cap) ∧ LstO w' w.heap.size (.slice (some ⟨g, 0, none⟩) (subsI n).length cap) (subsI n) vs ∧ Below w.heap.size w w' := by
  obtain ⟨i0, hi, hz0, hz1, hz2⟩ := info_parts info3
  obtain ⟨i5, hi5, hy0, hy1, hy2⟩ := info_parts info51
  go_enter Try.func29, Try.ntmps29
  go_wp2
  go_loopw [3, 4] (fun vL vi wr => ∃ (i g cap : Nat) (vs : List Value), vi = .int .i64 i ∧ i ≤ 2 ^ n ∧ vL = .slice (some ⟨g, 0, none⟩) (stL n i).length cap ∧ LstO wr w.heap.size vL (stL n i) vs ∧ Below w.heap.size w wr) (fun _ vi _ => 2 ^ n - (intOf vi).toNat)
  case atStart =>
    refine ⟨0, w.heap.size + 1, 1, [.slice (some ⟨w.heap.size, 0, none⟩) 0 0], rfl, Nat.zero_le _, rfl, ⟨⟨rfl, .inr ⟨_, 1, #[.slice (some ⟨w.heap.size, 0, none⟩) 0 0], rfl, by omega, at_alloc _ (by simp), Nat.le_refl _, by unfold maxLen; omega, rfl, rfl⟩⟩, fun i s hi => ?_⟩, (((Below.refl _ w).alloc (Nat.le_refl _) _).alloc (by simp) _)⟩
    have h0 : i = 0 := by
      have := (List.getElem?_eq_some_iff.1 hi).1
      simp [stL] at this
      exact this
    subst h0
    simp [stL] at hi
    subst hi
    exact ⟨_, rfl, w.heap.size, 0, #[], rfl, Nat.le_refl _, past_alloc _ (at_alloc _ rfl), Nat.le_refl _, Nat.le_refl _, fun i u hu => by simp at hu⟩
  case round =>
    obtain ⟨i, g, cap, vs, rfl, hin, rfl, hL, hbw⟩ := hrel
    obtain ⟨stlt, stlen⟩ := st_lt hn
    have hlen : (stL n i).length ≤ 256 := st_le hn hin
    by_cases hp : i < 2 ^ n
    · have hpl : i < (stL n i).length := stlt i hp
      have hpi : (i : Int) < ((stL n i).length : Int) := by omega
      obtain ⟨s, hs, hsub⟩ := st_at hn hp
      obtain ⟨y, hy, hrow⟩ := hL.cell hs
      obtain ⟨g1, cap1, cur1, rfl, q1, q2, q3, q4, q5⟩ := hrow
      obtain ⟨x0, x1⟩ := nx_le hn hsub
      have hsl := ((tab_parts hn).2.1 s hsub).2.1
      rcases Nat.eq_zero_or_pos s.length with hs0 | hs0
      · have hnx : nxI s = 0 := by
          rw [List.length_eq_zero_iff.1 hs0]
          rfl
        rw [hs0] at hy
        go_wp2
        go_loopw [3, 5] (fun vL vj wq => ∃ (j g cap : Nat) (vs : List Value), vj = .int .i64 j ∧ nxI s ≤ j ∧ j ≤ n ∧ vL = .slice (some ⟨g, 0, none⟩) (stL n i ++ exP s j).length cap ∧ LstO wq w.heap.size vL (stL n i ++ exP s j) vs ∧ Below w.heap.size w wq) (fun _ vj _ => n - (intOf vj).toNat)
        case atStart =>
          refine ⟨(nxI s).toNat, g, cap, vs, congrArg (Value.int .i64) (by omega), by omega, by omega, ?_, ?_, hbw⟩
          · rw [exP_none s _ (by omega), List.append_nil]
          · rw [exP_none s _ (by omega), List.append_nil]
            exact hL
        case round =>
          clear hs0
          obtain ⟨j, g', cap', vs', rfl, j0, j1, rfl, hLj, hbj⟩ := hrel
          have hxl : (exP s j).length ≤ 9 := exP_len s j (by omega)
          have hLlen : (stL n i ++ exP s j).length ≤ 300 := by rw [List.length_append]; omega
          have hpl2 : i < (stL n i ++ exP s j).length := by rw [List.length_append]; omega
          have hs2 : (stL n i ++ exP s j)[i]? = some s := by rw [List.getElem?_append_left hpl]; exact hs
          have hex : exP s (j + 1) = exP s j ++ [s ++ [(j : Int)]] := by rw [exP_succ, if_pos j0]
          have est : j = n → stL n (i + 1) = stL n i ++ exP s j := fun e => by rw [e, stL, List.getD_eq_getElem?_getD, hs]; rfl
          have hsx : stL n i ++ exP s (j + 1) = (stL n i ++ exP s j) ++ [s ++ [(j : Int)]] := by rw [hex, List.append_assoc]
          generalize stL n i ++ exP s j = L at *
          by_cases hjn : j < n
          · have hjn' : (j : Int) < (n : Int) := by omega
            obtain ⟨y', hy', hrow2⟩ := hLj.cell hs2
            obtain ⟨g3, cap3, cur3, rfl, r1, r2, r3, r4, r5⟩ := hrow2
            have hpi2 : (i : Int) < (L.length : Int) := by omega
            have hg3 : g3 < wr.heap.size := (Array.getElem?_eq_some_iff.1 r2).1
            have hlen2 : (s ++ [(j : Int)]).length = s.length + 1 := by simp
            have hn1 : ∀ (k : Nat) (u : Value), (s.map (Value.int .i64))[k]? = some u → (wr.alloc (.cells #[] 3)).cell? ((⟨g3, 0, none⟩ : Addr).add k) = some u := fun k u hu => by
              rw [add_zero_at, Lib.cell_of_heap (past_alloc _ r2)]
              exact r5 k u hu
            have hn2 : ∀ u ∈ s.map (Value.int .i64), u.oneCell' = true := fun u hu => by
              obtain ⟨x, _, rfl⟩ := List.mem_map.1 hu
              rfl
            have hmx : s.length + 1 ≤ maxLen := by unfold maxLen; omega
            have hmx3 : L.length + 1 ≤ maxLen := by unfold maxLen; omega
            have hyc := (past_cell (o := .cells #[] 3) hy')
            go_wp2_with (first
              | (at_builtin; refine wpList_append_own _ rfl _ _ 24 rfl wr.heap.size 3 i0 (.int .i64 0) 1 8 Try.underlying24 hi hz0 hz1 hz2 rfl (by decide) (.slice (some ⟨wr.heap.size, 0, none⟩) 0 0) 0 [] rfl ⟨rfl, .inr ⟨_, 0, #[], rfl, Nat.le_refl _, at_alloc _ rfl, Nat.le_refl _, Nat.zero_le _, rfl, rfl⟩⟩ ⟨g3, 0, none⟩ s.length cap3 (s.map (Value.int .i64)) rfl (by rw [List.length_map, Nat.mul_one]) hn1 hn2 (by omega) (by omega) (World.grownBy_alloc wr _ none).size ?_; intro v1 w3 hown1 hgrow1 hnil1; rw [Nat.zero_add, List.nil_append] at hown1; have bw3 : Below wr.heap.size wr w3 := ((Below.refl _ wr).alloc (Nat.le_refl _) _).grown hgrow1 (World.grownBy_alloc wr _ none).size (fun k hk => by have : wr.heap.size = k := Option.some.inj hk; omega); have hne1 : v1 ≠ .slice none 0 0 := fun e => by simpa using (hnil1.1 e).1)
              | (at_builtin; refine wpList_append_own _ rfl _ _ 24 rfl wr.heap.size 3 i0 (.int .i64 0) 1 8 Try.underlying24 hi hz0 hz1 hz2 rfl (by decide) v1 _ _ rfl (hown1.alloc _) ⟨w3.heap.size, 0, none⟩ 1 1 [.int .i64 j] rfl rfl (cell_one_new _ _ _) (by intro u hu; simp at hu; subst hu; rfl) hmx (by omega) (Nat.le_trans bw3.size (World.grownBy_alloc w3 _ none).size) ?_; intro v2 w4 hown2 hgrow2 hnil2; have bw4 : Below wr.heap.size wr w4 := (bw3.alloc bw3.size _).grown hgrow2 (Nat.le_trans bw3.size (World.grownBy_alloc w3 _ none).size) (fun k hk => (hown1.lt k hk).1); have hne2 : v2 ≠ .slice none 0 0 := fun e => hne1 (hnil2.1 e).1; have hr4 : RowO w4 w.heap.size v2 (s ++ [(j : Int)]) := RowO.of (b := wr.heap.size) (by rw [hlen2, List.map_append]; exact hown2) hbj.size hne2; obtain ⟨g5, cap5, cur5, ev, t1, t2, t3, t4, t5⟩ := hr4; rw [hlen2] at ev; subst ev; have bw5 : Below wr.heap.size wr (w4.alloc (.cells #[.slice (some ⟨g5, 0, none⟩) (s.length + 1) cap5] 24)) := bw4.alloc bw4.size _; have hL5 := hLj.below bw5; have hr5 : RowO (w4.alloc (.cells #[.slice (some ⟨g5, 0, none⟩) (s.length + 1) cap5] 24)) w.heap.size (.slice (some ⟨g5, 0, none⟩) (s.length + 1) cap5) (s ++ [(j : Int)]) := ⟨g5, cap5, cur5, by rw [hlen2], t1, past_alloc _ t2, t3, t4, t5⟩)
              | (at_builtin; refine wpList_append_own _ rfl _ _ 51 rfl w.heap.size 24 i5 (.slice none 0 0) 1 24 Try.underlying51 hi5 hy0 hy1 hy2 rfl (by decide) (.slice (some ⟨g', 0, none⟩) L.length cap') _ _ rfl hL5.own ⟨w4.heap.size, 0, none⟩ 1 1 [.slice (some ⟨g5, 0, none⟩) (s.length + 1) cap5] rfl rfl (cell_one_new _ _ _) (by intro u hu; simp at hu; subst hu; rfl) hmx3 (by omega) (Nat.le_trans hbj.size bw5.size) ?_; intro v6 w6 hown6 hgrow6 hnil6; have hL6 := hL5.grow hr5 hown6 hgrow6; have hb6 := (hbj.trans (bw5.mono hbj.size)).grown hgrow6 (Nat.le_trans hbj.size bw5.size) (fun k hk => (hL5.own.lt k hk).1); obtain ⟨g6, cap6, rfl⟩ := row_slice hown6))
            rw [← hsx] at hL6
            refine ⟨⟨j + 1, g6, cap6, _, congrArg (Value.int .i64) (by omega), by omega, by omega, ?_, hL6, hb6⟩, ?_⟩
            · rw [hsx, List.length_append]
              rfl
            · show n - ((j : Int) + 1).toNat < n - (j : Int).toNat
              omega
          · have hjn' : ¬ (j : Int) < (n : Int) := by omega
            have ej : j = n := by omega
            subst ej
            have est := est rfl
            go_wp2
            refine ⟨⟨i + 1, g', cap', vs', congrArg (Value.int .i64) (by omega), by omega, ?_, ?_, hbj⟩, ?_⟩
            · rw [est]
            · rw [est]
              exact hLj
            · show 2 ^ j - ((i : Int) + 1).toNat < 2 ^ j - (i : Int).toNat
              omega
      · obtain ⟨m, hm⟩ : ∃ m, s.length = m + 1 := ⟨s.length - 1, by omega⟩
        obtain ⟨x, hx⟩ : ∃ x, s[m]? = some x := ⟨s[m], by rw [List.getElem?_eq_getElem]⟩
        have hnx : nxI s = x + 1 := by
          unfold nxI
          rw [List.getLast?_eq_getElem?, show s.length - 1 = m by omega, hx]
        have hcx : wr.cell? ⟨g1, m, none⟩ = some (.int .i64 x) := by
          rw [Lib.cell_of_heap q2]
          exact q5 m _ (by rw [List.getElem?_map, hx]; rfl)
        rw [hm] at hy
        have hm1 : (0 : Int) < ((m + 1 : Nat) : Int) := by omega
        have hw : x + 1 ≤ 9 := by omega
        have hw0 : 0 ≤ x + 1 := by omega
        go_wp2
        go_loopw [3, 5] (fun vL vj wq => ∃ (j g cap : Nat) (vs : List Value), vj = .int .i64 j ∧ nxI s ≤ j ∧ j ≤ n ∧ vL = .slice (some ⟨g, 0, none⟩) (stL n i ++ exP s j).length cap ∧ LstO wq w.heap.size vL (stL n i ++ exP s j) vs ∧ Below w.heap.size w wq) (fun _ vj _ => n - (intOf vj).toNat)
        case atStart =>
          refine ⟨(nxI s).toNat, g, cap, vs, congrArg (Value.int .i64) (by omega), by omega, by omega, ?_, ?_, hbw⟩
          · rw [exP_none s _ (by omega), List.append_nil]
          · rw [exP_none s _ (by omega), List.append_nil]
            exact hL
        case round =>
          clear hm
          obtain ⟨j, g', cap', vs', rfl, j0, j1, rfl, hLj, hbj⟩ := hrel
          have hxl : (exP s j).length ≤ 9 := exP_len s j (by omega)
          have hLlen : (stL n i ++ exP s j).length ≤ 300 := by rw [List.length_append]; omega
          have hpl2 : i < (stL n i ++ exP s j).length := by rw [List.length_append]; omega
          have hs2 : (stL n i ++ exP s j)[i]? = some s := by rw [List.getElem?_append_left hpl]; exact hs
          have hex : exP s (j + 1) = exP s j ++ [s ++ [(j : Int)]] := by rw [exP_succ, if_pos j0]
          have est : j = n → stL n (i + 1) = stL n i ++ exP s j := fun e => by rw [e, stL, List.getD_eq_getElem?_getD, hs]; rfl
          have hsx : stL n i ++ exP s (j + 1) = (stL n i ++ exP s j) ++ [s ++ [(j : Int)]] := by rw [hex, List.append_assoc]
          generalize stL n i ++ exP s j = L at *
          by_cases hjn : j < n
          · have hjn' : (j : Int) < (n : Int) := by omega
            obtain ⟨y', hy', hrow2⟩ := hLj.cell hs2
            obtain ⟨g3, cap3, cur3, rfl, r1, r2, r3, r4, r5⟩ := hrow2
            have hpi2 : (i : Int) < (L.length : Int) := by omega
            have hg3 : g3 < wr.heap.size := (Array.getElem?_eq_some_iff.1 r2).1
            have hlen2 : (s ++ [(j : Int)]).length = s.length + 1 := by simp
            have hn1 : ∀ (k : Nat) (u : Value), (s.map (Value.int .i64))[k]? = some u → (wr.alloc (.cells #[] 3)).cell? ((⟨g3, 0, none⟩ : Addr).add k) = some u := fun k u hu => by
              rw [add_zero_at, Lib.cell_of_heap (past_alloc _ r2)]
              exact r5 k u hu
            have hn2 : ∀ u ∈ s.map (Value.int .i64), u.oneCell' = true := fun u hu => by
              obtain ⟨x, _, rfl⟩ := List.mem_map.1 hu
              rfl
            have hmx : s.length + 1 ≤ maxLen := by unfold maxLen; omega
            have hmx3 : L.length + 1 ≤ maxLen := by unfold maxLen; omega
            have hyc := (past_cell (o := .cells #[] 3) hy')
            go_wp2_with (first
              | (at_builtin; refine wpList_append_own _ rfl _ _ 24 rfl wr.heap.size 3 i0 (.int .i64 0) 1 8 Try.underlying24 hi hz0 hz1 hz2 rfl (by decide) (.slice (some ⟨wr.heap.size, 0, none⟩) 0 0) 0 [] rfl ⟨rfl, .inr ⟨_, 0, #[], rfl, Nat.le_refl _, at_alloc _ rfl, Nat.le_refl _, Nat.zero_le _, rfl, rfl⟩⟩ ⟨g3, 0, none⟩ s.length cap3 (s.map (Value.int .i64)) rfl (by rw [List.length_map, Nat.mul_one]) hn1 hn2 (by omega) (by omega) (World.grownBy_alloc wr _ none).size ?_; intro v1 w3 hown1 hgrow1 hnil1; rw [Nat.zero_add, List.nil_append] at hown1; have bw3 : Below wr.heap.size wr w3 := ((Below.refl _ wr).alloc (Nat.le_refl _) _).grown hgrow1 (World.grownBy_alloc wr _ none).size (fun k hk => by have : wr.heap.size = k := Option.some.inj hk; omega); have hne1 : v1 ≠ .slice none 0 0 := fun e => by simpa using (hnil1.1 e).1)
              | (at_builtin; refine wpList_append_own _ rfl _ _ 24 rfl wr.heap.size 3 i0 (.int .i64 0) 1 8 Try.underlying24 hi hz0 hz1 hz2 rfl (by decide) v1 _ _ rfl (hown1.alloc _) ⟨w3.heap.size, 0, none⟩ 1 1 [.int .i64 j] rfl rfl (cell_one_new _ _ _) (by intro u hu; simp at hu; subst hu; rfl) hmx (by omega) (Nat.le_trans bw3.size (World.grownBy_alloc w3 _ none).size) ?_; intro v2 w4 hown2 hgrow2 hnil2; have bw4 : Below wr.heap.size wr w4 := (bw3.alloc bw3.size _).grown hgrow2 (Nat.le_trans bw3.size (World.grownBy_alloc w3 _ none).size) (fun k hk => (hown1.lt k hk).1); have hne2 : v2 ≠ .slice none 0 0 := fun e => hne1 (hnil2.1 e).1; have hr4 : RowO w4 w.heap.size v2 (s ++ [(j : Int)]) := RowO.of (b := wr.heap.size) (by rw [hlen2, List.map_append]; exact hown2) hbj.size hne2; obtain ⟨g5, cap5, cur5, ev, t1, t2, t3, t4, t5⟩ := hr4; rw [hlen2] at ev; subst ev; have bw5 : Below wr.heap.size wr (w4.alloc (.cells #[.slice (some ⟨g5, 0, none⟩) (s.length + 1) cap5] 24)) := bw4.alloc bw4.size _; have hL5 := hLj.below bw5; have hr5 : RowO (w4.alloc (.cells #[.slice (some ⟨g5, 0, none⟩) (s.length + 1) cap5] 24)) w.heap.size (.slice (some ⟨g5, 0, none⟩) (s.length + 1) cap5) (s ++ [(j : Int)]) := ⟨g5, cap5, cur5, by rw [hlen2], t1, past_alloc _ t2, t3, t4, t5⟩)
              | (at_builtin; refine wpList_append_own _ rfl _ _ 51 rfl w.heap.size 24 i5 (.slice none 0 0) 1 24 Try.underlying51 hi5 hy0 hy1 hy2 rfl (by decide) (.slice (some ⟨g', 0, none⟩) L.length cap') _ _ rfl hL5.own ⟨w4.heap.size, 0, none⟩ 1 1 [.slice (some ⟨g5, 0, none⟩) (s.length + 1) cap5] rfl rfl (cell_one_new _ _ _) (by intro u hu; simp at hu; subst hu; rfl) hmx3 (by omega) (Nat.le_trans hbj.size bw5.size) ?_; intro v6 w6 hown6 hgrow6 hnil6; have hL6 := hL5.grow hr5 hown6 hgrow6; have hb6 := (hbj.trans (bw5.mono hbj.size)).grown hgrow6 (Nat.le_trans hbj.size bw5.size) (fun k hk => (hL5.own.lt k hk).1); obtain ⟨g6, cap6, rfl⟩ := row_slice hown6))
            rw [← hsx] at hL6
            refine ⟨⟨j + 1, g6, cap6, _, congrArg (Value.int .i64) (by omega), by omega, by omega, ?_, hL6, hb6⟩, ?_⟩
            · rw [hsx, List.length_append]
              rfl
            · show n - ((j : Int) + 1).toNat < n - (j : Int).toNat
              omega
          · have hjn' : ¬ (j : Int) < (n : Int) := by omega
            have ej : j = n := by omega
            subst ej
            have est := est rfl
            go_wp2
            refine ⟨⟨i + 1, g', cap', vs', congrArg (Value.int .i64) (by omega), by omega, ?_, ?_, hbj⟩, ?_⟩
            · rw [est]
            · rw [est]
              exact hLj
            · show 2 ^ j - ((i : Int) + 1).toNat < 2 ^ j - (i : Int).toNat
              omega
    · have est : stL n i = subsI n := by
        have ei : i = 2 ^ n := by omega
        rw [ei]
        rfl
      have hpi : ¬ (i : Int) < ((stL n i).length : Int) := by
        rw [est]
        omega
      rw [est] at hL hpi ⊢
      clear stlen est hlen stlt
      go_wp2
      go_ret
      exact ⟨g, cap, rfl, ⟨vs, hL⟩, hbw⟩
end Go.Proofs.Ytaphcpfkgpaefaa
/-
  impl.MostInTime, walked by hand.
-/
namespace Go.Proofs.Ytaphcpfkgpaefaa
open Go Go.Proofs Go.V Go.RowKit
set_option linter.unusedSimpArgs false
set_option linter.unusedVariables false

theorem sum_zero : ∀ (L : List Int) (a : Int), 0 ≤ a → (∀ x ∈ L, 0 ≤ x) → (L.foldl (· + ·) a = 0 ↔ a = 0 ∧ ∀ x ∈ L, x = 0)
  | [], a, _, _ => by simp
  | x :: L, a, ha, h => by
    have hx := h x List.mem_cons_self
    rw [List.foldl_cons, sum_zero L (a + x) (by omega) (fun y hy => h y (List.mem_cons_of_mem _ hy))]
    constructor
    · rintro ⟨h1, h2⟩
      refine ⟨by omega, fun y hy => ?_⟩
      rcases List.mem_cons.1 hy with rfl | hy
      · omega
      · exact h2 y hy
    · rintro ⟨h1, h2⟩
      have := h2 x List.mem_cons_self
      exact ⟨by omega, fun y hy => h2 y (List.mem_cons_of_mem _ hy)⟩
theorem max_zero : ∀ (L : List Int) (a : Int), 0 ≤ a → (∀ x ∈ L, 0 ≤ x) → (L.foldl max a = 0 ↔ a = 0 ∧ ∀ x ∈ L, x = 0)
  | [], a, _, _ => by simp
  | x :: L, a, ha, h => by
    have hx := h x List.mem_cons_self
    rw [List.foldl_cons, max_zero L (max a x) (by omega) (fun y hy => h y (List.mem_cons_of_mem _ hy))]
    constructor
    · rintro ⟨h1, h2⟩
      refine ⟨by omega, fun y hy => ?_⟩
      rcases List.mem_cons.1 hy with rfl | hy
      · omega
      · exact h2 y hy
    · rintro ⟨h1, h2⟩
      have := h2 x List.mem_cons_self
      exact ⟨by omega, fun y hy => h2 y (List.mem_cons_of_mem _ hy)⟩
theorem cost_sum (L : List Int) (h : ∀ x ∈ L, 0 ≤ x ∧ x ≤ 100000) : (L.foldl (· + ·) 0 = 0) ↔ mostL L = 0 := by
  unfold mostL
  rw [sum_zero L 0 (Int.le_refl _) (fun x hx => (h x hx).1), max_zero L 0 (Int.le_refl _) (fun x hx => (h x hx).1)]
set_option maxRecDepth 100000 in
theorem call_sum {w : World} {F : Nat → Prop} (l : List Int) (h : l.length ≤ 1048576) (hx : ∀ x ∈ l, 0 ≤ x ∧ x ≤ 100000) {y : Value} (hr : RepV w F (ints l) y) (hF : ∀ b, F b → b < w.heap.size) :
    Calls Try.prog 32 #[y] w fun e w' => e = .returned (.int .i64 (l.foldl (· + ·) 0)) ∧ Below w.heap.size w w' :=
  calls_flat1 (Go.Proofs.enters_of Try.func32 (by kernel_rfl) rfl) M_impl_sum F_impl_sum rfl (e_impl_sum l h hx) rfl (F := F) gOk_nil
    (show ArgOk w _ _ (.dat 2) (ints l) y ∧ True from ⟨.inr hr, trivial⟩) hF
theorem RowO.mono {W : World} {B B' : Nat} {v : Value} {o : List Int} (h : RowO W B v o) (hb : B' ≤ B) : RowO W B' v o := by
  obtain ⟨g, cap, cur, h1, h2, h3⟩ := h
  exact ⟨g, cap, cur, h1, Nat.le_trans hb h2, h3⟩
set_option maxHeartbeats 2000000 in
set_option maxRecDepth 1000000 in
theorem byDue_walk (l : List Od) (hl8 : l.length ≤ 8) (A : Option Addr) (c : Nat) (w : World)
    (hA : l ≠ [] → ∃ b o, A = some ⟨b, o, none⟩ ∧ b < w.heap.size ∧ ∀ (i : Nat) (x : Od), l[i]? = some x → CellsAt w b (o + i * 4) (cellsO x)) :
    Calls Try.prog 30 #[.slice A l.length c] w fun e w' => ∃ v, e = .returned v ∧ RowO w' w.heap.size v (dueL l) ∧ Below w.heap.size w w' := by
  have hc := seq_walk due_walk l hl8 A c w hA
  go_enter Try.func30, Try.ntmps30
  go_wp2_with (go_at_call 43; refine hc.mono ?_)
  rintro e w2 ⟨g, cap, cur, rfl, b2, hgg, hcell, hcap, hcs, hrow⟩
  go_wp2
  go_ret
  have hlen := dueL_len l
  refine ⟨_, rfl, ⟨g, cap, cur, by rw [hlen]; rfl, hgg, hcell, by omega, hcs, fun i u hu => hrow i u ?_⟩, b2⟩
  rw [← hu]
  have e : dueL l = seqL l dueLt := (seqL_key l dueLt (fun x => x.2.2.2) (fun _ _ _ _ => rfl)).symm
  rw [e]
  simp only [seqL, List.map_map]
  rfl
end Go.Proofs.Ytaphcpfkgpaefaa
/-
  impl.MostInTime, walked by hand: the loop over all lists.
-/
namespace Go.Proofs.Ytaphcpfkgpaefaa
open Go Go.Proofs Go.V Go.RowKit
set_option linter.unusedSimpArgs false
set_option linter.unusedVariables false

def fstM (V : List Int → Bool) (n i : Nat) : List Int := ((subsI n).take i).foldl (stepM V) []
theorem fstM_succ (V : List Int → Bool) {n i : Nat} (h : i < (subsI n).length) : fstM V n (i + 1) = stepM V (fstM V n i) (subsI n)[i] := by
  unfold fstM
  rw [List.take_succ_eq_append_getElem h, List.foldl_append]
  rfl
theorem fstM_end (V : List Int → Bool) (n : Nat) : fstM V n (subsI n).length = mostI V n := by
  unfold fstM
  rw [List.take_length]
  rfl
theorem fstM_len (V : List Int → Bool) {n : Nat} (hn : n < 9) (i : Nat) : (fstM V n i).length ≤ 8 := by
  have key : ∀ (L : List (List Int)) (b : List Int), b.length ≤ 8 → (∀ s ∈ L, s.length ≤ 8) → (L.foldl (stepM V) b).length ≤ 8 := by
    intro L
    induction L with
    | nil => intro b hb _; exact hb
    | cons s L ih =>
      intro b hb h
      rw [List.foldl_cons]
      refine ih _ ?_ (fun t ht => h t (List.mem_cons_of_mem _ ht))
      unfold stepM
      split
      · exact h s List.mem_cons_self
      · exact hb
  exact key _ _ (by simp) fun s hs => by
    have := ((tab_parts hn).2.1 s (List.mem_of_mem_take hs)).2.1
    omega
def tkM (l : List Od) (s : List Int) (j : Nat) : List Int := ((dueL l).take j).filter fun k => decide (k ∈ s)
theorem tkM_len (l : List Od) (s : List Int) (j : Nat) : (tkM l s j).length ≤ l.length := by
  unfold tkM
  refine Nat.le_trans (List.length_filter_le _ _) ?_
  rw [List.length_take, dueL_len]
  exact Nat.min_le_right _ _
theorem tkM_succ (l : List Od) (s : List Int) {j : Nat} (h : j < (dueL l).length) : tkM l s (j + 1) = tkM l s j ++ if (dueL l)[j] ∈ s then [(dueL l)[j]] else [] := by
  unfold tkM
  rw [List.take_succ_eq_append_getElem h, List.filter_append]
  congr 1
  by_cases hm : (dueL l)[j] ∈ s <;> simp [hm]
theorem tkM_end (l : List Od) (s : List Int) : tkM l s (dueL l).length = seqM l s := by
  unfold tkM seqM
  rw [List.take_length]
set_option maxHeartbeats 8000000 in
set_option maxRecDepth 1000000 in
theorem most_walk (l : List Od) (h : l.length ≤ 1048576) (A : Option Addr) (c : Nat) (w : World) (F : Nat → Prop) (hr : RepV w F (ods l) (.slice A l.length c)) (hF : ∀ b, F b → b < w.heap.size)
    (hA : l ≠ [] → ∃ b o, A = some ⟨b, o, none⟩ ∧ F b ∧ ∀ (i : Nat) (x : Od), l[i]? = some x → CellsAt w b (o + i * 4) (cellsO x)) :
    Calls Try.prog 15 #[.slice A l.length c] w fun e w' => ∃ v, e = .returned (.tuple #[v, .bool (goodO l)]) ∧ RowO w' w.heap.size v (mstR l) ∧ Below w.heap.size w w' := by
  obtain ⟨i0, hi, hz0, hz1, hz2⟩ := info_parts info3
  have hc1 := call_AreOrders l h hr hF
  go_enter Try.func15, Try.ntmps15
  cases hgd : goodO l
  · rw [hgd] at hc1
    have e1 : mstR l = [] := by simp [mstR, hgd]
    rw [e1]
    go_wp2_with (go_at_call 19; refine hc1.mono ?_)
    rintro e w1 ⟨rfl, b1⟩
    go_wp2
    go_ret2
    exact ⟨_, rfl, ⟨w1.heap.size, 0, #[], rfl, b1.size, at_alloc _ rfl, Nat.le_refl _, Nat.le_refl _, fun i u hu => by simp at hu⟩, b1.alloc b1.size _⟩
  · rw [hgd] at hc1
    obtain ⟨hg, hl8⟩ := goodO_all hgd
    have hn9 : l.length < 9 := by omega
    have e1 : mstR l = fstM (vM l) l.length (subsI l.length).length := by rw [fstM_end, most_eq (vM l) hn9 (vM_nil l)]; simp [mstR, hgd]
    have hsub256 : (subsI l.length).length ≤ 256 := by
      rw [(st_lt hn9).2]
      exact Nat.pow_le_pow_right (by omega) hl8
    have hdl8 : (dueL l).length ≤ 8 := by rw [dueL_len]; exact hl8
    rw [e1]
    go_wp2_with (first
      | (go_at_call 19; refine hc1.mono ?_; rintro e w1 ⟨rfl, b1⟩)
      | (go_at_call 29; refine (subsets_walk l.length hn9 _).mono ?_; rintro e w2 ⟨g2, cap2, vs, rfl, hL, b2⟩))
    have b12 := (b1.alloc b1.size (.cells #[] 3)).trans (b2.mono (Nat.le_trans b1.size (World.grownBy_alloc w1 _ none).size))
    go_loopw [4, 19] (fun vb vi wr => ∃ i : Nat, vi = .int .i64 i ∧ i ≤ (subsI l.length).length ∧ RowO wr w.heap.size vb (fstM (vM l) l.length i) ∧ LstO wr (w1.alloc (.cells #[] 3)).heap.size (.slice (some ⟨g2, 0, none⟩) (subsI l.length).length cap2) (subsI l.length) vs ∧ Below w.heap.size w wr ∧ w2.heap.size ≤ wr.heap.size) (fun _ vi _ => (subsI l.length).length - (intOf vi).toNat)
    case atStart =>
      refine ⟨0, rfl, Nat.zero_le _, ⟨w1.heap.size, 0, #[], rfl, b1.size, ?_, Nat.le_refl _, Nat.le_refl _, fun i u hu => by simp [fstM] at hu⟩, hL, b12, Nat.le_refl _⟩
      exact (b2.block _ (by simp)).trans (at_alloc _ rfl)
    case round =>
      obtain ⟨i, rfl, hin, hbest, hLr, hbw, hsz⟩ := hrel
      rename World => w0
      by_cases hp : i < (subsI l.length).length
      · have hpi : (i : Int) < ((subsI l.length).length : Int) := by omega
        obtain ⟨s, hs⟩ : ∃ s, (subsI l.length)[i]? = some s := ⟨_, List.getElem?_eq_getElem hp⟩
        have hsub : s ∈ subsI l.length := List.mem_of_getElem? hs
        have hsg : (subsI l.length)[i] = s := (List.getElem?_eq_some_iff.1 hs).2
        obtain ⟨y, hy, hrow⟩ := hLr.cell hs
        have hsin := (tab_parts hn9).2.1 s hsub
        have hc3 := fun (o : Obj) => byDue_walk l hl8 A c (w0.alloc o) (fun hne => by
          obtain ⟨b, o', h1, h2, h3⟩ := hA hne
          have hb := hF b h2
          exact ⟨b, o', h1, Nat.lt_of_lt_of_le hb (Nat.le_trans hbw.size (World.grownBy_alloc w0 _ none).size), fun k x hx t u hu => ((hbw.alloc hbw.size o).cell (by exact hb)).trans (h3 k x hx t u hu)⟩)
        go_wp2_with (go_at_call 30; refine (hc3 _).mono ?_)
        rintro e w5 ⟨v5, rfl, hD, b5⟩
        obtain ⟨gD, capD, curD, rfl, D1, D2, D3, D4, D5⟩ := hD
        have b05 : Below w0.heap.size w0 w5 := ((Below.refl _ w0).alloc (Nat.le_refl _) _).trans (b5.mono (World.grownBy_alloc w0 _ none).size)
        have D1' : w0.heap.size < gD := by
          have : (w0.alloc (Obj.cells #[] 3)).heap.size = w0.heap.size + 1 := by simp
          omega
        go_wp2
        go_loopw [7, 27] (fun v7 vj wq => ∃ (j g7 cap7 : Nat), vj = .int .i64 j ∧ j ≤ (dueL l).length ∧ v7 = .slice (some ⟨g7, 0, none⟩) (tkM l s j).length cap7 ∧ wq.ownsRow w0.heap.size 3 1 (.slice (some ⟨g7, 0, none⟩) (tkM l s j).length cap7) (tkM l s j).length ((tkM l s j).map (Value.int .i64)) ∧ g7 ≠ gD ∧ wq.heap[gD]? = some (.cells curD 3 (0, 0)) ∧ Below w0.heap.size w0 wq) (fun _ vj _ => (dueL l).length - (intOf vj).toNat)
        case atStart =>
          refine ⟨0, w0.heap.size, 0, rfl, Nat.zero_le _, rfl, ⟨rfl, .inr ⟨_, 0, #[], rfl, Nat.le_refl _, (b5.block _ (by simp)).trans (at_alloc _ rfl), Nat.le_refl _, Nat.zero_le _, rfl, rfl⟩⟩, by omega, D2, b05⟩
        case round =>
          obtain ⟨j, g7, cap7, rfl, hjn, rfl, hown, hgg, hcD, hb0⟩ := hrel
          obtain ⟨gs, hgs, hys⟩ := (hrow.below hb0).rep
          have htl := tkM_len l s j
          by_cases hj : j < (dueL l).length
          · have hj' : (j : Int) < ((dueL l).length : Int) := by omega
            have hcel : wr.cell? ⟨gD, j, none⟩ = some (.int .i64 (dueL l)[j]) := by
              rw [Lib.cell_of_heap hcD]
              exact D5 j _ (by simp [hj])
            have hsucc := tkM_succ l s hj
            generalize (dueL l)[j] = d at *
            have hc4 := call_hasNumber s d (by omega) hys (fun b hb => by subst hb; exact hgs)
            by_cases hm : d ∈ s
            · rw [decide_eq_true hm] at hc4
              rw [if_pos hm] at hsucc
              have hmx : (tkM l s j).length + 1 ≤ maxLen := by unfold maxLen; omega
              go_wp2_with (first
                | (go_at_call 31; refine hc4.mono ?_; rintro e w6 ⟨rfl, b6⟩; have hown6 := hown.kept (row := none) ⟨b6.os, b6.tape, b6.output, b6.size, fun k hk _ => b6.block k hk⟩ (.inr (by simp [Value.ownBlock])); have hb06 := hb0.trans (b6.mono hb0.size))
                | (at_builtin; refine wpList_append_own_at _ rfl _ _ 24 rfl w0.heap.size 3 i0 (.int .i64 0) 1 8 Try.underlying24 hi hz0 hz1 hz2 rfl (by decide) (.slice (some ⟨g7, 0, none⟩) (tkM l s j).length cap7) _ _ rfl (hown6.alloc _) ⟨w6.heap.size, 0, none⟩ 1 1 [.int .i64 d] rfl rfl (cell_one_new _ _ _) (by intro u hu; simp at hu; subst hu; rfl) hmx (by omega) (Nat.le_trans hb06.size (World.grownBy_alloc w6 _ none).size) ?_; intro v7 w7 hown7 hgrow7 hnil7 hat7))
              have hgD6 : gD < w6.heap.size := Nat.lt_of_lt_of_le (Array.getElem?_eq_some_iff.1 hcD).1 b6.size
              have hb07 := (hb06.alloc hb06.size (.cells #[.int .i64 d] 3)).grown hgrow7 (Nat.le_trans hb06.size (World.grownBy_alloc w6 _ none).size) (fun k hk => (hown6.lt k hk).1)
              have hcD7 : w7.heap[gD]? = some (.cells curD 3 (0, 0)) := by
                rw [hgrow7.block gD (Nat.lt_of_lt_of_le hgD6 (World.grownBy_alloc w6 _ none).size) (fun e => hgg (Option.some.inj e).symm)]
                exact past_alloc _ ((b6.block gD (Array.getElem?_eq_some_iff.1 hcD).1).trans hcD)
              obtain ⟨g8, cap8, rfl⟩ := row_slice hown7
              have hg8 : g8 ≠ gD := by
                rcases hat7 with e | e
                · have : g8 = g7 := Option.some.inj e
                  rw [this]
                  exact hgg
                · have : g8 = (w6.alloc (.cells #[.int .i64 d] 3)).heap.size := Option.some.inj e
                  have hs' : (w6.alloc (.cells #[.int .i64 d] 3)).heap.size = w6.heap.size + 1 := by simp
                  omega
              have hl2 : (tkM l s (j + 1)).length = (tkM l s j).length + 1 := by rw [hsucc]; simp
              refine ⟨⟨j + 1, g8, cap8, congrArg (Value.int .i64) (by omega), by omega, by rw [hl2], ?_, hg8, hcD7, hb07⟩, ?_⟩
              · rw [hl2, hsucc, List.map_append]
                exact hown7
              · show (dueL l).length - ((j : Int) + 1).toNat < (dueL l).length - (j : Int).toNat
                omega
            · rw [decide_eq_false hm] at hc4
              rw [if_neg hm, List.append_nil] at hsucc
              go_wp2_with (go_at_call 31; refine hc4.mono ?_)
              rintro e w6 ⟨rfl, b6⟩
              go_wp2
              refine ⟨⟨j + 1, g7, cap7, congrArg (Value.int .i64) (by omega), by omega, by rw [hsucc], ?_, hgg, (b6.block gD (Array.getElem?_eq_some_iff.1 hcD).1).trans hcD, hb0.trans (b6.mono hb0.size)⟩, ?_⟩
              · rw [hsucc]
                exact hown.kept (row := none) ⟨b6.os, b6.tape, b6.output, b6.size, fun k hk _ => b6.block k hk⟩ (.inr (by simp [Value.ownBlock]))
              · show (dueL l).length - ((j : Int) + 1).toNat < (dueL l).length - (j : Int).toNat
                omega
          · have hj' : ¬ (j : Int) < ((dueL l).length : Int) := by omega
            have hq : tkM l s j = seqM l s := by
              have : j = (dueL l).length := by omega
              rw [this, tkM_end]
            rw [hq] at hown htl ⊢
            have hfs := fstM_succ (vM l) hp
            rw [hsg] at hfs
            have hbest2 := hbest.below hb0
            have hrow2 := (hrow.below hb0).mono (Nat.le_trans b1.size (World.grownBy_alloc w1 (.cells #[] 3) none).size)
            have hL2 := hLr.below hb0
            have hbw2 := hbw.trans (hb0.mono hbw.size)
            have hbl := fstM_len (vM l) hn9 i
            have hqin : ∀ k ∈ seqM l s, 0 ≤ k ∧ k < l.length := fun k hk => dueL_in l k (List.mem_filter.1 hk).1
            have hrow7 : RowO wr w0.heap.size (.slice (some ⟨g7, 0, none⟩) (seqM l s).length cap7) (seqM l s) := RowO.of hown (Nat.le_refl _) (by simp)
            have hfin : ∀ (vb : Value) (wz : World), RowO wz w.heap.size vb (fstM (vM l) l.length (i + 1)) → Below wr.heap.size wr wz → ∃ i', Value.int .i64 ((i : Int) + 1) = .int .i64 ((i' : Nat) : Int) ∧ i' ≤ (subsI l.length).length ∧ RowO wz w.heap.size vb (fstM (vM l) l.length i') ∧ LstO wz (w1.alloc (.cells #[] 3)).heap.size (.slice (some ⟨g2, 0, none⟩) (subsI l.length).length cap2) (subsI l.length) vs ∧ Below w.heap.size w wz ∧ w2.heap.size ≤ wz.heap.size := fun vb wz h1 h2 =>
              ⟨i + 1, congrArg (Value.int .i64) (by omega), by omega, h1, hL2.below h2, hbw2.trans (h2.mono hbw2.size), Nat.le_trans hsz (Nat.le_trans hb0.size h2.size)⟩
            have hmeas : (subsI l.length).length - ((i : Int) + 1).toNat < (subsI l.length).length - (i : Int).toNat := by omega
            obtain ⟨gb, capb, curb, rfl, hbr⟩ := hbest2
            have hbestv : RowO wr w.heap.size (.slice (some ⟨gb, 0, none⟩) (fstM (vM l) l.length i).length capb) (fstM (vM l) l.length i) := ⟨gb, capb, curb, rfl, hbr⟩
            obtain ⟨gy, capy, cury, rfl, hyr⟩ := hrow2
            have hrowv : RowO wr w.heap.size (.slice (some ⟨gy, 0, none⟩) s.length capy) s := ⟨gy, capy, cury, rfl, hyr⟩
            by_cases hlt : (fstM (vM l) l.length i).length < s.length
            · have hlt' : ((fstM (vM l) l.length i).length : Int) < (s.length : Int) := by omega
              obtain ⟨g9, hg9, hv9⟩ := hrow7.rep
              have hc5 := call_lateness l (seqM l s) hg hqin (by omega) (y := .slice A l.length c) (z := .slice (some ⟨g7, 0, none⟩) (seqM l s).length cap7) (w := wr) (F := fun b => F b ∨ b = g9) (RepV_mono (fun b hb => .inl hb) (fun b hb => hbw2.block b (hF b hb)) hr) (RepV_mono (fun b hb => .inr hb) (fun _ _ => rfl) hv9) (fun b hb => by
                rcases hb with hb | rfl
                · exact Nat.lt_of_lt_of_le (hF b hb) hbw2.size
                · exact hg9)
              have hlin := late_in hg hqin (by omega)
              have hll := lateO_len l (seqM l s) (seqM l s).length
              have hcs := cost_sum _ hlin
              by_cases hz : (lateO l (seqM l s) (seqM l s).length).foldl (· + ·) 0 = 0
              · have hv : vM l s = true := by
                  unfold vM costO
                  exact decide_eq_true (hcs.1 hz)
                have e3 : stepM (vM l) (fstM (vM l) l.length i) s = s := by unfold stepM; rw [if_pos ⟨hlt, hv⟩]
                rw [e3] at hfs
                go_wp2_with (first
                  | (go_at_call 23; refine hc5.mono ?_; rintro e w8 ⟨v8, F8, rfl, h8, hF8, b8⟩; have hc6 := call_sum _ (by rw [hll]; omega) hlin h8 hF8)
                  | (go_at_call 32; refine hc6.mono ?_; rintro e w9 ⟨rfl, b9⟩))
                have b89 := b8.trans (b9.mono b8.size)
                refine ⟨hfin _ _ (by rw [hfs]; exact hrowv.below b89) b89, hmeas⟩
              · have hv : ¬ vM l s = true := by
                  unfold vM costO
                  intro h
                  exact hz (hcs.2 (of_decide_eq_true h))
                have e3 : stepM (vM l) (fstM (vM l) l.length i) s = fstM (vM l) l.length i := by unfold stepM; rw [if_neg (fun h => hv h.2)]
                rw [e3] at hfs
                go_wp2_with (first
                  | (go_at_call 23; refine hc5.mono ?_; rintro e w8 ⟨v8, F8, rfl, h8, hF8, b8⟩; have hc6 := call_sum _ (by rw [hll]; omega) hlin h8 hF8)
                  | (go_at_call 32; refine hc6.mono ?_; rintro e w9 ⟨rfl, b9⟩))
                have b89 := b8.trans (b9.mono b8.size)
                refine ⟨hfin _ _ (by rw [hfs]; exact hbestv.below b89) b89, hmeas⟩
            · have hlt' : ¬ ((fstM (vM l) l.length i).length : Int) < (s.length : Int) := by omega
              have e3 : stepM (vM l) (fstM (vM l) l.length i) s = fstM (vM l) l.length i := by unfold stepM; rw [if_neg (fun h => hlt h.1)]
              rw [e3] at hfs
              go_wp2
              refine ⟨hfin _ _ (by rw [hfs]; exact hbestv) (Below.refl _ _), hmeas⟩
      · have hpi : ¬ (i : Int) < ((subsI l.length).length : Int) := by omega
        have hii : fstM (vM l) l.length i = fstM (vM l) l.length (subsI l.length).length := by
          rw [show i = (subsI l.length).length by omega]
        rw [hii] at hbest
        clear hii
        go_wp2
        go_ret2
        exact ⟨_, rfl, hbest, hbw⟩
end Go.Proofs.Ytaphcpfkgpaefaa
/-
  impl.MostInTime's contract.
-/
namespace Go.Proofs.Ytaphcpfkgpaefaa
open Go Go.Proofs Go.V Go.RowKit
set_option linter.unusedSimpArgs false
set_option linter.unusedVariables false

def fMst : List D → Option Out
  | [.arr _ ds] => (odsOf ds).bind fun l => if l.length ≤ 1048576 then some (.ret [ints (mstR l), B (goodO l)] []) else none
  | _ => none
@[reducible] def S_impl_MostInTime : FS := { pm := [.dat 2], rm := [.own 1 0 false, .dat 0], f := fMst }
set_option maxRecDepth 100000 in
theorem M_impl_MostInTime : Meets gl0 Try.prog 15 S_impl_MostInTime := by
  have he : ∀ args w, (callFunc 15 args).run Try.prog w = .ok (.enter 15 args) w := Go.Proofs.enters_of Try.func15 (by kernel_rfl) rfl
  refine meets_of_calls he fun ds rs us hd args w F ow hg ha hF _ => ?_
  obtain ⟨d, y, rfl, h2, h3⟩ := args_one ha
  replace hd : fMst [d] = some (.ret rs us) := hd
  unfold fMst at hd
  split at hd
  case h_2 => cases hd
  rename_i z ds e
  cases e
  obtain ⟨l, hl, hd'⟩ := Option.bind_eq_some_iff.1 hd
  clear hd
  split at hd'
  case isFalse => cases hd'
  rename_i hz
  cases hd'
  obtain rfl := odsOf_some _ _ hl
  rcases h3 with h3 | h3
  · cases h3
  replace h3 : RepV w F (.arr z (l.map od)) y := h3
  have h3' := h3
  simp only [RepV, RepC] at h3
  obtain ⟨A, c, us', hy, hc, hr, hz2, hA⟩ := h3
  simp only [List.cons.injEq, and_true] at hy
  subst hy
  rw [rep_ods l us' hr] at hA
  rw [size1 h2]
  rw [List.length_map] at hc h3' ⊢
  have hrep : RepV w F (ods l) (.slice A l.length c) := by
    simp only [RepV, RepC]
    refine ⟨A, c, us', by rw [List.length_map], by rw [List.length_map]; exact hc, hr, fun d hd => ?_, fun hne => ?_⟩
    · obtain ⟨x, _, rfl⟩ := List.mem_map.1 hd
      rfl
    · obtain ⟨b, o, h5, h6, h7⟩ := hA hne
      exact ⟨b, o, h5, h6, by rw [rep_ods l us' hr]; exact h7⟩
  refine (most_walk l hz A c w F hrep (fun b hb => (hF b hb).1) (fun hne => ?_)).mono ?_
  · obtain ⟨b, o, rfl, h5, h6⟩ := hA (by simpa using hne)
    exact ⟨b, o, rfl, h5, cells_ods l o h6⟩
  · rintro e w' ⟨v, rfl, ⟨gg, cap, cur, rfl, hgg, hcell, hcap, hcs, hrow⟩, hB⟩
    refine ⟨_, rfl, F, fun b => if b = gg then some 0 else none, [_, _], rfl, post_own _ hB hF (fun b j hb => ?_) rfl rfl rfl rfl fun j => ?_⟩
    · split at hb
      · rename_i e
        subst e
        exact ⟨hgg, (Array.getElem?_eq_some_iff.1 hcell).1⟩
      · cases hb
    · match j with
      | 0 =>
        refine .inr ⟨(mstR l).map I, rfl, fun x hx => ?_, .inr ⟨gg, 0, cap, (mstR l).map (Value.int .i64), cur, _, ?_, ?_, hcell, by omega, RepL_ints _, fun i u hu => ?_, by simp, hgg⟩⟩
        · obtain ⟨s, _, rfl⟩ := List.mem_map.1 hx
          rfl
        · rw [List.length_map]
          rfl
        · rw [List.length_map]
          exact hcap
        · rw [Nat.zero_add]
          exact hrow i u hu
      | 1 => exact .inr (RepV_v.2 ⟨rfl, rfl⟩)
      | j + 2 => exact .inl rfl
end Go.Proofs.Ytaphcpfkgpaefaa
/-
  The evaluator with recasts: from some place of a function on, slots that own a slice hold plain data (what is handed back, and read beside).
-/
namespace Go.V
open Go.RowKit
set_option linter.unusedSimpArgs false

@[reducible] def frz1 (K : List Kd) (fz : List Nat) (s : Nat) (k : Kd) : Kd :=
  match k with
  | .own z lv false => match memN s fz with
    | true => .dat (maxN 1 lv)
    | false => .own z lv false
  | .via r => match memN r fz with
    | true => .dat (maxN 1 (rootLv K r))
    | false => .via r
  | .ref r => match memN r fz with
    | true => .dat (maxN 1 (rootLv K r))
    | false => .ref r
  | k => k
@[reducible] def frzL (K : List Kd) (fz : List Nat) : List Kd → Nat → List Kd
  | [], _ => []
  | k :: l, s => frz1 K fz s k :: frzL K fz l (Nat.succ s)
@[reducible] def rcx (c : Cx) (fz : List Nat) : Cx := { c with K := frzL c.K fz c.K 0 }
@[reducible] def retO (k : Out → Option Out) (o : Out) : Option Out :=
  match o with
  | .nrm _ => none
  | .ext _ _ => none
  | .ret a b => k (.ret a b)
/-- What a copy of a slot holds, once that slot's slice is plain data. -/
def viaD (p x : D) : D :=
  match p with
  | .bad => .bad
  | _ => x
@[reducible] def viaC (K : List Kd) (δ : List D) : List Nat → (List D → Option Out) → Option Out
  | [], k => k []
  | s :: ss, k => match nthK K s with
    | .via r => nthC δ s fun p => nthC δ r fun x => viaC K δ ss fun l => k (viaD p x :: l)
    | _ => viaC K δ ss fun l => k (.bad :: l)
@[reducible] noncomputable def denR (c : Cx) (R : List (Nat × List Nat)) : Nat → Nat → Code → List D → (Out → Option Out) → Option Out
  | p, bid, .seq a b, δ, k => denR c R (Nat.mul 2 p) bid a δ fun o => seqK o (fun δ' => match look R p with
      | some fz => viaC c.K δ' (depsAll c.K fz) fun l => setManyC δ' (depsAll c.K fz) l fun δ'' => den (rcx c fz) bid b δ'' (retO k)
      | none => denR c R (Nat.add (Nat.mul 2 p) 1) bid b δ' k) k
  | p, bid, .cond x t e, δ, k => opC δ x fun q => ifD q (denR c R (Nat.mul 2 p) bid t δ k) (denR c R (Nat.add (Nat.mul 2 p) 1) bid e δ k)
  | p, _, .block id b, δ, k => denR c R (Nat.mul 2 p) id b δ fun o => blkK id o k
  | _, bid, x, δ, k => den c bid x δ k
@[reducible] noncomputable def denFR (c : Cx) (R : List (Nat × List Nat)) (fn : Func) (ds : List D) : Option Out :=
  match fn.body with
  | none => none
  | some b => denR c R 1 0 b (padTo fn.ntmps ds) fun o => match o with
    | .nrm δ => resC c δ c.res fun rs => getC δ c.ios fun us => usK us (some (.ret rs us))
    | .ext _ _ => none
    | .ret rs us => some (.ret rs us)
def resSl : List ResultVar → List Nat
  | [] => []
  | .tmp t :: l => t :: resSl l
  | .cell a _ :: l => a :: resSl l
def chgS (c : Cx) (fz : List Nat) : List Nat := fz ++ depsAll c.K fz
def okFz (c : Cx) (fz : List Nat) : Bool :=
  (fz.all fun s => match nthK c.K s with
    | .own _ _ false => true
    | _ => false) && ((resSl c.res).all fun s => !memN s (chgS c fz)) && (c.ios.all fun s => !memN s (chgS c fz))
def okCodeR (c : Cx) (R : List (Nat × List Nat)) : Nat → Nat → Code → Bool
  | p, bid, .seq a b => okCodeR c R (Nat.mul 2 p) bid a && (match look R p with
      | some fz => okFz c fz && okCode (rcx c fz) bid b
      | none => okCodeR c R (Nat.add (Nat.mul 2 p) 1) bid b)
  | p, bid, .cond x t e => Nat.ble (lvOf c.K x) 2 && okCodeR c R (Nat.mul 2 p) bid t && okCodeR c R (Nat.add (Nat.mul 2 p) 1) bid e
  | p, _, .block id b => okCodeR c R (Nat.mul 2 p) id b
  | _, bid, x => okCode c bid x
def okFnR (c : Cx) (R : List (Nat × List Nat)) (fn : Func) (pm rm : List Kd) : Bool :=
  (match fn.body with
    | some b => okCodeR c R 1 0 b
    | none => false) && Nat.beq (lenN c.K) fn.ntmps && prefK pm c.K && okPm pm && okRes c c.res rm && decide (c.ios = ioIdx 0 pm)

section
variable {P : Program} {c : Cx} {B : Nat} {X : Nat → Prop} {w0 : World} {F0 F : Nat → Prop} {O : Nat → Option (Nat × Nat)} {a : Act} {w : World} {δ : List D} {fz : List Nat}

theorem len_frzL (K : List Kd) (fz : List Nat) : ∀ (l : List Kd) (s : Nat), (frzL K fz l s).length = l.length
  | [], _ => rfl
  | _ :: l, s => by simp [frzL, len_frzL K fz l]
theorem nthK_frzL (K : List Kd) (fz : List Nat) : ∀ (l : List Kd) (s i : Nat), nthK (frzL K fz l s) i = frz1 K fz (s + i) (nthK l i)
  | [], s, i => by simp [frzL, nthK, frz1]
  | k :: l, s, 0 => by simp [frzL, nthK]
  | k :: l, s, i + 1 => by
    simp only [frzL, nthK]
    rw [nthK_frzL K fz l (Nat.succ s) i, show Nat.succ s + i = s + (i + 1) by omega]
theorem nthK_rcx (c : Cx) (fz : List Nat) (s : Nat) : nthK (rcx c fz).K s = frz1 c.K fz s (nthK c.K s) := by
  show nthK (frzL c.K fz c.K 0) s = _
  rw [nthK_frzL, Nat.zero_add]
theorem okFz_own (h : okFz c fz = true) {s : Nat} (hs : s ∈ fz) : ∃ z lv, nthK c.K s = .own z lv false := by
  unfold okFz at h
  simp only [Bool.and_eq_true, List.all_eq_true] at h
  have := h.1.1 s hs
  split at this
  · exact ⟨_, _, ‹_›⟩
  · cases this
theorem memN_t {s : Nat} {l : List Nat} (h : s ∈ l) : memN s l = true := by rw [memN_eq]; exact decide_eq_true h
theorem memN_f {s : Nat} {l : List Nat} (h : s ∉ l) : memN s l = false := by rw [memN_eq]; exact decide_eq_false h
theorem frz_root {r : Nat} (hr : r ∉ fz) (h : isRoot c.K r) : nthK (rcx c fz).K r = nthK c.K r := by
  rw [nthK_rcx]
  unfold isRoot at h
  generalize nthK c.K r = k at h
  cases k
  case own z lv io => cases io <;> simp [frz1, memN_f hr]
  case box n lv io => rfl
  all_goals exact h.elim
theorem frz_back {r : Nat} (h : isRoot (rcx c fz).K r) : isRoot c.K r ∧ nthK (rcx c fz).K r = nthK c.K r := by
  unfold isRoot at h ⊢
  rw [nthK_rcx] at h ⊢
  generalize nthK c.K r = k at h
  cases k
  case own z lv io =>
    refine ⟨trivial, ?_⟩
    cases io
    case true => rfl
    by_cases hr : r ∈ fz
    · simp [frz1, memN_t hr] at h
    · simp [frz1, memN_f hr]
  case box n lv io => exact ⟨trivial, rfl⟩
  case via r' => by_cases hr : r' ∈ fz <;> simp [frz1, memN_t, memN_f, hr] at h
  case ref r' => by_cases hr : r' ∈ fz <;> simp [frz1, memN_t, memN_f, hr] at h
  all_goals exact h.elim
theorem frz_io (s : Nat) : isIo (nthK (rcx c fz).K s) = isIo (nthK c.K s) := by
  rw [nthK_rcx]
  generalize nthK c.K s = k
  cases k
  case own z lv io =>
    cases io
    case true => rfl
    by_cases hr : s ∈ fz
    · simp [frz1, memN_t hr, isIo]
    · simp [frz1, memN_f hr]
  case via r' => by_cases hr : r' ∈ fz <;> simp [frz1, memN_t, memN_f, hr, isIo]
  case ref r' => by_cases hr : r' ∈ fz <;> simp [frz1, memN_t, memN_f, hr, isIo]
  all_goals rfl
theorem isOwn_of {K K' : List Kd} {r : Nat} (h : nthK K' r = nthK K r) : isOwn K' r = isOwn K r := by unfold isOwn; rw [h]
theorem FB_one {F' : Nat → Prop} {b lv : Nat} (h1 : F' b) (h2 : B ≤ b) : FB F' B (maxN 1 lv) b := by
  rw [maxN_eq]
  match lv with
  | 0 => exact ⟨h1, h2⟩
  | 1 => exact ⟨h1, h2⟩
  | n + 2 =>
    rw [Nat.max_eq_right (by omega)]
    exact h1

def viaF (K : List Kd) (δ : List D) (s : Nat) : D :=
  match nthK K s with
  | .via r => viaD (nth δ s) (nth δ r)
  | _ => .bad
theorem viaC_eq (K : List Kd) (δ : List D) : ∀ (ss : List Nat) (k : List D → Option Out), viaC K δ ss k = k (ss.map (viaF K δ))
  | [], _ => rfl
  | s :: ss, k => by
    simp only [viaC, List.map_cons, viaF]
    split
    · simp only [nthC_eq]
      exact viaC_eq K δ ss _
    · exact viaC_eq K δ ss _
theorem nth_setMany_map (f : Nat → D) : ∀ (ss : List Nat) (δ : List D) (s : Nat), s ∈ ss → nth (setMany δ ss (ss.map f)) s = if s < δ.length then f s else .bad
  | i :: ss, δ, s, h => by
    simp only [List.map_cons, setMany]
    by_cases hs : s ∈ ss
    · rw [nth_setMany_map f ss _ s hs, len_setAt]
    · rw [nth_setMany_notin _ _ _ _ hs]
      have : s = i := by simpa [hs] using h
      subst this
      exact nth_setAt_eq _ _ _

open Classical in
/-- What some slots own is from now on plain data. -/
theorem Inv.recast (h : Inv c B X w0 F0 F O a w δ) (hfz : okFz c fz = true) : ∃ F' O', Inv (rcx c fz) B X w0 F0 F' O' a w (setMany δ (depsAll c.K fz) ((depsAll c.K fz).map (viaF c.K δ))) := by
  let G : Nat → Prop := fun b => ∃ s ∈ fz, O b = some (s, 0) ∧ B ≤ b
  have hF : ∀ b, F b → F b ∨ G b := fun b hb => .inl hb
  have hG : ∀ (b s i : Nat), O b = some (s, i) → (i = 0 → s ∉ fz) → ¬ G b := by
    rintro b s i h1 h2 ⟨s', h3, h4, _⟩
    rw [h1] at h4
    cases h4
    exact h2 rfl h3
  refine ⟨fun b => F b ∨ G b, fun b => if G b then none else O b, ?_⟩
  have hO : ∀ (b s i : Nat), (i = 0 → s ∉ fz) → O b = some (s, i) → (if G b then none else O b) = some (s, i) := fun b s i h2 h1 => by rw [if_neg (hG b s i h1 h2), h1]
  have own : ∀ r ∈ fz, nth δ r ≠ .bad → RepV w (FB (fun b => F b ∨ G b) B (maxN 1 (rootLv c.K r))) (nth δ r) (av a r) := by
    intro r hr hb
    obtain ⟨z, lv, hk⟩ := okFz_own hfz hr
    have h0 := (h.slot r).resolve_left hb
    rw [hk] at h0
    have h1 := h0.resolve_left hb
    simp only [rootLv, hk]
    refine RepV_mono (fun b hb => ?_) (fun _ _ => rfl) (OwnV_rep h1)
    rcases hb with hb | hb
    · exact FB_le (by rw [maxN_eq]; exact Nat.le_max_right _ _) b (FB_mono hF b hb)
    · exact FB_one (.inr ⟨r, hr, hb.1, hb.2 rfl⟩) (hb.2 rfl)
  refine ⟨h.la.trans (len_frzL _ _ _ _).symm, (len_setMany _ _ _).trans (h.ld.trans (len_frzL _ _ _ _).symm), h.df, fun s => ?_, fun b hb => ?_, fun b p hp => ?_, fun b hb => .inl (h.f0 b hb), fun b hb => ?_, h.bb, h.os, h.tape, h.output, h.keep, gOk_mono (fun b hb => .inl hb) (fun _ _ => rfl) h.gl⟩
  · by_cases hd : s ∈ depsAll c.K fz
    · by_cases hlt : s < δ.length
      case neg =>
        refine .inl ?_
        rw [nth_setMany_map _ _ _ _ hd, if_neg hlt]
      have e : nth (setMany δ (depsAll c.K fz) ((depsAll c.K fz).map (viaF c.K δ))) s = viaF c.K δ s := by rw [nth_setMany_map _ _ _ _ hd, if_pos hlt]
      obtain ⟨r, hr, hk⟩ := depsAll_kind _ hd
      rcases hk with hk | hk
      case inr => exact .inl (e.trans (by simp only [viaF, hk]))
      have e2 : viaF c.K δ s = viaD (nth δ s) (nth δ r) := by simp only [viaF, hk]
      by_cases hb : nth δ s = .bad
      · refine .inl (e.trans (e2.trans ?_))
        rw [hb]
        rfl
      have e3 : viaD (nth δ s) (nth δ r) = nth δ r := by
        generalize nth δ s = q at hb
        cases q <;> first | rfl | exact absurd rfl hb
      have h0 := (h.slot s).resolve_left hb
      rw [hk] at h0
      obtain ⟨b1, b2, b3, b4⟩ := h0
      refine .inr ?_
      rw [nthK_rcx, hk, e, e2, e3]
      simp only [frz1, memN_t hr]
      exact .inr (by rw [b1]; exact own r hr b3)
    have e : nth (setMany δ (depsAll c.K fz) ((depsAll c.K fz).map (viaF c.K δ))) s = nth δ s := nth_setMany_notin _ _ _ _ hd
    by_cases hb : nth δ s = .bad
    · exact .inl (e.trans hb)
    have h0 := (h.slot s).resolve_left hb
    refine .inr ?_
    have hkeep : ∀ r, isRoot c.K r → nth (setMany δ (depsAll c.K fz) ((depsAll c.K fz).map (viaF c.K δ))) r = nth δ r := fun r hr => nth_setMany_notin _ _ _ _ (root_notinAll hr _)
    rw [nthK_rcx, e]
    generalize hk : nthK c.K s = k at h0
    cases k
    case dat lv => exact h0.imp id (RepV_mono (FB_mono hF) (fun _ _ => rfl))
    case own z lv io =>
      have h1 := h0.resolve_left hb
      by_cases hs : s ∈ fz
      · obtain ⟨z', lv', hk'⟩ := okFz_own hfz hs
        rw [hk] at hk'
        cases hk'
        simp only [frz1, memN_t hs]
        have ho := own s hs hb
        simp only [rootLv, hk] at ho
        exact .inr ho
      · have e2 : frz1 c.K fz s (.own z lv io) = .own z lv io := by cases io <;> simp [frz1, memN_f hs]
        rw [e2]
        exact .inr (OwnV_mono (FB_mono hF) (fun _ _ => rfl) (fun g hg => ⟨⟨hO g s 0 (fun _ => hs) hg.1, hg.2⟩, rfl⟩) h1)
    case box n lv io =>
      have h1 := h0.resolve_left hb
      have hs : s ∉ fz := fun hs => by
        obtain ⟨z', lv', hk'⟩ := okFz_own hfz hs
        rw [hk] at hk'
        cases hk'
      exact .inr (BoxV_mono (FB_mono hF) (fun _ _ => rfl) (fun g hg => ⟨⟨hO g s 0 (fun _ => hs) hg.1, hg.2⟩, rfl⟩) h1)
    case via r =>
      have hr : r ∉ fz := fun hr => hd (mem_depsAll (.inl hk) _ hr)
      obtain ⟨b1, b2, b3, b4⟩ := h0
      simp only [frz1, memN_f hr]
      exact ⟨b1, b2, by rw [hkeep r (isOwn_root b4)]; exact b3, by rw [isOwn_of (frz_root hr (isOwn_root b4))]; exact b4⟩
    case ref r =>
      have hr : r ∉ fz := fun hr => hd (mem_depsAll (.inr hk) _ hr)
      obtain ⟨i, f, b1, b2, b3⟩ := h0
      simp only [frz1, memN_f hr]
      exact ⟨i, f, b1, by rw [hkeep r (RefV_root b3)]; exact b2, by rw [frz_root hr (RefV_root b3)]; exact b3⟩
    case tup ms =>
      obtain ⟨l, vs, b1, b2, b3⟩ := h0
      exact ⟨l, vs, b1, b2, fun i => Lone_mono hF (fun _ _ => rfl) (fun g hg => ⟨hO g s (i + 1) (fun h => by omega) hg, rfl⟩) (b3 i)⟩
    case no => trivial
  · rcases hb with hb | hb
    · obtain ⟨h1, h2⟩ := h.fl b hb
      refine ⟨h1, ?_⟩
      simp only [h2]
      split <;> rfl
    · obtain ⟨s, h1, h2, h3⟩ := hb
      exact ⟨(h.ol b _ h2).1, if_pos ⟨s, h1, h2, h3⟩⟩
  · split at hp
    · cases hp
    · exact h.ol b p hp
  · rcases hb with hb | ⟨s, h1, h2, h3⟩
    · exact h.fn b hb
    · exact .inr h3
/-- Back to the function's own kinds: what was recast is void. -/
theorem Inv.uncast (h : Inv (rcx c fz) B X w0 F0 F O a w δ) : Inv c B X w0 F0 F O a w (setMany δ (chgS c fz) []) := by
  refine ⟨h.la.trans (len_frzL _ _ _ _), (len_setMany _ _ _).trans (h.ld.trans (len_frzL _ _ _ _)), h.df, fun s => ?_, h.fl, h.ol, h.f0, h.fn, h.bb, h.os, h.tape, h.output, h.keep, h.gl⟩
  by_cases hd : s ∈ chgS c fz
  · exact .inl (nth_kill _ _ _ hd)
  have e : nth (setMany δ (chgS c fz) []) s = nth δ s := nth_setMany_notin _ _ _ _ hd
  by_cases hb : nth δ s = .bad
  · exact .inl (e.trans hb)
  have h0 := (h.slot s).resolve_left hb
  refine .inr ?_
  have hs : s ∉ fz := fun hs => hd (List.mem_append_left _ hs)
  have hdp : s ∉ depsAll c.K fz := fun hs => hd (List.mem_append_right _ hs)
  have hkeep : ∀ r, r ∉ fz → isRoot c.K r → nth (setMany δ (chgS c fz) []) r = nth δ r := fun r h1 h2 => nth_setMany_notin _ _ _ _ fun hm => by
    rcases List.mem_append.1 hm with hm | hm
    · exact h1 hm
    · exact root_notinAll h2 _ hm
  rw [nthK_rcx] at h0
  rw [e]
  generalize hk : nthK c.K s = k at h0
  cases k
  case own z lv io =>
    have e2 : frz1 c.K fz s (.own z lv io) = .own z lv io := by cases io <;> simp [frz1, memN_f hs]
    rw [e2] at h0
    exact h0
  case via r =>
    have hr : r ∉ fz := fun hr => hdp (mem_depsAll (.inl hk) _ hr)
    simp only [frz1, memN_f hr] at h0
    obtain ⟨b1, b2, b3, b4⟩ := h0
    obtain ⟨g1, g2⟩ := frz_back (isOwn_root b4)
    exact ⟨b1, b2, by rw [hkeep r hr g1]; exact b3, by rw [← isOwn_of g2]; exact b4⟩
  case ref r =>
    have hr : r ∉ fz := fun hr => hdp (mem_depsAll (.inr hk) _ hr)
    simp only [frz1, memN_f hr] at h0
    obtain ⟨i, f, b1, b2, b3⟩ := h0
    obtain ⟨g1, g2⟩ := frz_back (RefV_root b3)
    exact ⟨i, f, b1, by rw [hkeep r hr g1]; exact b2, by rw [← g2]; exact b3⟩
  all_goals exact h0

theorem resC_recast : ∀ (l : List ResultVar) (δ δ' : List D) (k : List D → Option Out), (∀ t ∈ resSl l, nth δ t = nth δ' t) → resC (rcx c fz) δ l k = resC c δ' l k
  | [], _, _, _, _ => rfl
  | .tmp t :: l, δ, δ', k, h => by
    simp only [resC, nthC_eq]
    rw [h t (by simp [resSl])]
    exact resC_recast l δ δ' _ fun t ht => h t (by simp [resSl, ht])
  | .cell b t :: l, δ, δ', k, h => by
    simp only [resC, nthC_eq]
    rw [h b (by simp [resSl])]
    cases look c.T t with
    | none => rfl
    | some i =>
      simp only
      refine congrArg _ (funext fun y => ?_)
      exact resC_recast l δ δ' _ fun t ht => h t (by simp [resSl, ht])
theorem ret_recast {V : Nat → Value} {k : Out → Option Out} {r : Out} (hfz : okFz c fz = true) (h : NextV (rcx c fz) B X w0 F0 V (fun δ => retK (rcx c fz) δ (retO k)) r a w) : NextV c B X w0 F0 V (fun δ => retK c δ k) r a w := by
  obtain ⟨⟨F, O, δ, hI, hk⟩, hV⟩ := h
  obtain ⟨rs, h1, h2, h3⟩ := retK_is hk
  unfold okFz at hfz
  simp only [Bool.and_eq_true, List.all_eq_true, Bool.not_eq_true'] at hfz
  have out : ∀ s, memN s (chgS c fz) = false → nth (setMany δ (chgS c fz) []) s = nth δ s := fun s hs => nth_setMany_notin _ _ _ _ fun hm => by
    rw [memN_t hm] at hs
    cases hs
  have hg : getAll (setMany δ (chgS c fz) []) c.ios = getAll δ c.ios := by
    have : ∀ l : List Nat, (∀ s ∈ l, memN s (chgS c fz) = false) → getAll (setMany δ (chgS c fz) []) l = getAll δ l := by
      intro l
      induction l with
      | nil => intro _; rfl
      | cons s l ih =>
        intro hl
        simp only [getAll]
        rw [out s (hl s (by simp)), ih fun t ht => hl t (by simp [ht])]
    exact this _ hfz.2
  refine ⟨⟨F, O, _, hI.uncast, retK_of (rs := rs) ?_ ?_ ?_⟩, fun s hs => hV s (by rw [frz_io]; exact hs)⟩
  · rw [← resC_recast (fz := fz) c.res δ _ _ fun t ht => (out t (hfz.1.2 t ht)).symm]
    exact h1
  · rw [hg]
    exact h2
  · rw [hg]
    exact h3

theorem denR_sound (hT : okT P c.T = true) (hS : ∀ f S, look c.S f = some S → Meets c.G P f S) (hm : P.follows .mixedOrders = true) {V : Nat → Value} {R : List (Nat × List Nat)} : ∀ (b : Code) (p bid : Nat), okCodeR c R p bid b = true → ∀ (F : Nat → Prop) (O : Nat → Option (Nat × Nat)) (a : Act) (w : World) (δ : List D),
    Inv c B X w0 F0 F O a w δ → IoV c V a → ∀ (k : Out → Option Out) (r : Out), denR c R p bid b δ k = some r → ∀ Q, (∀ e a w, Post c B X w0 F0 V k r e a w → Q e a w) → b.wp P Q a w
  | .seq x y, p, bid, hok, F, O, a, w, δ, hI, hV, k, r, hg, Q, hQ => by
    simp only [okCodeR, Bool.and_eq_true] at hok
    simp only [denR] at hg
    refine wp_seq (denR_sound hT hS hm x _ bid hok.1 F O a w δ hI hV _ r hg _ (fun e a' w' hp => ?_))
    cases e with
    | normal =>
      obtain ⟨⟨F', O', δ', hI', hk'⟩, hV'⟩ := hp
      have hok2 := hok.2
      simp only [seqK] at hk'
      cases hH : look R p with
      | none =>
        rw [hH] at hk' hok2
        exact denR_sound hT hS hm y _ bid hok2 F' O' a' w' δ' hI' hV' k r hk' Q hQ
      | some fz =>
        rw [hH] at hk' hok2
        simp only [Bool.and_eq_true] at hok2
        simp only [viaC_eq, setManyC_eq] at hk'
        obtain ⟨F2, O2, hI2⟩ := hI'.recast hok2.1
        refine den_sound (c := rcx c fz) hT hS hm y bid hok2.2 F2 O2 a' w' _ hI2 (fun s hs => hV' s (by rw [← frz_io (fz := fz)]; exact hs)) (retO k) r hk' Q (fun e a w hp => ?_)
        cases e with
        | normal => obtain ⟨⟨_, _, _, _, h⟩, _⟩ := hp; cases h
        | exit i => obtain ⟨⟨_, _, _, _, h⟩, _⟩ := hp; cases h
        | ret => exact hQ .ret _ _ (ret_recast hok2.1 hp)
        | _ => exact hp.elim
    | exit id => exact hQ _ _ _ hp
    | ret => exact hQ _ _ _ hp
    | _ => exact hp.elim
  | .cond x t e, p, bid, hok, F, O, a, w, δ, hI, hV, k, r, hg, Q, hQ => by
    simp only [okCodeR, Bool.and_eq_true] at hok
    obtain ⟨⟨hlv, hok1⟩, hok2⟩ := hok
    have hop := hI.opd (ble_iff.1 hlv)
    have key : ifD (opD δ x) (denR c R (Nat.mul 2 p) bid t δ k) (denR c R (Nat.add (Nat.mul 2 p) 1) bid e δ k) = some r := by
      simp only [denR] at hg
      cases x with
      | tmp s => simpa only [opC, nthC_eq, opD] using hg
      | const v => simpa only [opC, opD] using hg
      | func f => simpa only [opC, opD] using hg
      | global g => simp [opC] at hg
    unfold ifD at key
    split at key
    · rename_i hd
      rw [hd] at hop
      exact wp_cond_true (RepB_v hop).1 (denR_sound hT hS hm t _ bid hok1 F O a w δ hI hV k r key Q hQ)
    · rename_i hd
      rw [hd] at hop
      exact wp_cond_false (RepB_v hop).1 (denR_sound hT hS hm e _ bid hok2 F O a w δ hI hV k r key Q hQ)
    · cases key
  | .block id b, p, bid, hok, F, O, a, w, δ, hI, hV, k, r, hg, Q, hQ => by
    simp only [okCodeR] at hok
    refine wp_block (denR_sound hT hS hm b _ id hok F O a w δ hI hV _ r hg _ (fun e a' w' hp => ?_))
    cases e with
    | normal => exact hQ .normal _ _ hp
    | exit i =>
      simp only [Exit.inBlock]
      have hp' : NextV c B X w0 F0 V (fun δ => blkK id (.ext i δ) k) r a' w' := hp
      split
      · rename_i hi
        refine hQ .normal _ _ (NextV_mono hp' fun δ F O _ h => ?_)
        simp only [blkK] at h
        rw [beq_iff.2 (by simpa using hi)] at h
        exact h
      · rename_i hi
        refine hQ (.exit i) _ _ (NextV_mono hp' fun δ F O _ h => ?_)
        simp only [blkK] at h
        cases hb : Nat.beq i id
        · rw [hb] at h; exact h
        · exact absurd (by simpa using beq_iff.1 hb) hi
    | ret => exact hQ .ret _ _ hp
    | _ => exact hp.elim
  | .skip, p, bid, hok, F, O, a, w, δ, hI, hV, k, r, hg, Q, hQ => den_sound hT hS hm .skip bid hok F O a w δ hI hV k r hg Q hQ
  | .region id ops d, p, bid, hok, F, O, a, w, δ, hI, hV, k, r, hg, Q, hQ => den_sound hT hS hm (.region id ops d) bid hok F O a w δ hI hV k r hg Q hQ
  | .loop b, p, bid, hok, F, O, a, w, δ, hI, hV, k, r, hg, Q, hQ => den_sound hT hS hm (.loop b) bid hok F O a w δ hI hV k r hg Q hQ
  | .exit id, p, bid, hok, F, O, a, w, δ, hI, hV, k, r, hg, Q, hQ => den_sound hT hS hm (.exit id) bid hok F O a w δ hI hV k r hg Q hQ
  | .ret, p, bid, hok, F, O, a, w, δ, hI, hV, k, r, hg, Q, hQ => den_sound hT hS hm .ret bid hok F O a w δ hI hV k r hg Q hQ
  | .label _, _, _, hok, _, _, _, _, _, _, _, _, _, _, _, _ => by simp [okCodeR, okCode] at hok
  | .goto _, _, _, hok, _, _, _, _, _, _, _, _, _, _, _, _ => by simp [okCodeR, okCode] at hok
  | .scope _, _, _, hok, _, _, _, _, _, _, _, _, _, _, _, _ => by simp [okCodeR, okCode] at hok

theorem fn_callsR (hT : okT P c.T = true) (hS : ∀ f S, look c.S f = some S → Meets c.G P f S) (hm : P.follows .mixedOrders = true) {R : List (Nat × List Nat)} {f : FuncId} {fn : Func} (hf : P.funcs[f]? = some fn) {pm rm : List Kd} (hok : okFnR c R fn pm rm = true) (hres : c.res = fn.results.toList)
    {ds rs us : List D} (hd : denFR c R fn ds = some (.ret rs us)) {args : Array Value} {w : World} {F : Nat → Prop} {ow : Nat → Option Nat} (hgl : gOk c.G w F) (ha : ArgsOk w F ow 0 pm ds args.toList) (hF : ∀ b, F b → b < w.heap.size ∧ ow b = none) (hO : ∀ b i, ow b = some i → b < w.heap.size) :
    Calls P f args w fun e w' => ∃ v, e = .returned v ∧ ∃ F' R' vs, v = resV vs ∧ CallPost { pm := pm, rm := rm, f := denFR c R fn } args rs us w F ow F' R' vs w' := by
  unfold okFnR at hok
  simp only [Bool.and_eq_true, decide_eq_true_eq] at hok
  obtain ⟨⟨⟨⟨⟨hcode, hlenK⟩, hpre⟩, hpm⟩, hokr⟩, hios⟩ := hok
  rw [beq_iff, lenN_eq] at hlenK
  obtain ⟨hpl, hpn⟩ := prefK_nth hpre
  obtain ⟨hdl, hal, hargs⟩ := ArgsOk_at pm ds args.toList 0 ha
  have hasz : args.size = pm.length := by simpa using hal
  unfold denFR at hd
  cases hb : fn.body with
  | none => rw [hb] at hd; cases hd
  | some b =>
    rw [hb] at hd hcode
    simp only at hd hcode
    refine calls_of_wp hf hb ?_
    have hav : ∀ s, s < pm.length → av ({ tmps := args ++ Array.replicate (fn.ntmps - args.size) undef, defers := [] } : Act) s = args.toList.getD s undef := fun s hs => by
      have h1 : s < args.size := by omega
      simp only [av, Array.getD_eq_getD_getElem?, List.getD_eq_getElem?_getD, Array.getElem?_toList]
      rw [Array.getElem?_append_left h1]
    have hinit : Inv c w.heap.size (fun b => ow b ≠ none) w F F (fun b => (ow b).map fun i => (i, 0)) { tmps := args ++ Array.replicate (fn.ntmps - args.size) undef, defers := [] } w (padTo fn.ntmps ds) := by
      refine ⟨by simp; omega, by rw [padTo_len, hlenK], rfl, fun s => ?_, fun b hb => ⟨(hF b hb).1, by simp [(hF b hb).2]⟩, fun b p hp => ?_, fun _ h => h, fun _ h => .inl h, Nat.le_refl _, rfl, rfl, rfl, fun _ _ _ => rfl, hgl⟩
      · unfold SlotOk
        rw [padTo_nth _ _ _ (by rw [hdl]; omega)]
        by_cases hs : s < pm.length
        · rw [hpn s hs, hav s hs]
          rcases hargs s hs with hbad | harg
          · exact .inl hbad
          refine .inr ?_
          have hlv : ∀ lv, lv ≠ 1 → ∀ b, FB F 0 lv b → FB F w.heap.size lv b := fun lv h1 b hb => by
            match lv, h1 with
            | 0, _ => exact hb
            | _ + 2, _ => exact hb
          rcases okPm_at hpm s hs with ⟨lv, hk, h1⟩ | ⟨z, lv, hk, h1⟩ | ⟨n, lv, hk, h1⟩
          · rw [hk] at harg ⊢
            exact .inr (RepV_mono (hlv lv h1) (fun _ _ => rfl) harg)
          · rw [hk] at harg ⊢
            exact .inr (OwnV_mono' (hlv lv h1) (fun _ _ => rfl) (fun g _ hg => ⟨⟨by simp only [Nat.zero_add] at hg; simp [hg], fun h => by cases h⟩, rfl⟩) harg)
          · rw [hk] at harg ⊢
            exact .inr (BoxV_mono' (hlv lv h1) (fun _ _ => rfl) (fun g _ hg => ⟨⟨by simp only [Nat.zero_add] at hg; simp [hg], fun h => by cases h⟩, rfl⟩) harg)
        · refine .inl ?_
          rw [nth_eq, List.getD_eq_getElem?_getD, List.getElem?_eq_none (by omega)]
          rfl
      · obtain ⟨i, hi, rfl⟩ := Option.map_eq_some_iff.1 hp
        exact ⟨hO b i hi, .inr (by rw [hi]; simp)⟩
    refine denR_sound hT hS hm b 1 0 hcode F _ _ w _ hinit (V := av { tmps := args ++ Array.replicate (fn.ntmps - args.size) undef, defers := [] }) (fun _ _ => rfl) _ _ hd _ (fun e a' w' hp => ?_)
    have fin : NextV c w.heap.size (fun b => ow b ≠ none) w F (av { tmps := args ++ Array.replicate (fn.ntmps - args.size) undef, defers := [] }) (fun δ => retK c δ some) (.ret rs us) a' w' → a'.defers = [] ∧ ∃ v, (results fn a'.tmps).run P w' = .ok v w' ∧ ∃ v', Ending.returned v = .returned v' ∧ ∃ F' R' vs, v' = resV vs ∧ CallPost { pm := pm, rm := rm, f := denFR c R fn } args rs us w F ow F' R' vs w' := by
      rintro ⟨⟨F', O', δ', hI', hk⟩, hV'⟩
      obtain ⟨rs', h1, h2, h3⟩ := retK_is hk
      simp only [Option.some.injEq, Out.ret.injEq] at h3
      obtain ⟨rfl, rfl⟩ := h3
      obtain ⟨vs, g1, g2, g3, g4⟩ := res_run (P := P) hT hI' c.res rm rs' hokr h1
      refine ⟨hI'.df, resV vs, ?_, _, rfl, F', fun b => if w.heap.size ≤ b then (match O' b with
        | some (t, 0) => resIx c.res t 0
        | _ => none) else none, vs, rfl, ?_⟩
      · have hrun : (fn.results.mapM (getRes a'.tmps)).run P w' = .ok vs.toArray w' := by
          rw [Array.mapM_eq_mapM_toList, ← hres]
          simp [g1]
        have hrw : results fn a'.tmps = (do
            let vs ← fn.results.mapM (getRes a'.tmps)
            pure (if h : vs.size = 1 then vs[0] else .tuple vs)) := by
          unfold results
          congr 1
        rw [hrw]
        simp only [Sem.run_bind, hrun, Result.andThen_ok, Sem.run_pure]
        congr 1
        rcases vs with _ | ⟨y, _ | ⟨y', vs⟩⟩
        · simp [resV]
        · simp [resV]
        · simp [resV]
      · refine ⟨hI'.os, hI'.tape, hI'.output, hI'.bb, fun b hb ho => hI'.keep b hb (by simp [ho]), hI'.f0, fun b hb => ⟨hI'.fn b hb, (hI'.fl b hb).1, by simp only [(hI'.fl b hb).2]; split <;> rfl⟩, fun b j hj => ?_, g2, g3, fun j => ?_, ?_⟩
        · split at hj
          case isFalse => cases hj
          rename_i hB
          refine ⟨hB, ?_⟩
          split at hj
          · rename_i t he; exact (hI'.ol b _ he).1
          · cases hj
        · refine ResOk_mono (fun hk g hg => ?_) (g4 j)
          obtain ⟨z, lv, hk⟩ := hk
          obtain ⟨e1, t, e2, e3⟩ := hg
          rw [if_pos e1]
          simp only [e3]
          have := (resIx_own c.res rm hokr j t 0 z lv hk e2).1
          simpa using this
        · rw [hios]
          refine UsOk_of pm args.toList 0 hal (fun j hj hio => ?_)
          rw [Nat.zero_add]
          have hkj := hpn j hj
          have hbj : nth δ' j ≠ .bad := by
            refine h2 _ ?_
            rw [hios, getAll_map]
            exact List.mem_map_of_mem (by simpa using ioIdx_mem pm 0 j hj hio)
          have havj : av a' j = args.toList.getD j undef := (hV' j (by rw [hkj]; exact hio)).trans (hav j hj)
          have hlv : ∀ lv, lv ≠ 1 → ∀ b, FB F' w.heap.size lv b → FB F' 0 lv b := fun lv h1 b hb => by
            match lv, h1 with
            | 0, _ => exact hb
            | _ + 2, _ => exact hb
          refine ⟨hbj, .inr ?_⟩
          rcases okPm_at hpm j hj with ⟨lv, hk, h1⟩ | ⟨z, lv, hk, h1⟩ | ⟨n, lv, hk, h1⟩
          · rw [hk] at hio; cases hio
          · have h5 := hI'.own (hkj.trans hk) hbj
            rw [havj] at h5
            rw [hk]
            exact OwnV_mono' (hlv lv h1) (fun _ _ => rfl) (fun _ _ _ => ⟨trivial, rfl⟩) h5
          · have h5 := hI'.box (hkj.trans hk) hbj
            rw [havj] at h5
            rw [hk]
            exact BoxV_mono' (hlv lv h1) (fun _ _ => rfl) (fun _ _ _ => ⟨trivial, rfl⟩) h5
    cases e with
    | normal => exact fin hp
    | exit i =>
      obtain ⟨⟨_, _, _, _, h⟩, _⟩ := hp
      cases h
    | ret =>
      refine fin (NextV_mono hp fun δ F O _ h => ?_)
      obtain ⟨rs', h1, h2, h3⟩ := retK_is h
      exact retK_of h1 h2 h3
    | _ => exact hp.elim

theorem meets_ofR (hT : okT P c.T = true) (hS : ∀ f S, look c.S f = some S → Meets c.G P f S) (hm : P.follows .mixedOrders = true) {R : List (Nat × List Nat)} {f : FuncId} {fn : Func} (hf : P.funcs[f]? = some fn) (hname : (fn.name == "runtime.NumGoroutine") = false) {pm rm : List Kd} (hok : okFnR c R fn pm rm = true) (hres : c.res = fn.results.toList) :
    Meets c.G P f { pm := pm, rm := rm, f := denFR c R fn } := by
  intro ds rs us hd args w F ow hgl ha hF hO o a next Q hn
  have hbody : ∃ b, fn.body = some b := by
    have hd' : denFR c R fn ds = some (.ret rs us) := hd
    unfold denFR at hd'
    cases hb : fn.body with
    | none => rw [hb] at hd'; cases hd'
    | some b => exact ⟨b, rfl⟩
  obtain ⟨b, hb⟩ := hbody
  have hrun : (callFunc f args).run P w = .ok (.enter f args) w := by
    have h1 : ¬ fn.name = "runtime.NumGoroutine" := by simpa using hname
    simp [callFunc, hf, h1, hb]
  rw [hrun, Oper.upon_enter]
  refine Calls.mono (fn_callsR hT hS hm hf hok hres hd hgl ha hF hO) (fun e w' he => ?_)
  obtain ⟨v, rfl, F', R', vs, h1, h2⟩ := he
  exact hn v w' ⟨F', R', vs, h1, h2⟩


end
end Go.V
/-
  The evaluator with recasts of single regions: in them, slots that own a slice hold plain data (what is put into another slice, or handed back); after them these slots are void.
-/
namespace Go.V
open Go.RowKit
set_option linter.unusedSimpArgs false

@[reducible] noncomputable def denQ (c : Cx) (Z : List (Nat × List Nat)) : Nat → Code → List D → (Out → Option Out) → Option Out
  | _, .skip, δ, k => k (.nrm δ)
  | _, .region id ops _, δ, k => match look Z id with
    | some fz => viaC c.K δ (depsAll c.K fz) fun l => setManyC δ (depsAll c.K fz) l fun δ' => runOps (rcx c fz) ops.toList ops.toList δ' fun δ2 => setManyC δ2 fz [] fun δ3 => setManyC δ3 (depsAll c.K fz) [] fun δ4 => k (.nrm δ4)
    | none => runOps c ops.toList ops.toList δ fun δ' => k (.nrm δ')
  | bid, .seq a b, δ, k => denQ c Z bid a δ fun o => seqK o (fun δ' => denQ c Z bid b δ' k) k
  | bid, .cond x t e, δ, k => opC δ x fun q => ifD q (denQ c Z bid t δ k) (denQ c Z bid e δ k)
  | _, .block id b, δ, k => denQ c Z id b δ fun o => blkK id o k
  | bid, .loop b, δ, k => match look c.H bid with
    | none => none
    | some (hl, xl) =>
      getC δ hl fun s => (loopC (fun s => expandC (lenN c.K) hl s fun δ => denQ c Z bid b δ (shrinkK hl xl)) s).bind fun o =>
        outK o (fun i s => expandC (lenN c.K) xl s fun δ => k (.ext i δ)) (fun a b => k (.ret a b))
  | _, .exit id, δ, k => k (.ext id δ)
  | _, .ret, δ, k => resC c δ c.res fun rs => getC δ c.ios fun us => usK us (k (.ret rs us))
  | _, _, _, _ => none
@[reducible] noncomputable def denFQ (c : Cx) (Z : List (Nat × List Nat)) (fn : Func) (ds : List D) : Option Out :=
  match fn.body with
  | none => none
  | some b => denQ c Z 0 b (padTo fn.ntmps ds) fun o => match o with
    | .nrm δ => resC c δ c.res fun rs => getC δ c.ios fun us => usK us (some (.ret rs us))
    | .ext _ _ => none
    | .ret rs us => some (.ret rs us)
def okCodeQ (c : Cx) (Z : List (Nat × List Nat)) : Nat → Code → Bool
  | _, .skip => true
  | bid, .region id ops d => match look Z id with
    | some fz => okFz c fz && okCode (rcx c fz) bid (.region id ops d)
    | none => okCode c bid (.region id ops d)
  | b, .seq x y => okCodeQ c Z b x && okCodeQ c Z b y
  | b, .cond x t e => Nat.ble (lvOf c.K x) 2 && okCodeQ c Z b t && okCodeQ c Z b e
  | _, .block id x => okCodeQ c Z id x
  | b, .loop x => okCodeQ c Z b x && (match look c.H b with
    | some (hl, xl) => okLive c.K hl && okLive c.K xl
    | none => false)
  | _, .exit _ => true
  | _, .ret => true
  | _, _ => false
def okFnQ (c : Cx) (Z : List (Nat × List Nat)) (fn : Func) (pm rm : List Kd) : Bool :=
  (match fn.body with
    | some b => okCodeQ c Z 0 b
    | none => false) && Nat.beq (lenN c.K) fn.ntmps && prefK pm c.K && okPm pm && okRes c c.res rm && decide (c.ios = ioIdx 0 pm)

section
variable {P : Program} {c : Cx} {B : Nat} {X : Nat → Prop} {w0 : World} {F0 F : Nat → Prop} {O : Nat → Option (Nat × Nat)} {a : Act} {w : World} {δ : List D} {fz : List Nat}

theorem setMany_two : ∀ (ss ts : List Nat) (δ : List D), setMany (setMany δ ss []) ts [] = setMany δ (ss ++ ts) []
  | [], _, _ => rfl
  | i :: ss, ts, δ => by
    simp only [List.cons_append, setMany]
    exact setMany_two ss ts _
def unK (c : Cx) (fz : List Nat) (k : Out → Option Out) (o : Out) : Option Out :=
  match o with
  | .nrm δ => k (.nrm (setMany δ (chgS c fz) []))
  | _ => none
theorem loop_roundsQ {V : Nat → Value} {b : Code} {bid : Nat} {Z : List (Nat × List Nat)} {hl xl : List Nat} (h1 : okLive c.K hl = true) (h2 : okLive c.K xl = true)
    (ih : ∀ (F : Nat → Prop) (O : Nat → Option (Nat × Nat)) (a : Act) (w : World) (δ : List D), Inv c B X w0 F0 F O a w δ → IoV c V a → ∀ (k : Out → Option Out) (r : Out), denQ c Z bid b δ k = some r → ∀ Q, (∀ e a w, Post c B X w0 F0 V k r e a w → Q e a w) → b.wp P Q a w)
    {k : Out → Option Out} {r : Out} {Q : Exit → Act → World → Prop} (hQ : ∀ e a w, Post c B X w0 F0 V k r e a w → Q e a w) {o : Out}
    (ho : outK o (fun i s => expandC (lenN c.K) xl s fun δ => k (.ext i δ)) (fun x y => k (.ret x y)) = some r) : ∀ (n : Nat) (F : Nat → Prop) (O : Nat → Option (Nat × Nat)) (a : Act) (w : World) (δ : List D), Inv c B X w0 F0 F O a w δ → IoV c V a →
    iter (fun s => expandC (lenN c.K) hl s fun δ => denQ c Z bid b δ (shrinkK hl xl)) n (getAll δ hl) = some o → Code.rounds P b Q n a w
  | 0, _, _, _, _, _, _, _, h => by cases h
  | n + 1, F, O, a, w, δ, hI, hV, h => by
    simp only [iter, expandC_eq] at h
    rw [rounds_succ]
    have hI' := hI.carry h1
    cases hb : denQ c Z bid b (carry (lenN c.K) hl δ) (shrinkK hl xl) with
    | none => rw [hb] at h; cases h
    | some ob =>
      rw [hb] at h
      refine ih F O a w _ hI' hV _ ob hb _ (fun e a' w' hp => ?_)
      cases ob with
      | nrm s' =>
        simp only at h
        cases e with
        | normal =>
          obtain ⟨⟨F', O', δ', g1, g2⟩, g3⟩ := hp
          simp only [shrinkK, getC_eq, Option.some.injEq, Out.nrm.injEq] at g2
          rw [← g2] at h
          exact loop_roundsQ h1 h2 ih hQ ho n F' O' a' w' δ' g1 g3 h
        | exit i =>
          obtain ⟨⟨F', O', δ', g1, g2⟩, g3⟩ := hp
          simp [shrinkK, getC_eq] at g2
        | ret =>
          obtain ⟨⟨F', O', δ', g1, g2⟩, g3⟩ := hp
          obtain ⟨rs, _, _, g4⟩ := retK_is g2
          simp [shrinkK] at g4
        | _ => exact hp.elim
      | ext i l =>
        simp only [Option.some.injEq] at h
        subst h
        cases e with
        | normal =>
          obtain ⟨⟨F', O', δ', g1, g2⟩, g3⟩ := hp
          simp [shrinkK, getC_eq] at g2
        | exit j =>
          obtain ⟨⟨F', O', δ', g1, g2⟩, g3⟩ := hp
          simp only [shrinkK, getC_eq, Option.some.injEq, Out.ext.injEq] at g2
          obtain ⟨rfl, rfl⟩ := g2
          simp only [outK, expandC_eq] at ho
          exact hQ (.exit j) _ _ ⟨⟨F', O', _, g1.carry h2, ho⟩, g3⟩
        | ret =>
          obtain ⟨⟨F', O', δ', g1, g2⟩, g3⟩ := hp
          obtain ⟨rs, _, _, g4⟩ := retK_is g2
          simp [shrinkK] at g4
        | _ => exact hp.elim
      | ret x y =>
        simp only [Option.some.injEq] at h
        subst h
        cases e with
        | normal =>
          obtain ⟨⟨F', O', δ', g1, g2⟩, g3⟩ := hp
          simp [shrinkK, getC_eq] at g2
        | exit j =>
          obtain ⟨⟨F', O', δ', g1, g2⟩, g3⟩ := hp
          simp [shrinkK, getC_eq] at g2
        | ret =>
          obtain ⟨⟨F', O', δ', g1, g2⟩, g3⟩ := hp
          obtain ⟨rs, g5, g6, g4⟩ := retK_is g2
          simp only [shrinkK, Option.some.injEq, Out.ret.injEq] at g4
          obtain ⟨rfl, rfl⟩ := g4
          exact hQ .ret _ _ ⟨⟨F', O', δ', g1, retK_of g5 g6 ho⟩, g3⟩
        | _ => exact hp.elim

theorem denQ_sound (hT : okT P c.T = true) (hS : ∀ f S, look c.S f = some S → Meets c.G P f S) (hm : P.follows .mixedOrders = true) {V : Nat → Value} {Z : List (Nat × List Nat)} : ∀ (b : Code) (bid : Nat), okCodeQ c Z bid b = true → ∀ (F : Nat → Prop) (O : Nat → Option (Nat × Nat)) (a : Act) (w : World) (δ : List D),
    Inv c B X w0 F0 F O a w δ → IoV c V a → ∀ (k : Out → Option Out) (r : Out), denQ c Z bid b δ k = some r → ∀ Q, (∀ e a w, Post c B X w0 F0 V k r e a w → Q e a w) → b.wp P Q a w
  | .skip, bid, _, F, O, a, w, δ, hI, hV, k, r, hg, Q, hQ => wp_skip (hQ _ _ _ ⟨⟨F, O, δ, hI, hg⟩, hV⟩)
  | .region id ops d, bid, hok, F, O, a, w, δ, hI, hV, k, r, hg, Q, hQ => by
    simp only [okCodeQ] at hok
    simp only [denQ] at hg
    cases hH : look Z id with
    | none =>
      rw [hH] at hok hg
      exact den_sound hT hS hm (.region id ops d) bid hok F O a w δ hI hV k r hg Q hQ
    | some fz =>
      rw [hH] at hok hg
      simp only [Bool.and_eq_true] at hok
      simp only [viaC_eq, setManyC_eq, setMany_two] at hg
      obtain ⟨F2, O2, hI2⟩ := hI.recast hok.1
      refine den_sound (c := rcx c fz) hT hS hm (.region id ops d) bid hok.2 F2 O2 a w _ hI2 (fun s hs => hV s (by rw [← frz_io (fz := fz)]; exact hs)) (unK c fz k) r hg Q (fun e a w hp => ?_)
      cases e with
      | normal =>
        obtain ⟨⟨F', O', δ', hI', hk'⟩, hV'⟩ := hp
        exact hQ .normal _ _ ⟨⟨F', O', _, hI'.uncast, hk'⟩, fun s hs => hV' s (by rw [frz_io]; exact hs)⟩
      | exit i => obtain ⟨⟨_, _, _, _, h⟩, _⟩ := hp; cases h
      | ret =>
        obtain ⟨⟨_, _, _, _, h⟩, _⟩ := hp
        obtain ⟨rs, h1, h2, h3⟩ := retK_is h
        cases h3
      | _ => exact hp.elim
  | .seq x y, bid, hok, F, O, a, w, δ, hI, hV, k, r, hg, Q, hQ => by
    simp only [okCodeQ, Bool.and_eq_true] at hok
    refine wp_seq (denQ_sound hT hS hm x bid hok.1 F O a w δ hI hV _ r hg _ (fun e a' w' hp => ?_))
    cases e with
    | normal =>
      obtain ⟨⟨F', O', δ', hI', hk'⟩, hV'⟩ := hp
      exact denQ_sound hT hS hm y bid hok.2 F' O' a' w' δ' hI' hV' k r hk' Q hQ
    | exit id => exact hQ _ _ _ hp
    | ret => exact hQ _ _ _ hp
    | _ => exact hp.elim
  | .cond x t e, bid, hok, F, O, a, w, δ, hI, hV, k, r, hg, Q, hQ => by
    simp only [okCodeQ, Bool.and_eq_true] at hok
    obtain ⟨⟨hlv, hok1⟩, hok2⟩ := hok
    have hop := hI.opd (ble_iff.1 hlv)
    have key : ifD (opD δ x) (denQ c Z bid t δ k) (denQ c Z bid e δ k) = some r := by
      simp only [denQ] at hg
      cases x with
      | tmp s => simpa only [opC, nthC_eq, opD] using hg
      | const v => simpa only [opC, opD] using hg
      | func f => simpa only [opC, opD] using hg
      | global g => simp [opC] at hg
    unfold ifD at key
    split at key
    · rename_i hd
      rw [hd] at hop
      exact wp_cond_true (RepB_v hop).1 (denQ_sound hT hS hm t bid hok1 F O a w δ hI hV k r key Q hQ)
    · rename_i hd
      rw [hd] at hop
      exact wp_cond_false (RepB_v hop).1 (denQ_sound hT hS hm e bid hok2 F O a w δ hI hV k r key Q hQ)
    · cases key
  | .block id b, bid, hok, F, O, a, w, δ, hI, hV, k, r, hg, Q, hQ => by
    simp only [okCodeQ] at hok
    refine wp_block (denQ_sound hT hS hm b id hok F O a w δ hI hV _ r hg _ (fun e a' w' hp => ?_))
    cases e with
    | normal => exact hQ .normal _ _ hp
    | exit i =>
      simp only [Exit.inBlock]
      have hp' : NextV c B X w0 F0 V (fun δ => blkK id (.ext i δ) k) r a' w' := hp
      split
      · rename_i hi
        refine hQ .normal _ _ (NextV_mono hp' fun δ F O _ h => ?_)
        simp only [blkK] at h
        rw [beq_iff.2 (by simpa using hi)] at h
        exact h
      · rename_i hi
        refine hQ (.exit i) _ _ (NextV_mono hp' fun δ F O _ h => ?_)
        simp only [blkK] at h
        cases hb : Nat.beq i id
        · rw [hb] at h; exact h
        · exact absurd (by simpa using beq_iff.1 hb) hi
    | ret => exact hQ .ret _ _ hp
    | _ => exact hp.elim
  | .loop b, bid, hok, F, O, a, w, δ, hI, hV, k, r, hg, Q, hQ => by
    simp only [okCodeQ, Bool.and_eq_true] at hok
    obtain ⟨hok1, hok2⟩ := hok
    simp only [denQ] at hg
    cases hH : look c.H bid with
    | none => rw [hH] at hg; cases hg
    | some hx =>
      obtain ⟨hl, xl⟩ := hx
      rw [hH] at hg hok2
      simp only [Bool.and_eq_true] at hok2
      simp only [getC_eq] at hg
      obtain ⟨o', h1, h2⟩ := Option.bind_eq_some_iff.1 hg
      unfold loopC at h1
      split at h1
      case isFalse => cases h1
      rename_i hex
      refine wp_loop_rounds (Classical.choose hex) ?_
      refine loop_roundsQ (hl := hl) (xl := xl) hok2.1 hok2.2 (fun F O a w δ hI hV k r hg Q hQ => denQ_sound hT hS hm b bid hok1 F O a w δ hI hV k r hg Q hQ) hQ h2 _ F O a w δ hI hV h1
  | .exit id, bid, _, F, O, a, w, δ, hI, hV, k, r, hg, Q, hQ => wp_exit (hQ _ _ _ ⟨⟨F, O, δ, hI, hg⟩, hV⟩)
  | .ret, bid, _, F, O, a, w, δ, hI, hV, k, r, hg, Q, hQ => wp_ret (hQ _ _ _ ⟨⟨F, O, δ, hI, hg⟩, hV⟩)
  | .label _, _, hok, _, _, _, _, _, _, _, _, _, _, _, _ => by simp [okCodeQ] at hok
  | .goto _, _, hok, _, _, _, _, _, _, _, _, _, _, _, _ => by simp [okCodeQ] at hok
  | .scope _, _, hok, _, _, _, _, _, _, _, _, _, _, _, _ => by simp [okCodeQ] at hok

theorem fn_callsQ (hT : okT P c.T = true) (hS : ∀ f S, look c.S f = some S → Meets c.G P f S) (hm : P.follows .mixedOrders = true) {Z : List (Nat × List Nat)} {f : FuncId} {fn : Func} (hf : P.funcs[f]? = some fn) {pm rm : List Kd} (hok : okFnQ c Z fn pm rm = true) (hres : c.res = fn.results.toList)
    {ds rs us : List D} (hd : denFQ c Z fn ds = some (.ret rs us)) {args : Array Value} {w : World} {F : Nat → Prop} {ow : Nat → Option Nat} (hgl : gOk c.G w F) (ha : ArgsOk w F ow 0 pm ds args.toList) (hF : ∀ b, F b → b < w.heap.size ∧ ow b = none) (hO : ∀ b i, ow b = some i → b < w.heap.size) :
    Calls P f args w fun e w' => ∃ v, e = .returned v ∧ ∃ F' R' vs, v = resV vs ∧ CallPost { pm := pm, rm := rm, f := denFQ c Z fn } args rs us w F ow F' R' vs w' := by
  unfold okFnQ at hok
  simp only [Bool.and_eq_true, decide_eq_true_eq] at hok
  obtain ⟨⟨⟨⟨⟨hcode, hlenK⟩, hpre⟩, hpm⟩, hokr⟩, hios⟩ := hok
  rw [beq_iff, lenN_eq] at hlenK
  obtain ⟨hpl, hpn⟩ := prefK_nth hpre
  obtain ⟨hdl, hal, hargs⟩ := ArgsOk_at pm ds args.toList 0 ha
  have hasz : args.size = pm.length := by simpa using hal
  unfold denFQ at hd
  cases hb : fn.body with
  | none => rw [hb] at hd; cases hd
  | some b =>
    rw [hb] at hd hcode
    simp only at hd hcode
    refine calls_of_wp hf hb ?_
    have hav : ∀ s, s < pm.length → av ({ tmps := args ++ Array.replicate (fn.ntmps - args.size) undef, defers := [] } : Act) s = args.toList.getD s undef := fun s hs => by
      have h1 : s < args.size := by omega
      simp only [av, Array.getD_eq_getD_getElem?, List.getD_eq_getElem?_getD, Array.getElem?_toList]
      rw [Array.getElem?_append_left h1]
    have hinit : Inv c w.heap.size (fun b => ow b ≠ none) w F F (fun b => (ow b).map fun i => (i, 0)) { tmps := args ++ Array.replicate (fn.ntmps - args.size) undef, defers := [] } w (padTo fn.ntmps ds) := by
      refine ⟨by simp; omega, by rw [padTo_len, hlenK], rfl, fun s => ?_, fun b hb => ⟨(hF b hb).1, by simp [(hF b hb).2]⟩, fun b p hp => ?_, fun _ h => h, fun _ h => .inl h, Nat.le_refl _, rfl, rfl, rfl, fun _ _ _ => rfl, hgl⟩
      · unfold SlotOk
        rw [padTo_nth _ _ _ (by rw [hdl]; omega)]
        by_cases hs : s < pm.length
        · rw [hpn s hs, hav s hs]
          rcases hargs s hs with hbad | harg
          · exact .inl hbad
          refine .inr ?_
          have hlv : ∀ lv, lv ≠ 1 → ∀ b, FB F 0 lv b → FB F w.heap.size lv b := fun lv h1 b hb => by
            match lv, h1 with
            | 0, _ => exact hb
            | _ + 2, _ => exact hb
          rcases okPm_at hpm s hs with ⟨lv, hk, h1⟩ | ⟨z, lv, hk, h1⟩ | ⟨n, lv, hk, h1⟩
          · rw [hk] at harg ⊢
            exact .inr (RepV_mono (hlv lv h1) (fun _ _ => rfl) harg)
          · rw [hk] at harg ⊢
            exact .inr (OwnV_mono' (hlv lv h1) (fun _ _ => rfl) (fun g _ hg => ⟨⟨by simp only [Nat.zero_add] at hg; simp [hg], fun h => by cases h⟩, rfl⟩) harg)
          · rw [hk] at harg ⊢
            exact .inr (BoxV_mono' (hlv lv h1) (fun _ _ => rfl) (fun g _ hg => ⟨⟨by simp only [Nat.zero_add] at hg; simp [hg], fun h => by cases h⟩, rfl⟩) harg)
        · refine .inl ?_
          rw [nth_eq, List.getD_eq_getElem?_getD, List.getElem?_eq_none (by omega)]
          rfl
      · obtain ⟨i, hi, rfl⟩ := Option.map_eq_some_iff.1 hp
        exact ⟨hO b i hi, .inr (by rw [hi]; simp)⟩
    refine denQ_sound hT hS hm b 0 hcode F _ _ w _ hinit (V := av { tmps := args ++ Array.replicate (fn.ntmps - args.size) undef, defers := [] }) (fun _ _ => rfl) _ _ hd _ (fun e a' w' hp => ?_)
    have fin : NextV c w.heap.size (fun b => ow b ≠ none) w F (av { tmps := args ++ Array.replicate (fn.ntmps - args.size) undef, defers := [] }) (fun δ => retK c δ some) (.ret rs us) a' w' → a'.defers = [] ∧ ∃ v, (results fn a'.tmps).run P w' = .ok v w' ∧ ∃ v', Ending.returned v = .returned v' ∧ ∃ F' R' vs, v' = resV vs ∧ CallPost { pm := pm, rm := rm, f := denFQ c Z fn } args rs us w F ow F' R' vs w' := by
      rintro ⟨⟨F', O', δ', hI', hk⟩, hV'⟩
      obtain ⟨rs', h1, h2, h3⟩ := retK_is hk
      simp only [Option.some.injEq, Out.ret.injEq] at h3
      obtain ⟨rfl, rfl⟩ := h3
      obtain ⟨vs, g1, g2, g3, g4⟩ := res_run (P := P) hT hI' c.res rm rs' hokr h1
      refine ⟨hI'.df, resV vs, ?_, _, rfl, F', fun b => if w.heap.size ≤ b then (match O' b with
        | some (t, 0) => resIx c.res t 0
        | _ => none) else none, vs, rfl, ?_⟩
      · have hrun : (fn.results.mapM (getRes a'.tmps)).run P w' = .ok vs.toArray w' := by
          rw [Array.mapM_eq_mapM_toList, ← hres]
          simp [g1]
        have hrw : results fn a'.tmps = (do
            let vs ← fn.results.mapM (getRes a'.tmps)
            pure (if h : vs.size = 1 then vs[0] else .tuple vs)) := by
          unfold results
          congr 1
        rw [hrw]
        simp only [Sem.run_bind, hrun, Result.andThen_ok, Sem.run_pure]
        congr 1
        rcases vs with _ | ⟨y, _ | ⟨y', vs⟩⟩
        · simp [resV]
        · simp [resV]
        · simp [resV]
      · refine ⟨hI'.os, hI'.tape, hI'.output, hI'.bb, fun b hb ho => hI'.keep b hb (by simp [ho]), hI'.f0, fun b hb => ⟨hI'.fn b hb, (hI'.fl b hb).1, by simp only [(hI'.fl b hb).2]; split <;> rfl⟩, fun b j hj => ?_, g2, g3, fun j => ?_, ?_⟩
        · split at hj
          case isFalse => cases hj
          rename_i hB
          refine ⟨hB, ?_⟩
          split at hj
          · rename_i t he; exact (hI'.ol b _ he).1
          · cases hj
        · refine ResOk_mono (fun hk g hg => ?_) (g4 j)
          obtain ⟨z, lv, hk⟩ := hk
          obtain ⟨e1, t, e2, e3⟩ := hg
          rw [if_pos e1]
          simp only [e3]
          have := (resIx_own c.res rm hokr j t 0 z lv hk e2).1
          simpa using this
        · rw [hios]
          refine UsOk_of pm args.toList 0 hal (fun j hj hio => ?_)
          rw [Nat.zero_add]
          have hkj := hpn j hj
          have hbj : nth δ' j ≠ .bad := by
            refine h2 _ ?_
            rw [hios, getAll_map]
            exact List.mem_map_of_mem (by simpa using ioIdx_mem pm 0 j hj hio)
          have havj : av a' j = args.toList.getD j undef := (hV' j (by rw [hkj]; exact hio)).trans (hav j hj)
          have hlv : ∀ lv, lv ≠ 1 → ∀ b, FB F' w.heap.size lv b → FB F' 0 lv b := fun lv h1 b hb => by
            match lv, h1 with
            | 0, _ => exact hb
            | _ + 2, _ => exact hb
          refine ⟨hbj, .inr ?_⟩
          rcases okPm_at hpm j hj with ⟨lv, hk, h1⟩ | ⟨z, lv, hk, h1⟩ | ⟨n, lv, hk, h1⟩
          · rw [hk] at hio; cases hio
          · have h5 := hI'.own (hkj.trans hk) hbj
            rw [havj] at h5
            rw [hk]
            exact OwnV_mono' (hlv lv h1) (fun _ _ => rfl) (fun _ _ _ => ⟨trivial, rfl⟩) h5
          · have h5 := hI'.box (hkj.trans hk) hbj
            rw [havj] at h5
            rw [hk]
            exact BoxV_mono' (hlv lv h1) (fun _ _ => rfl) (fun _ _ _ => ⟨trivial, rfl⟩) h5
    cases e with
    | normal => exact fin hp
    | exit i =>
      obtain ⟨⟨_, _, _, _, h⟩, _⟩ := hp
      cases h
    | ret =>
      refine fin (NextV_mono hp fun δ F O _ h => ?_)
      obtain ⟨rs', h1, h2, h3⟩ := retK_is h
      exact retK_of h1 h2 h3
    | _ => exact hp.elim

theorem meets_ofQ (hT : okT P c.T = true) (hS : ∀ f S, look c.S f = some S → Meets c.G P f S) (hm : P.follows .mixedOrders = true) {Z : List (Nat × List Nat)} {f : FuncId} {fn : Func} (hf : P.funcs[f]? = some fn) (hname : (fn.name == "runtime.NumGoroutine") = false) {pm rm : List Kd} (hok : okFnQ c Z fn pm rm = true) (hres : c.res = fn.results.toList) :
    Meets c.G P f { pm := pm, rm := rm, f := denFQ c Z fn } := by
  intro ds rs us hd args w F ow hgl ha hF hO o a next Q hn
  have hbody : ∃ b, fn.body = some b := by
    have hd' : denFQ c Z fn ds = some (.ret rs us) := hd
    unfold denFQ at hd'
    cases hb : fn.body with
    | none => rw [hb] at hd'; cases hd'
    | some b => exact ⟨b, rfl⟩
  obtain ⟨b, hb⟩ := hbody
  have hrun : (callFunc f args).run P w = .ok (.enter f args) w := by
    have h1 : ¬ fn.name = "runtime.NumGoroutine" := by simpa using hname
    simp [callFunc, hf, h1, hb]
  rw [hrun, Oper.upon_enter]
  refine Calls.mono (fn_callsQ hT hS hm hf hok hres hd hgl ha hF hO) (fun e w' he => ?_)
  obtain ⟨v, rfl, F', R', vs, h1, h2⟩ := he
  exact hn v w' ⟨F', R', vs, h1, h2⟩


end
end Go.V
/-
  Contexts and contracts of functions, printed by gen.py.
-/
namespace Go.Proofs.Ytaphcpfkgpaefaa
open Go.V
set_option maxRecDepth 100000
@[reducible] def ty4 : TI := { n := 1, zero := [.v (.bool false)], bl := true }
/-- loop.example/g01054/laws.FnExactMostInTime -/
@[reducible] noncomputable def c_laws_FnExactMostInTime : Cx := { K := [.dat 2, .no, .dat 0, .dat 0, .dat 2, .dat 0, .via 26, .via 30, .dat 0, .dat 0, .dat 0, .dat 0, .dat 1, .dat 0, .dat 2, .dat 0, .dat 0, .dat 0, .dat 0, .tup [.dat 2, .dat 0], .dat 2, .dat 1, .tup [.dat 2, .dat 0], .dat 2, .dat 0, .dat 2, .own 4 0 false, .tup [.own 1 0 false, .dat 0], .via 26, .tup [.own 1 0 false, .dat 0], .own 1 0 false, .dat 0, .via 30, .dat 2, .dat 0, .dat 0, .dat 0, .dat 0, .dat 0, .dat 0, .dat 0, .via 26, .dat 2, .dat 1, .dat 0, .dat 0, .via 26, .dat 0, .dat 0, .dat 0, .dat 0, .dat 0, .via 30, .dat 2, .dat 0, .dat 0, .dat 0, .dat 0, .dat 0, .dat 0, .dat 0, .dat 0, .via 30, .dat 0, .dat 0, .via 30, .dat 0, .dat 0, .dat 0, .dat 0, .dat 0, .dat 0, .dat 0, .tup [.own 1 0 false, .dat 0], .dat 2, .dat 1, .tup [.own 1 0 false, .dat 0], .dat 1, .dat 0, .dat 1, .dat 2, .dat 0, .dat 0, .dat 0, .dat 0, .dat 0, .dat 0, .dat 0, .via 30, .dat 0, .dat 0, .dat 0, .dat 0, .dat 0, .dat 0, .dat 0], T := [(3, ty3), (4, ty4)], S := [(5, S_laws_szOrderS), (7, S_laws_toOrderS), (9, S_laws_eqIntS), (10, S_laws_eqOrderS), (11, S_laws_markOrderS), (12, S_laws_markIntS), (13, S_laws_heldIntS), (14, S_spec_MostInTime), (15, S_impl_MostInTime)], H := [], res := [.tmp 2], ios := [], G := gl0 }
noncomputable def F_laws_FnExactMostInTime : List D → Option Out := denF c_laws_FnExactMostInTime Try.f4
@[reducible] noncomputable def S_laws_FnExactMostInTime : FS := { pm := [.dat 2], rm := [.dat 0], f := F_laws_FnExactMostInTime }
theorem M_laws_FnExactMostInTime : Meets gl0 Try.prog 4 S_laws_FnExactMostInTime := meets_of (P := Try.prog) (c := c_laws_FnExactMostInTime) (fn := Try.f4) (pm := S_laws_FnExactMostInTime.pm) (rm := S_laws_FnExactMostInTime.rm) (by kernel_rfl) (lookCons M_laws_szOrderS (lookCons M_laws_toOrderS (lookCons M_laws_eqIntS (lookCons M_laws_eqOrderS (lookCons M_laws_markOrderS (lookCons M_laws_markIntS (lookCons M_laws_heldIntS (lookCons M_spec_MostInTime (lookCons M_impl_MostInTime lookNil))))))))) follows_mixed Try.func4 (by kernel_rfl) (by kernel_rfl) rfl
end Go.Proofs.Ytaphcpfkgpaefaa
/-
  What the functions compute: their evaluated texts, printed.
-/
namespace Go.Proofs.Ytaphcpfkgpaefaa
open Go Go.V
theorem t_laws_FnExactMostInTime (x0 : D) : F_laws_FnExactMostInTime [x0] =
  (callK (F_laws_szOrderS [x0, D.v (Value.int IntKind.i64 1048576)]) fun rs _u => (bin BinOp.lss false [] (sl rs 0) (D.v (Value.int IntKind.i64 0))).bind fun z => ifD z (some (Out.ret [D.v (Value.bool true)] []))
 (callK (F_laws_toOrderS [x0]) fun rs _u => callK (F_spec_MostInTime [sl rs 0]) fun rs _u => (tupAt (D.tup rs) 0).bind fun z => (tupAt (D.tup rs) 1).bind fun z_1 => callK (F_laws_toOrderS [x0]) fun rs _u =>
 (liveD (sl rs 0) (D.ref 0 0)).bind fun z_2 => (liveD z_2 (D.ref 0 0)).bind fun z_3 => (liveD z_3 (sl rs 0)).bind fun i => callK (fMst [i]) fun rs_1 _u => (tupAt (D.tup rs_1) 0).bind fun y =>
 (tupAt (tupCut (D.tup rs_1) 0) 1).bind fun z_4 => (liveD y (D.ref 0 0)).bind fun z_5 => (liveD z_5 (D.ref 0 0)).bind fun z_6 => (liveD z_6 y).bind fun i => callK (F_laws_eqIntS [i, z]) fun rs_2 _u =>
 (un UnOp.not (sl rs_2 0)).bind fun z_7 => (gate (D.tup []) z_7 false (some z_4)).bind fun z_8 => (gate (D.tup []) z_7 false (some z_1)).bind fun z_9 =>
 (gate (D.tup []) z_7 false (bin BinOp.neq true [] z_8 z_9)).bind fun z_10 => (pickD z_7 (D.v (Value.bool true)) z_10).bind fun z_11 => ifD z_11 (some (Out.ret [D.v (Value.bool false)] []))
 ((liveD z_2 (D.ref 0 0)).bind fun z_12 => callK (F_laws_toOrderS [x0]) fun rs_3 _u => (liveD z_12 (sl rs 0)).bind fun i => callK (F_laws_eqOrderS [i, sl rs_3 0]) fun rs_4 _u => (un UnOp.not (sl rs_4 0)).bind fun z_13 =>
 ifD z_13 (some (Out.ret [D.v (Value.bool false)] [])) ((liveD z_2 (D.ref 0 0)).bind fun z_14 => (ref0 z_14 (sl rs 0)).bind fun i => (liveD i i).bind fun i => callK (F_laws_markOrderS [i, D.v (Value.int IntKind.i64 1)])
 fun rs _u => (bin BinOp.lss false [] (sl rs 0) (D.v (Value.int IntKind.i64 0))).bind fun z_15 => (gate D.bad z_15 false (liveD z_5 (D.ref 0 0))).bind fun z_16 => (gate (D.tup []) z_15 false (some z)).bind fun z_17 =>
 gateC z_15 false ((liveD z_16 y).bind fun i => callK (F_laws_eqIntS [i, z_17]) fun rs _u => some (Out.nrm [sl rs 0])) [D.tup []] fun outs => (gate (D.tup []) z_15 false (un UnOp.not (sl outs 0))).bind fun z_18 =>
 (pickD z_15 (D.v (Value.bool true)) z_18).bind fun z_19 => (gate (D.tup []) z_19 false (some z_4)).bind fun z_20 => (gate (D.tup []) z_19 false (some z_1)).bind fun z_21 => (gate (D.tup []) z_19 false
 (bin BinOp.neq true [] z_20 z_21)).bind fun z_22 => (pickD z_19 (D.v (Value.bool true)) z_22).bind fun z_23 => ifD z_23 (some (Out.ret [D.v (Value.bool false)] [])) ((liveD z_5 (D.ref 0 0)).bind fun z_24 =>
 (ref0 z_24 y).bind fun i => (liveD i i).bind fun i => callK (F_laws_markIntS [i, D.v (Value.int IntKind.i64 1)]) fun rs us => (liveD z_5 (D.ref 0 0)).bind fun z_25 => (liveD z_25 (sl us 0)).bind fun i => callK
 (F_laws_heldIntS [i, D.v (Value.int IntKind.i64 1)]) fun rs_5 _u => (bin BinOp.lss false [] (sl rs_5 0) (D.v (Value.int IntKind.i64 0))).bind fun z_26 => ifD z_26 (some (Out.ret [D.v (Value.bool false)] [])) ((bin
 BinOp.neq false [] (sl rs_5 0) (sl rs 0)).bind fun z_27 => ifD z_27 (some (Out.ret [D.v (Value.bool false)] [])) (callK (F_laws_toOrderS [x0]) fun rs_6 _u => callK (fMst [sl rs_6 0]) fun rs_7 _u => (tupAt (D.tup rs_7)
 0).bind fun y => (tupAt (tupCut (D.tup rs_7) 0) 1).bind fun z_28 => callK (F_laws_eqIntS [y, z]) fun rs_8 _u => (un UnOp.not (sl rs_8 0)).bind fun z => (gate (D.tup []) z false (some z_28)).bind fun z_29 => (gate (D.tup
 []) z false (some z_1)).bind fun z_30 => (gate (D.tup []) z false (bin BinOp.neq true [] z_29 z_30)).bind fun z_31 => (pickD z (D.v (Value.bool true)) z_31).bind fun z => ifD z (some (Out.ret [D.v (Value.bool false)] []))
 ((liveD z_5 (D.ref 0 0)).bind fun z => (liveD z (sl us 0)).bind fun i => callK (F_laws_heldIntS [i, D.v (Value.int IntKind.i64 1)]) fun rs_9 _u => (bin BinOp.lss false [] (sl rs_9 0) (D.v (Value.int IntKind.i64 0))).bind
 fun z => ifD z (some (Out.ret [D.v (Value.bool false)] [])) ((bin BinOp.neq false [] (sl rs_9 0) (sl rs 0)).bind fun z => ifD z (some (Out.ret [D.v (Value.bool false)] [])) (some (Out.ret [D.v (Value.bool true)]
 []))))))))))) := by kernel_rfl
end Go.Proofs.Ytaphcpfkgpaefaa
/-
  Both sides say the same of the most orders in time.
-/
namespace Go.Proofs.Ytaphcpfkgpaefaa
open Go Go.V
set_option linter.unusedSimpArgs false

theorem e_fMst (l : List Od) (hl : l.length ≤ 1048576) : fMst [ods l] = some (.ret [ints (mstR l), B (goodO l)] []) := by
  simp [fMst, odsOf_map, hl]
theorem law_MostInTime (l : List Od) (_h : l.length ≤ 9223372036854775807) : F_laws_FnExactMostInTime [ods l] = some (.ret [B true] []) := by
  rw [t_laws_FnExactMostInTime]
  obtain ⟨m, h1, h2⟩ := e_laws_szOrderS l 1048576
  by_cases hm : m < 0
  · simp -implicitDefEqProofs [h1, hm]
  have h3 := h2 (by omega)
  rw [wrap_id (by omega) (by omega)] at h3
  have hl : l.length ≤ 1048576 := by omega
  have hn : (mstR l).length ≤ 8 := by
    cases hgd : goodO l
    · simp [mstR, hgd]
    · have := mostS_len (vM l) l.length (2 ^ l.length)
      have h8 := (goodO_all hgd).2
      simp only [mstR, hgd, if_true]
      omega
  have k1 := e_laws_markOrderS l 1 (by omega) (by omega) (by omega)
  have k3 := e_laws_markIntS (mstR l) 1 (by omega) (by omega) (by omega)
  have k4 := e_laws_heldIntS 1 (mstR l).length (by omega) (by omega) (by omega)
  have p1 : ¬ (1 + 4 * (l.length : Int) < 0) := by omega
  have p2 : ¬ (1 + ((mstR l).length : Int) < 0) := by omega
  simp -implicitDefEqProofs [h1, hm, e_laws_toOrderS l hl, e_spec_MostInTime l hl, e_fMst l hl, e_laws_eqOrderS l (by omega), e_laws_eqIntS (mstR l) (by omega), k1, k3, k4, p1, p2]
end Go.Proofs.Ytaphcpfkgpaefaa
