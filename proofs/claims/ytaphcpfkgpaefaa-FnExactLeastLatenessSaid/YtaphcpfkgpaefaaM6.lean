/-
  sort.SliceStable at few elements, whose less may lay new blocks: the library's walk at this seat.
-/
import Derived.Test.YtaphcpfkgpaefaaRows
import Derived.Test.YtaphcpfkgpaefaaM5
import Derived.Deep.QuietTactic
import Derived.BigCall
import Derived.BigQuiet
import Derived.WalkKit
import Derived.StillTailTactics
import Derived.Maps.AppendAt
import Derived.Lib.Builder
import Derived.OwnWalk
import Derived.Handy
import Derived.StillTactics
namespace Go.Proofs.Ytaphcpfkgpaefaa
open Go Go.Proofs Go.Shelf Go.RowKit Go.Lib Go.Sort
set_option linter.unusedSimpArgs false

section
variable {P : Program} {α : Type} [Inhabited α] {enc : α → Value} {w0 w1 W : World} {blk off : Nat} {d dk : Array α}
theorem sw_over (h : SW enc w0 blk off d w1) (hblk : blk < w0.heap.size) (h2 : SW enc w1 blk off dk W) (hs : dk.size = d.size) : SW enc w0 blk off dk W := by
  obtain ⟨m, os, rfl⟩ := h2
  exact h.on hblk m dk os hs
theorem sw_cell (h : SW enc w0 blk off dk W) {a : Addr} (hb : a.block ≠ blk) (hl : a.block < w0.heap.size) : W.cell? a = w0.cell? a := by
  obtain ⟨n, os, rfl⟩ := h
  unfold sortWorld
  rw [cell?_grow _ _ _ (by rw [size_putRow]; exact hl), cell?_putRow_other enc _ blk off dk _ (Or.inl hb)]
  rfl
theorem sw_grow (h : SW enc w0 blk off dk W) (q : Nat) (os : Array Obj) : SW enc w0 blk off dk (grow (W.drewN q) os) := by
  obtain ⟨n, os', h⟩ := h.drewN q
  rw [h]
  exact ⟨n, os' ++ os, by unfold sortWorld; rw [grow_grow]⟩
/-- A less that may lay new blocks and draw. -/
def Less2 (P : Program) (g : Nat) (lb : Array Value) (enc : α → Value) (lt : α → α → Bool) (blk off size : Nat) (w0 : World) : Prop :=
  ∀ (dk : Array α) (W : World), dk.size = size → SW enc w0 blk off dk W → ∀ i j : Nat, i < size → j < size →
    Calls P g (#[.int .i64 i, .int .i64 j] ++ lb) W fun e w' => e = .returned (.bool (lt dk[i]! dk[j]!)) ∧ ∃ q os, w' = grow (W.drewN q) os
end

set_option maxHeartbeats 2000000 in
set_option maxRecDepth 100000 in
theorem ins_walk {α : Type} [Inhabited α] (enc : α → Value) (lt : α → α → Bool) (g : Nat) (lb : Array Value) (sf : Nat) (sb : Array Value) (blk off : Nat) (d : Array α) (w00 w : World) (h00 : SW enc w00 blk off d w) (hblk0 : blk < w00.heap.size)
    (eg : ∀ args w, (callFunc g args).run Try.prog w = .ok (.enter g args) w) (hless : Less2 Try.prog g lb enc lt blk off d.size w00) (hswap : SwapSwaps Try.prog sf sb enc blk off d.size)
    (hH : Holds enc w blk off d) (hsz : d.size < 1000) :
    Calls Try.prog 63 #[.agg #[.func (.func g) #[] lb, .func (.func sf) #[] sb], .int .i64 0, .int .i64 d.size] w fun e w' =>
      e = .returned (.tuple #[]) ∧ SW enc w00 blk off (Sort.insertionSort lt d 0 d.size) w' := by
  have hblk : blk < w.heap.size := h00.lt hblk0
  have hw1 : SW enc w blk off d (w.alloc (.cells #[.func (.func g) #[] lb, .func (.func sf) #[] sb] 72)) := (SW.start hH).alloc _
  have hw0 := h00.alloc (.cells #[.func (.func g) #[] lb, .func (.func sf) #[] sb] 72)
  have k0 : (w.alloc (.cells #[.func (.func g) #[] lb, .func (.func sf) #[] sb] 72)).cell? ⟨w.heap.size, 0, none⟩ = some (.func (.func g) #[] lb) := by simp
  have k1 : (w.alloc (.cells #[.func (.func g) #[] lb, .func (.func sf) #[] sb] 72)).cell? ⟨w.heap.size, 1, none⟩ = some (.func (.func sf) #[] sb) := by simp
  have hl1 : w.heap.size < (w.alloc (.cells #[.func (.func g) #[] lb, .func (.func sf) #[] sb] 72)).heap.size := by rw [alloc_eq_grow, size_grow]; simp
  have hH1 := hw1.holds hblk hH rfl
  go_enter Try.func63, Try.ntmps63
  go_wp2
  generalize w.alloc (.cells #[.func (.func g) #[] lb, .func (.func sf) #[] sb] 72) = W1 at *
  have hb1 : blk < W1.heap.size := Nat.lt_trans hblk hl1
  have start1 : SW enc W1 blk off d W1 := SW.start hH1
  have kk0 : ∀ dk wr, SW enc W1 blk off dk wr → wr.cell? ⟨w.heap.size, 0, none⟩ = some (.func (.func g) #[] lb) := fun dk wr h => (sw_cell h (show w.heap.size ≠ blk by omega) hl1).trans k0
  have kk1 : ∀ dk wr, SW enc W1 blk off dk wr → wr.cell? ⟨w.heap.size, 1, none⟩ = some (.func (.func sf) #[] sb) := fun dk wr h => (sw_cell h (show w.heap.size ≠ blk by omega) hl1).trans k1
  have hold : ∀ dk wr, dk.size = d.size → SW enc W1 blk off dk wr → Holds enc wr blk off dk := fun dk wr hs h => h.holds hb1 hH1 hs
  have toW : ∀ dk wr, dk.size = d.size → SW enc W1 blk off dk wr → SW enc w00 blk off dk wr := fun dk wr hs h => sw_over hw0 hblk0 h hs
  clear k0 k1 hH hH1 hw0 hw1 h00
  go_loopw [6] (fun vi wr => ∃ (i : Nat) (dk : Array α), vi = .int .i64 i ∧ 0 < i ∧ i ≤ d.size + 1 ∧ dk.size = d.size ∧ SW enc W1 blk off dk wr ∧
      insOuter lt 0 d.size i dk = insOuter lt 0 d.size 1 d) (fun vi _ => d.size + 1 - (intOf vi).toNat)
  case atStart => exact ⟨1, d, by rfl, by omega, by omega, rfl, start1, rfl⟩
  case round =>
    obtain ⟨i, dk, rfl, hai, hib, hsk, hwr, hO⟩ := hrel
    have HO : Hid (insOuter lt 0 d.size i dk = insOuter lt 0 d.size 1 d) := hO
    clear hO
    go_wp2
    · -- i < b: the inner loop
      go_loopw [7] (fun vj wr2 => ∃ (j : Nat) (dj : Array α), vj = .int .i64 j ∧ j ≤ i ∧ dj.size = d.size ∧ SW enc W1 blk off dj wr2 ∧
          insInner lt 0 j dj = insInner lt 0 i dk) (fun vj _ => (intOf vj).toNat)
      case atStart => exact ⟨i, dk, rfl, Nat.le_refl _, hsk, hwr, rfl⟩
      case round =>
        obtain ⟨j, dj, rfl, hji, hsj, hw2, hI⟩ := hrel
        have hlt : i < d.size := by assumption
        have c0 := kk0 dj _ hw2
        have c1 := kk1 dj _ hw2
        have HW : Hid (SW enc W1 blk off dj wr) := hw2
        have HI : Hid (insInner lt 0 j dj = insInner lt 0 i dk) := hI
        clear hw2 hI hwr
        have out : (j ≤ 0 ∨ lt dj[j]! dj[j - 1]! = false) → ∀ wx, SW enc W1 blk off dj wx → ∃ (i' : Nat) (dk' : Array α), Value.int .i64 ((i : Int) + 1) = .int .i64 (i' : Nat) ∧ 0 < i' ∧ i' ≤ d.size + 1 ∧ dk'.size = d.size ∧
            SW enc W1 blk off dk' wx ∧ insOuter lt 0 d.size i' dk' = insOuter lt 0 d.size 1 d := fun hs wx hx =>
          ⟨i + 1, dj, congrArg (Value.int .i64) (by omega), by omega, by omega, hsj, hx,
            by rw [← HO.out, insOuter_go _ _ _ _ _ hlt, ← HI.out, insInner_stop _ _ _ _ hs]⟩
        have OUT : Hid _ := out
        clear out
        by_cases hja : 0 < j
        · have hl := hless dj wr hsj (toW dj wr hsj HW.out) j (j - 1) (by omega) (by omega)
          rw [show (((j - 1 : Nat) : Int)) = (j : Int) - 1 by omega] at hl
          replace hl := hl.mono (R' := fun e w' => e = .returned (.bool (lt dj[j]! dj[j - 1]!)) ∧ SW enc W1 blk off dj w') (fun e w' h => ⟨h.1, by obtain ⟨_, q, os, hx⟩ := h; rw [hx]; exact sw_grow HW.out q os⟩)
          cases hlv : lt dj[j]! dj[j - 1]! with
          | true =>
            rw [hlv] at hl
            go_wp2_with (go_at_fn g; refine hl.mono ?_; rintro e w' ⟨rfl, hx'⟩; have c1' := kk1 dj _ hx')
            have hs := hswap w' dj (hold dj w' hsj hx') hsj j (j - 1) (by omega) (by omega)
            rw [show (((j - 1 : Nat) : Int)) = (j : Int) - 1 by omega] at hs
            rw [hs, Oper.upon_value]
            go_wp2
            go_roundw
            case rel =>
              (repeat apply Exists.intro)
              refine ⟨⟨j - 1, swp dj j (j - 1), by congr 1 <;> omega, by omega, by rw [size_swp]; exact hsj, ?_, ?_⟩, by rw [decide_eq_true hlt, show ((j - 1 : Nat) : Int) = (j : Int) - 1 by omega]⟩
              · exact hx'.swap hb1 j (j - 1) (by omega) (by omega)
              · rw [← HI.out, insInner_go lt 0 j dj hja hlv]
            case measure => simp [intOf]; omega
          | false =>
            rw [hlv] at hl
            go_wp2_with (go_at_fn g; refine hl.mono ?_; rintro e w' ⟨rfl, hx'⟩)
            go_roundw
            case rel => exact OUT.out (Or.inr hlv) _ hx'
            case measure => simp [intOf]; omega
        · go_wp2
          go_roundw
          case rel => exact OUT.out (Or.inl (by omega)) _ HW.out
          case measure => simp [intOf]; omega
    · -- the outer loop is at its end
      have hge : ¬ i < d.size := by assumption
      go_end0
      exact ⟨rfl, by unfold Sort.insertionSort; rw [← HO.out, insOuter_stop _ _ _ _ _ hge]; exact toW _ _ hsk hwr⟩

set_option maxHeartbeats 2000000 in
set_option maxRecDepth 1000000 in
theorem stable_walk {α : Type} [Inhabited α] (enc : α → Value) (lt : α → α → Bool) (g : Nat) (lb : Array Value) (sf : Nat) (sb : Array Value) (blk off : Nat) (d : Array α) (w00 w : World) (h00 : SW enc w00 blk off d w) (hblk0 : blk < w00.heap.size)
    (eg : ∀ args w, (callFunc g args).run Try.prog w = .ok (.enter g args) w) (hless : Less2 Try.prog g lb enc lt blk off d.size w00) (hswap : SwapSwaps Try.prog sf sb enc blk off d.size)
    (hH : Holds enc w blk off d) (hsz : d.size < 20) :
    Calls Try.prog 52 #[.agg #[.func (.func g) #[] lb, .func (.func sf) #[] sb], .int .i64 d.size] w fun e w' =>
      e = .returned (.tuple #[]) ∧ SW enc w00 blk off (Sort.insertionSort lt d 0 d.size) w' := by
  have hc := ins_walk enc lt g lb sf sb blk off d w00 _ (h00.alloc (.cells #[.func (.func g) #[] lb, .func (.func sf) #[] sb] 72)) hblk0 eg hless hswap (by rw [alloc_eq_grow]; exact holds_grow enc w _ blk off d (h00.lt hblk0) hH) (by omega)
  clear hless hswap hH h00
  go_enter Try.func52, Try.ntmps52
  go_wp2
  refine wp_loop_rounds 1 ?_
  rw [rounds_succ]
  go_wp2_with (go_at_call 63; refine hc.mono ?_; rintro e w1 ⟨rfl, h1⟩)
  refine wp_loop_rounds 1 ?_
  rw [rounds_succ]
  go_wp2
  all_goals first | (exfalso; omega) | (go_end0; exact ⟨rfl, h1⟩)

noncomputable def siT : TypeInfo := (Try.prog.info? 24).get (by kernel_rfl)
noncomputable def siE : TypeInfo := (Try.prog.info? 3).get (by kernel_rfl)
theorem siK (n : Nat) (h2 : 2 ≤ n) : Lib.swapperK n siE 2 = 5 := by
  have a : siE.hasPointers = false := by kernel_rfl
  have b : siE.bytes = 8 := by kernel_rfl
  have c : (n == 0) = false := by simp; omega
  have d : (n == 1) = false := by simp; omega
  simp [Lib.swapperK, a, b, c, d]

set_option maxRecDepth 1000000 in
theorem slice_walk {α : Type} [Inhabited α] (enc : α → Value) (h1 : ∀ x, (enc x).oneCell' = true) (lt : α → α → Bool) (g : Nat) (lb : Array Value) (blk off c : Nat) (d : Array α) (w : World) (hblk : blk < w.heap.size)
    (eg : ∀ args w, (callFunc g args).run Try.prog w = .ok (.enter g args) w) (hless : Less2 Try.prog g lb enc lt blk off d.size w)
    (hH : Holds enc w blk off d) (h2 : 2 ≤ d.size) (hsz : d.size < 20) :
    Calls Try.prog 48 #[.iface 24 (.slice (some ⟨blk, off, none⟩) d.size c), .func (.func g) #[] lb] w fun e w' =>
      e = .returned (.tuple #[]) ∧ SW enc w blk off (Sort.insertionSort lt d 0 d.size) w' := by
  refine Any.sort_SliceStable_of_stable Try.laysGt8 24 3 siT siE (by kernel_rfl) (by kernel_rfl) (by kernel_rfl) (by kernel_rfl) 2 (fun _ => by kernel_rfl) (some ⟨blk, off, none⟩) d.size c (by omega) 58 (by rw [siK _ h2]; kernel_rfl) (.func g) #[] lb w _ ?_
  have hB : sliceBound Try.prog 3 siE 2 (some ⟨blk, off, none⟩) d.size c = #[.slice (some ⟨blk, off, none⟩) d.size c, typeHandle Try.prog 3] := by
    unfold sliceBound; rw [if_neg (swapperK_gt _ _ _ h2)]
  rw [hB]
  have h00 : SW enc w blk off d (stableWorld Try.prog Try.laysGt8_ren 24 (some ⟨blk, off, none⟩) d.size c w) := ((SW.start hH).alloc _).alloc _
  exact stable_walk enc lt g lb 58 _ blk off d w _ h00 hblk eg hless
    (swapSwaps_of_literal true _ (fun args W => run_callFunc_extern Try.func58 (by kernel_rfl) (by kernel_rfl) (by kernel_rfl) (e := Extern.ReflectliteSwapper.swap true) (by kernel_rfl) args W) 3 siE (by kernel_rfl) (by kernel_rfl) (fun _ => by kernel_rfl) enc h1 blk off d.size c)
    (h00.holds hblk hH rfl) hsz

set_option maxRecDepth 1000000 in
theorem slice_tiny (g : Nat) (lb : Array Value) (p : Option Addr) (n c : Nat) (hn : n ≤ 1) (w : World) :
    Calls Try.prog 48 #[.iface 24 (.slice p n c), .func (.func g) #[] lb] w fun e w' => e = .returned (.tuple #[]) ∧ ∃ os, w' = grow w os := by
  have hn2 : n = 0 ∨ n = 1 := by omega
  rcases hn2 with rfl | rfl
  · exact Any.sort_SliceStable_tiny Try.laysGt8 24 3 siT siE (by kernel_rfl) (by kernel_rfl) (by kernel_rfl) (by kernel_rfl) 2 (fun _ => by kernel_rfl) p 0 c hn 54 (by kernel_rfl) (.func g) #[] lb w
  · exact Any.sort_SliceStable_tiny Try.laysGt8 24 3 siT siE (by kernel_rfl) (by kernel_rfl) (by kernel_rfl) (by kernel_rfl) 2 (fun _ => by kernel_rfl) p 1 c hn 55 (by kernel_rfl) (.func g) #[] lb w
end Go.Proofs.Ytaphcpfkgpaefaa
/-
  The closures that order orders: walked by hand.
-/
namespace Go.Proofs.Ytaphcpfkgpaefaa
open Go Go.Proofs Go.V Go.RowKit Go.Sort
set_option linter.unusedSimpArgs false

abbrev odV (x : Od) : Value := .agg #[.int .i64 x.1, .int .i64 x.2.1, .int .i64 x.2.2.1, .int .i64 x.2.2.2]
def dueLt (a b : Od) : Bool := decide (a.2.2.2 < b.2.2.2)
def fstLt (a b : Od) : Bool :=
  if decide (a.2.1 < a.2.2.1) != decide (b.2.1 < b.2.2.1) then decide (a.2.1 < a.2.2.1)
  else if decide (a.2.1 < a.2.2.1) = true then decide (a.2.1 < b.2.1) else decide (b.2.2.1 < a.2.2.1)
/-- What a less of orders does. -/
def LessO (gl : Nat) (lt : Od → Od → Bool) : Prop :=
  (∀ args w, (callFunc gl args).run Try.prog w = .ok (.enter gl args) w) ∧
  ∀ (a b : Od) (W : World), Calls Try.prog gl #[odV a, odV b] W fun e w' => e = .returned (.bool (lt a b)) ∧ ∃ q os, w' = grow (W.drewN q) os

theorem grow2 (W : World) (a b : Obj) : (W.alloc a).alloc b = grow (W.drewN 0) #[a, b] := by
  rw [alloc_eq_grow, alloc_eq_grow, grow_grow]
  rfl
theorem grow2q (W : World) (a b : Obj) (q : Nat) : ((W.alloc a).alloc b).drewN q = grow (W.drewN q) #[a, b] := by
  rw [alloc_eq_grow, alloc_eq_grow, grow_grow]
  rfl
set_option maxHeartbeats 2000000 in
set_option maxRecDepth 1000000 in
theorem due_walk : LessO 44 dueLt := by
  refine ⟨Go.Proofs.enters_of Try.func44 (by kernel_rfl) rfl, fun a b W => ?_⟩
  go_enter Try.func44, Try.ntmps44
  go_wp2
  go_ret
  exact ⟨rfl, 0, _, grow2 W _ _⟩

set_option maxHeartbeats 1000000 in
set_option maxRecDepth 1000000 in
theorem lessq_walk {gl : Nat} {lt : Od → Od → Bool} (hl : LessO gl lt) (i j : Nat) (x y : Nat) (a b : Od) (Bl Bo Bs bo oo co n g og cg ng : Nat) (W : World)
    (h1 : W.cell? ⟨Bl, 0, none⟩ = some (.func (.func gl) #[] #[])) (h2 : W.cell? ⟨Bo, 0, none⟩ = some (.slice (some ⟨bo, oo, none⟩) n co)) (h3 : W.cell? ⟨Bs, 0, none⟩ = some (.slice (some ⟨g, og, none⟩) ng cg))
    (hi : i < ng) (hj : j < ng) (hx : x < n) (hy : y < n)
    (c1 : W.cell? ⟨g, og + i, none⟩ = some (.int .i64 x)) (c2 : W.cell? ⟨g, og + j, none⟩ = some (.int .i64 y))
    (d0 : W.cell? ⟨bo, oo + x * 4, none⟩ = some (.int .i64 a.1)) (d1 : W.cell? ⟨bo, oo + x * 4 + 1, none⟩ = some (.int .i64 a.2.1)) (d2 : W.cell? ⟨bo, oo + x * 4 + 2, none⟩ = some (.int .i64 a.2.2.1)) (d3 : W.cell? ⟨bo, oo + x * 4 + 3, none⟩ = some (.int .i64 a.2.2.2))
    (e0 : W.cell? ⟨bo, oo + y * 4, none⟩ = some (.int .i64 b.1)) (e1 : W.cell? ⟨bo, oo + y * 4 + 1, none⟩ = some (.int .i64 b.2.1)) (e2 : W.cell? ⟨bo, oo + y * 4 + 2, none⟩ = some (.int .i64 b.2.2.1)) (e3 : W.cell? ⟨bo, oo + y * 4 + 3, none⟩ = some (.int .i64 b.2.2.2)) :
    Calls Try.prog 49 (#[.int .i64 i, .int .i64 j] ++ #[.pointer (some ⟨Bl, 0, none⟩), .pointer (some ⟨Bo, 0, none⟩), .pointer (some ⟨Bs, 0, none⟩)]) W fun e w' => e = .returned (.bool (lt a b)) ∧ ∃ q os, w' = grow (W.drewN q) os := by
  obtain ⟨eg, hc⟩ := hl
  go_enter Try.func49, Try.ntmps49
  go_wp2
  go_still_tail 15, (by kernel_rfl)
  change wpList _ _ _ _ _ (W.drewN 1)
  go_wp2_with (go_at_fn gl; refine (hc a b (W.drewN 1)).mono ?_; rintro e w' ⟨rfl, q, os, rfl⟩)
  go_ret
  exact ⟨rfl, 1 + q, os, rfl⟩
end Go.Proofs.Ytaphcpfkgpaefaa
/-
  impl.sequenceOf: walked by hand.
-/
namespace Go.Proofs.Ytaphcpfkgpaefaa
open Go Go.Proofs Go.V Go.RowKit Go.Sort
set_option linter.unusedSimpArgs false

def cellsO (x : Od) : List Value := [.int .i64 x.1, .int .i64 x.2.1, .int .i64 x.2.2.1, .int .i64 x.2.2.2]
/-- The indices of a list. -/
def idxL (n : Nat) : List Int := (List.range n).map fun (i : Nat) => (i : Int)
theorem idxL_succ (n : Nat) : idxL (n + 1) = idxL n ++ [(n : Int)] := by simp [idxL, List.range_succ]
theorem idxL_length (n : Nat) : (idxL n).length = n := by simp [idxL]
/-- The order at an index, and how an index lies in memory. -/
def oN (l : List Od) (x : Nat) : Od := l.getD (x % l.length) (0, 0, 0, 0)
def encN (n : Nat) (x : Nat) : Value := .int .i64 ((x % n : Nat) : Int)
def ltN (l : List Od) (lt : Od → Od → Bool) (x y : Nat) : Bool := lt (oN l x) (oN l y)
/-- The indices of orders, sorted. -/
def sortN (l : List Od) (lt : Od → Od → Bool) : Array Nat := Sort.insertionSort (ltN l lt) (List.range l.length).toArray 0 l.length
theorem size_insInner {α : Type} [Inhabited α] (lt : α → α → Bool) (a : Nat) : ∀ (j : Nat) (d : Array α), (insInner lt a j d).size = d.size
  | 0, d => by rw [insInner]
  | j + 1, d => by
    rw [insInner]
    split
    · rw [size_insInner lt a j, size_swp]
    · rfl
theorem size_insOuter {α : Type} [Inhabited α] (lt : α → α → Bool) (a b : Nat) : ∀ (k i : Nat) (d : Array α), b - i = k → (insOuter lt a b i d).size = d.size
  | 0, i, d, h => by rw [insOuter_stop lt a b i d (by omega)]
  | k + 1, i, d, h => by rw [insOuter_go lt a b i d (by omega), size_insOuter lt a b k (i + 1) _ (by omega), size_insInner]
theorem size_sortN (l : List Od) (lt : Od → Od → Bool) : (sortN l lt).size = l.length := by
  unfold sortN Sort.insertionSort
  rw [size_insOuter _ _ _ _ _ _ rfl]
  simp
section
variable {α : Type} [Inhabited α] {enc : α → Value} {w0 W : World} {g off : Nat} {dk : Array α}
theorem sw_block (h : SW enc w0 g 0 dk W) {cur : Array Value} {t : Nat} (hg : w0.heap[g]? = some (.cells cur t (0, 0))) (hs : dk.size ≤ cur.size) :
    ∃ cur', W.heap[g]? = some (.cells cur' t (0, 0)) ∧ cur'.size = cur.size ∧ ∀ (i : Nat) (u : Value), (dk.toList.map enc)[i]? = some u → cur'[i]? = some u := by
  obtain ⟨n, os, rfl⟩ := h
  have hb : g < w0.heap.size := (Array.getElem?_eq_some_iff.1 hg).1
  refine ⟨Go.Sort.putCells enc 0 dk cur, ?_, by simp [Go.Sort.putCells], fun i u hu => ?_⟩
  · unfold sortWorld
    rw [heap_grow_old _ _ (by rw [size_putRow]; exact hb)]
    unfold putRow mapBlock
    show (w0.heap.modify g _)[g]? = _
    rw [Array.getElem?_modify, if_pos rfl, hg]
    rfl
  · simp only [List.getElem?_map, Option.map_eq_some_iff] at hu
    obtain ⟨x, hx, rfl⟩ := hu
    rw [Array.getElem?_toList] at hx
    obtain ⟨hi, hx⟩ := Array.getElem?_eq_some_iff.1 hx
    have hic : i < cur.size := by omega
    unfold Go.Sort.putCells
    rw [Array.getElem?_mapIdx, Array.getElem?_eq_getElem hic]
    simp [hi, hx]
theorem sw_below (h : SW enc w0 g off dk W) {B : Nat} (hB : B ≤ g) (hs : B ≤ w0.heap.size) : Below B w0 W := by
  have hle := h.le
  obtain ⟨n, os, rfl⟩ := h
  refine ⟨rfl, rfl, rfl, hle, fun k hk => ?_⟩
  unfold sortWorld
  rw [heap_grow_old _ _ (by rw [size_putRow]; show k < w0.heap.size; omega)]
  unfold putRow mapBlock
  show (w0.heap.modify g _)[k]? = _
  rw [Array.getElem?_modify, if_neg (by omega)]
end
theorem info3 : (Try.prog.info? 3).map (fun i => (i.zero, i.size, i.bytes)) = some (some (.int .i64 0), 1, 8) := by kernel_rfl

theorem grown_set (w : World) (b : Nat) (v : Value) : w.grownBy (w.setCell ⟨b, 0, none⟩ v) (some b) :=
  ⟨rfl, rfl, rfl, by simp [World.setCell], fun k _ h => heap_setCell_other w ⟨b, 0, none⟩ k v (fun e => h (by rw [e]))⟩
theorem row_ne_box {w : World} {base e size n t b : Nat} {v x : Value} {xs : List Value} (h : w.ownsRow base e size v n xs) (hb : w.heap[b]? = some (.cells #[x] t (0, 0))) (ht : t ≠ e) : v.ownBlock ≠ some b := by
  obtain ⟨_, ⟨rfl, _⟩ | ⟨g, cap, cur, rfl, _, hg, _⟩⟩ := h
  · simp [Value.ownBlock]
  · intro e
    simp only [Value.ownBlock, Option.some.injEq] at e
    rw [e, hb] at hg
    simp only [Option.some.injEq, Obj.cells.injEq] at hg
    exact ht hg.2.1
theorem box_kept {wr w2 : World} {o : Obj} {b t : Nat} {v x : Value} (q : wr.heap[b]? = some (.cells #[x] t (0, 0))) (hg : (wr.alloc o).grownBy w2 v.ownBlock) (hn : v.ownBlock ≠ some b) : w2.heap[b]? = some (.cells #[x] t (0, 0)) := by
  have hb : b < wr.heap.size := (Array.getElem?_eq_some_iff.1 q).1
  have h1 : (wr.alloc o).heap[b]? = wr.heap[b]? := (World.grownBy_alloc wr o none).block b hb (by simp)
  exact (hg.block b (Nat.lt_of_lt_of_le hb (World.grownBy_alloc wr o none).size) (fun e => hn e.symm)).trans (h1.trans q)
theorem box_cell {w : World} {b t : Nat} {x : Value} (q : w.heap[b]? = some (.cells #[x] t (0, 0))) : w.cell? ⟨b, 0, none⟩ = some x ∧ w.frozen? ⟨b, 0, none⟩ = false :=
  ⟨by rw [Lib.cell_of_heap q]; rfl, Lib.frozen_of_heap q 0⟩
theorem row_slice {w : World} {base e size n : Nat} {v : Value} {xs : List Value} (h : w.ownsRow base e size v (n + 1) xs) : ∃ g cap, v = .slice (some ⟨g, 0, none⟩) (n + 1) cap := by
  obtain ⟨_, ⟨rfl, h⟩ | ⟨g, cap, cur, rfl, _⟩⟩ := h
  · cases h
  · exact ⟨g, cap, rfl⟩
theorem below_grow (w : World) (os : Array Obj) {B : Nat} (hs : B ≤ w.heap.size) : Below B w (grow w os) :=
  ⟨rfl, rfl, rfl, by rw [size_grow]; omega, fun k hk => heap_grow_old w os (by omega)⟩
theorem cellsO_at {w : World} {b o : Nat} {x : Od} (h : CellsAt w b o (cellsO x)) : w.cell? ⟨b, o, none⟩ = some (.int .i64 x.1) ∧ w.cell? ⟨b, o + 1, none⟩ = some (.int .i64 x.2.1) ∧ w.cell? ⟨b, o + 2, none⟩ = some (.int .i64 x.2.2.1) ∧ w.cell? ⟨b, o + 3, none⟩ = some (.int .i64 x.2.2.2) :=
  ⟨h 0 _ rfl, h 1 _ rfl, h 2 _ rfl, h 3 _ rfl⟩

set_option maxHeartbeats 1000000 in
/-- The sort's call. -/
theorem seq_sort {gl : Nat} {lt : Od → Od → Bool} (hl : LessO gl lt) (l : List Od) (hlen : l.length ≤ 8) (A : Option Addr) (c B N0 N1 N3 g cap : Nat) (w : World) (cur : Array Value)
    (hA : l ≠ [] → ∃ b o, A = some ⟨b, o, none⟩ ∧ b < w.heap.size ∧ b ≠ g ∧ ∀ (i : Nat) (x : Od), l[i]? = some x → CellsAt w b (o + i * 4) (cellsO x))
    (q0 : w.heap[N0]? = some (.cells #[.slice A l.length c] 27 (0, 0))) (q1 : w.heap[N1]? = some (.cells #[.func (.func gl) #[] #[]] 46 (0, 0)))
    (q3 : w.heap[N3]? = some (.cells #[.slice (some ⟨g, 0, none⟩) l.length cap] 24 (0, 0))) (hg : w.heap[g]? = some (.cells cur 3 (0, 0))) (hB : B ≤ g) (hBw : B ≤ w.heap.size) (hcur : l.length ≤ cur.size)
    (hrow : ∀ (i : Nat), i < l.length → cur[i]? = some (.int .i64 i)) :
    Calls Try.prog 48 #[.iface 24 (.slice (some ⟨g, 0, none⟩) l.length cap), .func (.func 49) #[] #[.pointer (some ⟨N1, 0, none⟩), .pointer (some ⟨N0, 0, none⟩), .pointer (some ⟨N3, 0, none⟩)]] w fun e w' =>
      e = .returned (.tuple #[]) ∧ Below B w w' ∧ w'.cell? ⟨N3, 0, none⟩ = some (.slice (some ⟨g, 0, none⟩) l.length cap) ∧
        ∃ cur', w'.heap[g]? = some (.cells cur' 3 (0, 0)) ∧ cur'.size = cur.size ∧ ∀ (i : Nat) (u : Value), ((sortN l lt).toList.map (encN l.length))[i]? = some u → cur'[i]? = some u := by
  have hgl : g < w.heap.size := (Array.getElem?_eq_some_iff.1 hg).1
  have hn0 : N0 ≠ g := fun e => by rw [e, hg] at q0; simp at q0
  have hn1 : N1 ≠ g := fun e => by rw [e, hg] at q1; simp at q1
  have hn3 : N3 ≠ g := fun e => by rw [e, hg] at q3; simp at q3
  by_cases h2 : 2 ≤ l.length
  · obtain ⟨b, o, rfl, hb, hbg, hcells⟩ := hA (fun e => by rw [e] at h2; simp at h2)
    have hsz : (List.range l.length).toArray.size = l.length := by simp
    have hH : Holds (encN l.length) w g 0 (List.range l.length).toArray := fun j hj => by
      rw [hsz] at hj
      refine ⟨?_, Lib.frozen_of_heap hg _⟩
      rw [Lib.cell_of_heap hg, Nat.zero_add, hrow j hj]
      rw [getElem!_pos _ j (by rw [hsz]; exact hj)]
      simp [encN, Nat.mod_eq_of_lt hj]
    have hless : Less2 Try.prog 49 #[.pointer (some ⟨N1, 0, none⟩), .pointer (some ⟨N0, 0, none⟩), .pointer (some ⟨N3, 0, none⟩)] (encN l.length) (ltN l lt) g 0 (List.range l.length).toArray.size w := by
      intro dk W hs hsw i j hi hj
      rw [hsz] at hs hi hj
      have hx : dk[i]! % l.length < l.length := Nat.mod_lt _ (by omega)
      have hy : dk[j]! % l.length < l.length := Nat.mod_lt _ (by omega)
      have k0 := (sw_cell hsw hn0 (Array.getElem?_eq_some_iff.1 q0).1).trans (box_cell q0).1
      have k1 := (sw_cell hsw hn1 (Array.getElem?_eq_some_iff.1 q1).1).trans (box_cell q1).1
      have k3 := (sw_cell hsw hn3 (Array.getElem?_eq_some_iff.1 q3).1).trans (box_cell q3).1
      have hold := hsw.holds hgl hH (by rw [hsz, hs])
      have hat : ∀ y, y < l.length → CellsAt W b (o + y * 4) (cellsO (l.getD y (0, 0, 0, 0))) := fun y hy t u hu => by
        have := hcells y _ (by rw [List.getD_eq_getElem?_getD, List.getElem?_eq_getElem hy]; rfl) t u hu
        rw [← this]
        exact sw_cell hsw hbg hb
      obtain ⟨d0, d1, d2, d3⟩ := cellsO_at (hat _ hx)
      obtain ⟨e0, e1, e2, e3⟩ := cellsO_at (hat _ hy)
      exact lessq_walk hl i j _ _ _ _ N1 N0 N3 b o c l.length g 0 cap l.length W k1 k0 k3 hi hj hx hy (hold i (by omega)).1 (hold j (by omega)).1 d0 d1 d2 d3 e0 e1 e2 e3
    have hc := slice_walk (encN l.length) (fun _ => rfl) (ltN l lt) 49 #[.pointer (some ⟨N1, 0, none⟩), .pointer (some ⟨N0, 0, none⟩), .pointer (some ⟨N3, 0, none⟩)] g 0 cap (List.range l.length).toArray w hgl
      (Go.Proofs.enters_of Try.func49 (by kernel_rfl) rfl) hless hH (by rw [hsz]; exact h2) (by rw [hsz]; omega)
    rw [hsz] at hc
    refine hc.mono ?_
    rintro e w' ⟨rfl, hsw⟩
    refine ⟨rfl, sw_below hsw hB hBw, (sw_cell hsw hn3 (Array.getElem?_eq_some_iff.1 q3).1).trans (box_cell q3).1, ?_⟩
    exact sw_block hsw hg (by have := size_sortN l lt; unfold sortN at this; omega)
  · refine (slice_tiny 49 _ (some ⟨g, 0, none⟩) l.length cap (by omega) w).mono ?_
    rintro e w' ⟨rfl, os, rfl⟩
    refine ⟨rfl, below_grow w os hBw, (cell?_grow _ _ _ (Array.getElem?_eq_some_iff.1 q3).1).trans (box_cell q3).1, cur, (heap_grow_old _ _ hgl).trans hg, rfl, fun i u hu => ?_⟩
    have he : sortN l lt = (List.range l.length).toArray := by
      unfold sortN Sort.insertionSort
      rw [insOuter_stop _ _ _ _ _ (by omega)]
    rw [he] at hu
    simp only [List.getElem?_map, Option.map_eq_some_iff] at hu
    obtain ⟨x, hx, rfl⟩ := hu
    obtain ⟨hi, rfl⟩ := List.getElem?_eq_some_iff.1 hx
    have hi' : i < l.length := by simpa using hi
    rw [hrow i hi']
    simp [encN, Nat.mod_eq_of_lt hi']

theorem at_alloc {w : World} (o : Obj) {n : Nat} (h : n = w.heap.size) : (w.alloc o).heap[n]? = some o := by
  subst h
  exact Array.getElem?_push_size
theorem past_alloc {w : World} (o : Obj) {n : Nat} {x : Obj} (h : w.heap[n]? = some x) : (w.alloc o).heap[n]? = some x :=
  ((World.grownBy_alloc w o none).block n (Array.getElem?_eq_some_iff.1 h).1 (by simp)).trans h
set_option maxHeartbeats 2000000 in
set_option maxRecDepth 1000000 in
theorem seq_walk {gl : Nat} {lt : Od → Od → Bool} (hl : LessO gl lt) (l : List Od) (hlen : l.length ≤ 8) (A : Option Addr) (c : Nat) (w : World)
    (hA : l ≠ [] → ∃ b o, A = some ⟨b, o, none⟩ ∧ b < w.heap.size ∧ ∀ (i : Nat) (x : Od), l[i]? = some x → CellsAt w b (o + i * 4) (cellsO x)) :
    Calls Try.prog 43 #[.slice A l.length c, .func (.func gl) #[] #[]] w fun e w' => ∃ g cap cur, e = .returned (.slice (some ⟨g, 0, none⟩) l.length cap) ∧ Below w.heap.size w w' ∧ w.heap.size ≤ g ∧
      w'.heap[g]? = some (.cells cur 3 (0, 0)) ∧ l.length ≤ cap ∧ cap ≤ cur.size ∧ ∀ (i : Nat) (u : Value), ((sortN l lt).toList.map (encN l.length))[i]? = some u → cur[i]? = some u := by
  obtain ⟨i0, hi, hz0, hz1, hz2⟩ := info_parts info3
  go_enter Try.func43, Try.ntmps43
  go_wp2
  go_loopw [10] (fun vi wr => ∃ (k g cap : Nat), vi = .int .i64 k ∧ k ≤ l.length ∧ wr.heap[w.heap.size]? = some (.cells #[.slice A l.length c] 27 (0, 0)) ∧ wr.heap[w.heap.size + 1]? = some (.cells #[.func (.func gl) #[] #[]] 46 (0, 0)) ∧
      wr.heap[w.heap.size + 1 + 1 + 1]? = some (.cells #[.slice (some ⟨g, 0, none⟩) k cap] 24 (0, 0)) ∧ wr.ownsRow (w.heap.size + 1 + 1) 3 1 (.slice (some ⟨g, 0, none⟩) k cap) k ((idxL k).map (Value.int .i64)) ∧ Below w.heap.size w wr ∧ w.heap.size + 4 ≤ wr.heap.size) (fun vi _ => l.length - (intOf vi).toNat)
  case atStart =>
    refine ⟨0, w.heap.size + 1 + 1, 0, rfl, Nat.zero_le _, ?_, ?_, ?_, ⟨rfl, .inr ⟨_, 0, #[], rfl, Nat.le_refl _, ?_, Nat.le_refl _, Nat.zero_le _, rfl, rfl⟩⟩, ((((Below.refl _ w).alloc (Nat.le_refl _) _).alloc (by simp) _).alloc (by simp; omega) _).alloc (by simp; omega) _, by simp⟩
    · exact past_alloc _ (past_alloc _ (past_alloc _ (at_alloc _ rfl)))
    · exact past_alloc _ (past_alloc _ (at_alloc _ (by simp)))
    · exact at_alloc _ (by simp)
    · exact past_alloc _ (at_alloc _ (by simp))
  case round =>
    obtain ⟨k, g, cap, rfl, hk, q0, q1, q3, hrow, hbw, hsz⟩ := hrel
    by_cases hp : k < l.length
    · have hpi : (k : Int) < (l.length : Int) := by omega
      obtain ⟨s0, s00⟩ := box_cell q3
      have hnb := row_ne_box hrow q3 (by decide)
      go_wp2_with (first
        | (at_builtin; refine wpList_append_own _ rfl _ _ 24 rfl (w.heap.size + 1 + 1) 3 i0 (.int .i64 0) 1 8 Try.underlying24 hi hz0 hz1 hz2 rfl (by decide) _ _ _ rfl (hrow.alloc _) ⟨wr.heap.size, 0, none⟩ 1 1 [.int .i64 k] rfl rfl (cell_one_new _ _ _) (by intro u hu; simp at hu; subst hu; rfl) (by unfold maxLen; omega) (by omega) (by simp; omega) ?_; intro v' w2 hown' hgrow hnil; obtain ⟨g', cap', rfl⟩ := row_slice hown'; have h3 := box_kept q3 hgrow hnb; obtain ⟨s1, s2⟩ := box_cell h3)
        | go_in)
      have h0 := box_kept q0 hgrow (row_ne_box hrow q0 (by decide))
      have h1 := box_kept q1 hgrow (row_ne_box hrow q1 (by decide))
      have hb1 : Below w.heap.size w w2 := (hbw.alloc hbw.size (.cells #[.int .i64 (k : Int)] 3)).grown hgrow (by simp; omega) (fun j hj => by have := (hrow.lt j hj).1; omega)
      refine ⟨⟨k + 1, g', cap', congrArg (Value.int .i64) (by omega), by omega, ?_, ?_, ?_, ?_, hb1.setCell (by simp; omega) _, ?_⟩, ?_⟩
      · rw [heap_setCell_other _ _ _ _ (by simp; omega)]
        exact h0
      · rw [heap_setCell_other _ _ _ _ (by simp)]
        exact h1
      · rw [heap_setCell_same _ _ _ _ _ _ h3]
        rfl
      · rw [idxL_succ, List.map_append]
        exact hown'.kept (grown_set _ _ _) (.inr (row_ne_box hown' h3 (by decide)))
      · have e1 := hgrow.size
        have e2 : (w2.setCell ⟨w.heap.size + 1 + 1 + 1, 0, none⟩ (Value.slice (some ⟨g', 0, none⟩) (k + 1) cap')).heap.size = w2.heap.size := by simp [World.setCell]
        simp at e1
        omega
      · show l.length - ((k : Int) + 1).toNat < l.length - (k : Int).toNat
        omega
    · have hpi : ¬ (k : Int) < (l.length : Int) := by omega
      have hkn : k = l.length := by omega
      subst hkn
      obtain ⟨hxs, ⟨hv, _⟩ | ⟨g2, cap2, cur, hv, hge, hg, hcap, _, hcs, htake⟩⟩ := hrow
      · cases hv
      cases hv
      have hwsz := hbw.size
      have hrow : ∀ (i : Nat), i < l.length → cur[i]? = some (.int .i64 i) := fun i hi => by
        have e : ((idxL l.length).map (Value.int .i64))[i]? = some (.int .i64 i) := by simp [idxL, hi]
        rw [← htake, List.getElem?_take_of_lt (by omega)] at e
        simpa using e
      have hs := seq_sort hl l hlen A c w.heap.size w.heap.size (w.heap.size + 1) (w.heap.size + 1 + 1 + 1) g cap wr cur (fun hne => by
        obtain ⟨b, o, h1, h2, h3⟩ := hA hne
        exact ⟨b, o, h1, by omega, by omega, fun i x hx t u hu => (hbw.cell (by exact h2)).trans (h3 i x hx t u hu)⟩) q0 q1 q3 hg (by omega) hwsz (by omega) hrow
      obtain ⟨s0, s00⟩ := box_cell q3
      go_wp2_with (go_at_call 48; refine hs.mono ?_; rintro e w' ⟨rfl, hB, hbox, hfin⟩)
      go_ret
      obtain ⟨cur', f1, f2, f3⟩ := hfin
      exact ⟨g, cap, cur', rfl, hbw.trans hB, by omega, f1, hcap, by omega, f3⟩
end Go.Proofs.Ytaphcpfkgpaefaa
/-
  The contract of impl.sequenceOf.
-/
namespace Go.Proofs.Ytaphcpfkgpaefaa
open Go Go.Proofs Go.V Go.RowKit
set_option linter.unusedSimpArgs false

/-- Orders out of data. -/
def odOf : D → Option Od
  | .agg [.v (.int .i64 a), .v (.int .i64 b), .v (.int .i64 c), .v (.int .i64 d)] => some (a, b, c, d)
  | _ => none
theorem odOf_some {d : D} {x : Od} (h : odOf d = some x) : d = od x := by
  unfold odOf at h
  split at h
  · cases h; rfl
  · cases h
def odsOf : List D → Option (List Od)
  | [] => some []
  | d :: l => (odOf d).bind fun x => (odsOf l).map (x :: ·)
theorem odsOf_some : ∀ (ds : List D) (l : List Od), odsOf ds = some l → ds = l.map od
  | [], l, h => by cases h; rfl
  | d :: ds, l, h => by
    simp only [odsOf, Option.bind_eq_some_iff, Option.map_eq_some_iff] at h
    obtain ⟨x, h1, m, h2, rfl⟩ := h
    rw [odOf_some h1, odsOf_some ds m h2]
    rfl
theorem odsOf_map : ∀ (l : List Od), odsOf (l.map od) = some l
  | [] => rfl
  | x :: l => by
    simp only [List.map_cons, odsOf, odsOf_map l]
    rfl
theorem rep_ods {w : World} {F : Nat → Prop} : ∀ (l : List Od) (us : List Value), RepL w F (l.map od) us → us = l.flatMap cellsO
  | [], us, h => RepL_nil.1 h
  | x :: l, us, h => by
    obtain ⟨v1, v2, rfl, h1, h2⟩ := RepL_cons.1 h
    rw [rep_ods l v2 h2]
    simp only [RepC] at h1
    obtain ⟨u1, r1, rfl, g1, h1⟩ := RepL_cons.1 h1.1
    obtain ⟨u2, r2, rfl, g2, h1⟩ := RepL_cons.1 h1
    obtain ⟨u3, r3, rfl, g3, h1⟩ := RepL_cons.1 h1
    obtain ⟨u4, r4, rfl, g4, h1⟩ := RepL_cons.1 h1
    simp only [RepC] at g1 g2 g3 g4
    rw [g1.1, g2.1, g3.1, g4.1, RepL_nil.1 h1]
    rfl
theorem cells_ods {w : World} {b : Nat} : ∀ (l : List Od) (o : Nat), CellsAt w b o (l.flatMap cellsO) → ∀ (i : Nat) (x : Od), l[i]? = some x → CellsAt w b (o + i * 4) (cellsO x)
  | [], _, _, i, x, hx => by simp at hx
  | y :: l, o, h, 0, x, hx => by
    simp only [List.getElem?_cons_zero, Option.some.injEq] at hx
    subst hx
    intro j u hu
    have := h j u (by rw [List.flatMap_cons, List.getElem?_append_left (List.getElem?_eq_some_iff.1 hu).1]; exact hu)
    simpa using this
  | y :: l, o, h, i + 1, x, hx => by
    have := cells_ods l (o + 4) (by
      have := h.drop 4
      exact this) i x (by simpa using hx)
    rw [show o + (i + 1) * 4 = o + 4 + i * 4 by omega]
    exact this
theorem RepL_ints {w : World} {F : Nat → Prop} : ∀ (l : List Int), RepL w F (l.map I) (l.map (Value.int .i64))
  | [] => RepL_nil.2 rfl
  | x :: l => RepL_cons.2 ⟨[.int .i64 x], l.map (Value.int .i64), rfl, by simp only [RepC]; exact ⟨trivial, rfl⟩, RepL_ints l⟩

/-- The indices, sorted. -/
def seqL (l : List Od) (lt : Od → Od → Bool) : List Int := (sortN l lt).toList.map fun (x : Nat) => ((x % l.length : Nat) : Int)
theorem seqL_length (l : List Od) (lt : Od → Od → Bool) : (seqL l lt).length = l.length := by
  simp [seqL, size_sortN]
def fSeq : List D → Option Out
  | [.arr _ ds, .clo g []] => (odsOf ds).bind fun l => if l.length ≤ 8 then (if g = 44 then some (.ret [ints (seqL l dueLt)] []) else none) else none
  | _ => none
@[reducible] def S_impl_sequenceOf : FS := { pm := [.dat 2, .dat 0], rm := [.own 1 0 false], f := fSeq }
set_option maxRecDepth 100000 in
theorem M_impl_sequenceOf : Meets gl0 Try.prog 43 S_impl_sequenceOf := by
  have he : ∀ args w, (callFunc 43 args).run Try.prog w = .ok (.enter 43 args) w := Go.Proofs.enters_of Try.func43 (by kernel_rfl) rfl
  refine meets_of_calls he fun ds rs us hd args w F ow hg ha hF _ => ?_
  obtain ⟨d, y, d', y', rfl, h2, h3, h4⟩ := args_two ha
  replace hd : fSeq [d, d'] = some (.ret rs us) := hd
  unfold fSeq at hd
  split at hd
  case h_2 => cases hd
  rename_i z ds g e
  cases e
  obtain ⟨l, hl, hd'⟩ := Option.bind_eq_some_iff.1 hd
  clear hd
  split at hd'
  case isFalse => cases hd'
  rename_i hz
  obtain rfl := odsOf_some _ _ hl
  rcases h3 with h3 | h3
  · cases h3
  rcases h4 with h4 | h4
  · cases h4
  simp only [RepV, RepC] at h3 h4
  obtain ⟨A, c, us', hy, hc, hr, _, hA⟩ := h3
  obtain ⟨us2, hy2, hr2⟩ := h4
  simp only [List.cons.injEq, and_true] at hy hy2
  subst hy
  subst hy2
  obtain rfl := RepL_nil.1 hr2
  rw [rep_ods l us' hr] at hA
  rw [size2 h2]
  rw [List.length_map] at hc ⊢
  have key : ∀ lt, LessO g lt → rs = [ints (seqL l lt)] → us = [] → Calls Try.prog 43 #[.slice A l.length c, .func (.func g) #[] [].toArray] w fun e w' => ∃ v, e = .returned v ∧ ∃ F' R vs, v = resV vs ∧ CallPost S_impl_sequenceOf #[.slice A l.length c, .func (.func g) #[] [].toArray] rs us w F ow F' R vs w' := by
    rintro lt hlt rfl rfl
    refine (seq_walk hlt l hz A c w (fun hne => ?_)).mono ?_
    · obtain ⟨b, o, rfl, h5, h6⟩ := hA (by simpa using hne)
      exact ⟨b, o, rfl, (hF b h5).1, cells_ods l o h6⟩
    · rintro e w' ⟨gg, cap, cur, rfl, hB, hgg, hcell, hcap, hcs, hrow⟩
      refine ⟨_, rfl, F, fun b => if b = gg then some 0 else none, [_], rfl, post_own _ hB hF (fun b j hb => ?_) rfl rfl rfl rfl fun j => ?_⟩
      · split at hb
        · rename_i e
          subst e
          exact ⟨hgg, (Array.getElem?_eq_some_iff.1 hcell).1⟩
        · cases hb
      · match j with
        | 0 =>
          refine .inr ⟨(seqL l lt).map I, rfl, fun x hx => ?_, .inr ⟨gg, 0, cap, (seqL l lt).map (Value.int .i64), cur, _, ?_, ?_, hcell, by omega, RepL_ints _, fun i u hu => ?_, by simp, hgg⟩⟩
          · obtain ⟨s, _, rfl⟩ := List.mem_map.1 hx
            rfl
          · rw [List.length_map, seqL_length]
            rfl
          · rw [List.length_map, seqL_length]
            exact hcap
          · rw [Nat.zero_add]
            refine hrow i u ?_
            rw [← hu]
            simp only [seqL, List.map_map]
            rfl
        | j + 1 => exact .inl rfl
  split at hd'
  · rename_i hg70
    cases hd'
    subst hg70
    exact key dueLt due_walk rfl rfl
  · cases hd'
end Go.Proofs.Ytaphcpfkgpaefaa
/-
  impl.LeastLateness: walked by hand, for it calls itself through a function value that keeps the best one in boxes.
-/
namespace Go.Proofs.Ytaphcpfkgpaefaa
open Go Go.Proofs Go.V Go.RowKit
set_option linter.unusedSimpArgs false

theorem size1 {args : Array Value} {y : Value} (h : args.toList = [y]) : args = #[y] := by
  apply Array.ext'
  rw [h]
/-- All blocks but two are as they were. -/
structure KeptB (B : Nat) (w w' : World) : Prop where
  os : w'.os = w.os
  tape : w'.tape = w.tape
  output : w'.output = w.output
  size : w.heap.size ≤ w'.heap.size
  block : ∀ b, b < w.heap.size → b ≠ B + 3 → b ≠ B + 4 → w'.heap[b]? = w.heap[b]?
theorem KeptB.trans {B : Nat} {a b c : World} (h : KeptB B a b) (k : KeptB B b c) : KeptB B a c :=
  ⟨k.os.trans h.os, k.tape.trans h.tape, k.output.trans h.output, Nat.le_trans h.size k.size, fun i hi h1 h2 => (k.block i (Nat.lt_of_lt_of_le hi h.size) h1 h2).trans (h.block i hi h1 h2)⟩
theorem KeptB.refl (B : Nat) (w : World) : KeptB B w w := ⟨rfl, rfl, rfl, Nat.le_refl _, fun _ _ _ _ => rfl⟩
theorem KeptB.of {B : Nat} {a b : World} (h : Below a.heap.size a b) : KeptB B a b := ⟨h.os, h.tape, h.output, h.size, fun i hi _ _ => h.block i hi⟩
theorem KeptB.below {B : Nat} {a b : World} (h : KeptB B a b) (hs : B ≤ a.heap.size) : Below B a b := ⟨h.os, h.tape, h.output, h.size, fun i hi => h.block i (by omega) (by omega) (by omega)⟩
/-- A list of numbers in a block of its own. -/
def RowI (W : World) (B : Nat) (v : Value) (o : List Int) : Prop := ∃ g cap cur, v = .slice (some ⟨g, 0, none⟩) o.length cap ∧ B ≤ g ∧ g ≠ B + 3 ∧ g ≠ B + 4 ∧ W.heap[g]? = some (.cells cur 3 (0, 0)) ∧
  o.length ≤ cap ∧ cap ≤ cur.size ∧ ∀ (i : Nat) (u : Value), (o.map (Value.int .i64))[i]? = some u → cur[i]? = some u
theorem RowI.kept {W W' : World} {B : Nat} {v : Value} {o : List Int} (h : RowI W B v o) (hk : KeptB B W W') : RowI W' B v o := by
  obtain ⟨g, cap, cur, h1, h2, h3, h4, h5, h6⟩ := h
  exact ⟨g, cap, cur, h1, h2, h3, h4, (hk.block g (Array.getElem?_eq_some_iff.1 h5).1 h3 h4).trans h5, h6⟩
theorem RowI.rep {W : World} {B : Nat} {v : Value} {o : List Int} (h : RowI W B v o) : ∃ g, g < W.heap.size ∧ RepV W (fun b => b = g) (ints o) v := by
  obtain ⟨g, cap, cur, rfl, h2, h3, h4, h5, h6, h7, h8⟩ := h
  refine ⟨g, (Array.getElem?_eq_some_iff.1 h5).1, ?_⟩
  have ho : OwnV W (fun _ => False) (fun b => b = g) 1 (ints o) (.slice (some ⟨g, 0, none⟩) o.length cap) :=
    ⟨o.map I, rfl, fun x hx => by obtain ⟨s, _, rfl⟩ := List.mem_map.1 hx; rfl, .inr ⟨g, 0, cap, o.map (Value.int .i64), cur, _, by rw [List.length_map], by rw [List.length_map]; exact h6, h5, by omega, RepL_ints _, fun i u hu => by rw [Nat.zero_add]; exact h8 i u hu, rfl⟩⟩
  exact RepV_mono (fun b hb => hb.elim False.elim id) (fun _ _ => rfl) (OwnV_rep ho)
/-- The boxes of the search, and the best one so far. L: the orders' box; from B on: the number, the cost, nothing, the best one, its lateness. -/
structure LO (l : List Od) (A : Option Addr) (c : Nat) (F : Nat → Prop) (L B : Nat) (W : World) (s : List Int × Int) : Prop where
  rep : RepV W F (ods l) (.slice A l.length c)
  fF : ∀ b, F b → b < B
  fL : L < B
  bL : W.heap[L]? = some (.cells #[.slice A l.length c] 27 (0, 0))
  bn : W.heap[B]? = some (.cells #[.int .i64 l.length] 3 (0, 0))
  bc : W.heap[B + 1]? = some (.cells #[.func (.func 21) #[] #[.pointer (some ⟨L, 0, none⟩)]] 44 (0, 0))
  bl : W.heap[B + 4]? = some (.cells #[.int .i64 s.2] 3 (0, 0))
  bb : ∃ v, W.heap[B + 3]? = some (.cells #[v] 24 (0, 0)) ∧ RowI W B v s.1
  sz : B + 5 ≤ W.heap.size
/-- What touches none of the boxes. -/
theorem LO.kept {l : List Od} {A : Option Addr} {c : Nat} {F : Nat → Prop} {L B : Nat} {W W' : World} {s : List Int × Int} (h : LO l A c F L B W s) (hb : Below W.heap.size W W') : LO l A c F L B W' s := by
  have hz := h.sz
  have hL := h.fL
  have hk : KeptB B W W' := KeptB.of hb
  obtain ⟨v, h1, h2⟩ := h.bb
  exact ⟨RepV_mono (fun _ hb => hb) (fun b hf => hb.block b (by have := h.fF b hf; omega)) h.rep, h.fF, hL, (hb.block _ (by omega)).trans h.bL, (hb.block _ (by omega)).trans h.bn, (hb.block _ (by omega)).trans h.bc, (hb.block _ (by omega)).trans h.bl, ⟨v, (hb.block _ (by omega)).trans h1, h2.kept hk⟩, Nat.le_trans hz hb.size⟩

set_option maxRecDepth 100000 in
theorem call_AreOrders {w : World} {F : Nat → Prop} (l : List Od) (h : l.length ≤ 1048576) {y : Value} (hr : RepV w F (ods l) y) (hF : ∀ b, F b → b < w.heap.size) :
    Calls Try.prog 19 #[y] w fun e w' => e = .returned (.bool (goodO l)) ∧ Below w.heap.size w w' :=
  calls_flat1 (Go.Proofs.enters_of Try.func19 (by kernel_rfl) rfl) M_impl_AreOrders F_impl_AreOrders rfl (e_impl_AreOrders l h) rfl (F := F) gOk_nil
    (show ArgOk w _ _ (.dat 2) (ods l) y ∧ True from ⟨.inr hr, trivial⟩) hF
set_option maxRecDepth 100000 in
theorem call_greatest {w : World} {F : Nat → Prop} (l : List Int) (h : l.length ≤ 1048577) {y : Value} (hr : RepV w F (ints l) y) (hF : ∀ b, F b → b < w.heap.size) :
    Calls Try.prog 22 #[y] w fun e w' => e = .returned (.int .i64 (mostL l)) ∧ Below w.heap.size w w' :=
  calls_flat1 (Go.Proofs.enters_of Try.func22 (by kernel_rfl) rfl) M_impl_greatest F_impl_greatest rfl (e_impl_greatest l h) rfl (F := F) gOk_nil
    (show ArgOk w _ _ (.dat 2) (ints l) y ∧ True from ⟨.inr hr, trivial⟩) hF
set_option maxRecDepth 100000 in
theorem call_hasNumber {w : World} {F : Nat → Prop} (l : List Int) (n : Int) (h : l.length ≤ 1048577) {y : Value} (hr : RepV w F (ints l) y) (hF : ∀ b, F b → b < w.heap.size) :
    Calls Try.prog 31 #[y, .int .i64 n] w fun e w' => e = .returned (.bool (decide (n ∈ l))) ∧ Below w.heap.size w w' :=
  calls_flat1 (Go.Proofs.enters_of Try.func31 (by kernel_rfl) rfl) M_impl_hasNumber F_impl_hasNumber rfl (e_impl_hasNumber l n h) rfl (F := F) gOk_nil
    (show ArgOk w _ _ (.dat 2) (ints l) y ∧ ArgOk w _ _ (.dat 0) (I n) (.int .i64 n) ∧ True from ⟨.inr hr, .inr (RepV_v.2 ⟨rfl, rfl⟩), trivial⟩) hF
set_option maxRecDepth 100000 in
theorem call_lateness {w : World} {F : Nat → Prop} (l : List Od) (s : List Int) (hg : ∀ x ∈ l, isOd x = true) (hs : ∀ k ∈ s, 0 ≤ k ∧ k < l.length) (hl : s.length ≤ 8) {y z : Value} (h1 : RepV w F (ods l) y) (h2 : RepV w F (ints s) z) (hF : ∀ b, F b → b < w.heap.size) :
    Calls Try.prog 23 #[y, z] w fun e w' => ∃ v F', e = .returned v ∧ RepV w' F' (ints (lateO l s s.length)) v ∧ (∀ b, F' b → b < w'.heap.size) ∧ Below w.heap.size w w' := by
  refine (calls_of_meets' (ow := fun _ => none) (F := F) (ds := [ods l, ints s]) (rs := [ints (lateO l s s.length)]) (us := []) (args := #[y, z]) (Go.Proofs.enters_of Try.func23 (by kernel_rfl) rfl) M_impl_lateness (e_impl_lateness l s hg hs (by omega)) gOk_nil
    (show ArgOk w _ _ (.dat 2) (ods l) y ∧ ArgOk w _ _ (.dat 2) (ints s) z ∧ True from ⟨.inr h1, .inr h2, trivial⟩) (fun b hb => ⟨hF b hb, rfl⟩) (fun b i h => by cases h)).mono ?_
  rintro e w' ⟨v, rfl, F', R, vs, rfl, hp⟩
  have hl := hp.len
  obtain ⟨u, rfl⟩ := List.length_eq_one_iff.1 (hl.trans rfl)
  have h0 := hp.res 0
  rcases h0 with h0 | h0
  · cases h0
  refine ⟨u, _, rfl, OwnV_rep h0, fun b hb => ?_, ⟨hp.os, hp.tape, hp.output, hp.size, fun b hb => hp.keep b hb rfl⟩⟩
  rcases hb with hb | hb
  · exact hb.elim
  · exact (hp.rn b 0 hb.1).2

set_option maxHeartbeats 2000000 in
set_option maxRecDepth 1000000 in
theorem cost_walk {l : List Od} {A : Option Addr} {c : Nat} {F : Nat → Prop} {L B : Nat} {W : World} {s : List Int × Int} (h : LO l A c F L B W s) (hg : ∀ x ∈ l, isOd x = true) {v : Value} {o : List Int} (hr : RowI W B v o) (hs : ∀ k ∈ o, 0 ≤ k ∧ k < l.length) (hl : o.length ≤ 8) :
    Calls Try.prog 21 #[v, .pointer (some ⟨L, 0, none⟩)] W fun e W' => e = .returned (.int .i64 (costO l o)) ∧ Below W.heap.size W W' := by
  obtain ⟨g, hgz, hv⟩ := hr.rep
  have hz := h.sz
  obtain ⟨s0, s00⟩ := box_cell h.bL
  have hc1 := call_lateness l o hg hs hl (RepV_mono (F' := fun b => F b ∨ b = g) (fun b hb => .inl hb) (fun _ _ => rfl) h.rep) (RepV_mono (F' := fun b => F b ∨ b = g) (fun b hb => .inr hb) (fun _ _ => rfl) hv) (fun b hb => by
    rcases hb with hb | rfl
    · have := h.fF b hb; omega
    · exact hgz)
  go_enter Try.func21, Try.ntmps21
  go_wp2_with (go_at_call 23; refine hc1.mono ?_)
  rintro e w3 ⟨v3, F3, rfl, h3, hF3, b3⟩
  have hc2 := call_greatest (lateO l o o.length) (by rw [lateO_len]; omega) h3 hF3
  go_wp2_with (go_at_call 22; refine hc2.mono ?_)
  rintro e w4 ⟨rfl, b4⟩
  go_wp2
  go_ret
  exact ⟨rfl, b3.trans (b4.mono b3.size)⟩
end Go.Proofs.Ytaphcpfkgpaefaa
/-
  impl.LeastLateness, walked by hand: the function value, the search, the best one.
-/
namespace Go.Proofs.Ytaphcpfkgpaefaa
open Go Go.Proofs Go.V Go.RowKit
set_option linter.unusedSimpArgs false

theorem nodup_len : ∀ (n : Nat) (b : List Int), b.Nodup → (∀ x ∈ b, 0 ≤ x ∧ x < n) → b.length ≤ n
  | 0, b, _, h => by
    cases b with
    | nil => simp
    | cons x b => have := h x (by simp); omega
  | n + 1, b, hd, h => by
    by_cases hn : (n : Int) ∈ b
    · have := nodup_len n (b.erase n) (hd.erase _) fun x hx => by
        have h1 := (hd.mem_erase_iff).1 hx
        have h2 := h x h1.2
        have h3 := h1.1
        omega
      rw [List.length_erase_of_mem hn] at this
      omega
    · have := nodup_len n b hd fun x hx => by
        have h2 := h x hx
        have h3 : x ≠ n := fun e => hn (e ▸ hx)
        omega
      omega
theorem nodup_full {n : Nat} {b : List Int} (hd : b.Nodup) (h : ∀ x ∈ b, 0 ≤ x ∧ x < n) (hl : b.length = n) (i : Nat) (hi : i < n) : (i : Int) ∈ b := by
  apply Classical.byContradiction
  intro hc
  have := nodup_len n ((i : Int) :: b) (List.nodup_cons.2 ⟨hc, hd⟩) fun x hx => by
    rcases List.mem_cons.1 hx with rfl | hx
    · omega
    · exact h x hx
  rw [List.length_cons] at this
  omega

def foundS (l : List Od) (o : List Int) (s : List Int × Int) : List Int × Int := if o.length < l.length then s else combB s (o, costO l o)
set_option maxHeartbeats 2000000 in
set_option maxRecDepth 1000000 in
theorem found_walk {l : List Od} {A : Option Addr} {c : Nat} {F : Nat → Prop} {L B : Nat} {W : World} {s : List Int × Int} (h : LO l A c F L B W s) (hg : ∀ x ∈ l, isOd x = true) {v : Value} {o : List Int} (hr : RowI W B v o) (hs : ∀ k ∈ o, 0 ≤ k ∧ k < l.length) (hl : o.length ≤ 8) :
    Calls Try.prog 38 #[v, .pointer (some ⟨B, 0, none⟩), .pointer (some ⟨B + 1, 0, none⟩), .pointer (some ⟨B + 4, 0, none⟩), .pointer (some ⟨B + 3, 0, none⟩)] W fun e W' => e = .returned (.tuple #[]) ∧ LO l A c F L B W' (foundS l o s) ∧ KeptB B W W' := by
  have hz := h.sz
  have hc1 := cost_walk h hg hr hs hl
  obtain ⟨n0, n00⟩ := box_cell h.bn
  obtain ⟨c0, c00⟩ := box_cell h.bc
  have hr' := hr
  obtain ⟨g, cap, cur, rfl, g1, g2, g3, g4, g5, g6, g7⟩ := hr'
  go_enter Try.func38, Try.ntmps38
  by_cases hlt : o.length < l.length
  · have hlt' : (o.length : Int) < l.length := by omega
    have e : foundS l o s = s := by unfold foundS; rw [if_pos hlt]
    rw [e]
    go_wp2
    go_returns
    exact ⟨rfl, h, KeptB.refl _ _⟩
  · have hlt' : ¬ (o.length : Int) < l.length := by omega
    have e : foundS l o s = combB s (o, costO l o) := by unfold foundS; rw [if_neg hlt]
    rw [e]
    generalize hR : combB s (o, costO l o) = R
    go_wp2_with (go_at_call 21; refine hc1.mono ?_)
    intro e W1 he b1
    subst he
    have h1 := h.kept b1
    have k1 : KeptB B W W1 := KeptB.of b1
    obtain ⟨l0, l00⟩ := box_cell h1.bl
    obtain ⟨v0, p1, p2⟩ := h1.bb
    obtain ⟨b0, b00⟩ := box_cell p1
    have hz1 := h1.sz
    have fin : LO l A c F L B ((W1.setCell ⟨B + 3, 0, none⟩ (.slice (some ⟨g, 0, none⟩) o.length cap)).setCell ⟨B + 4, 0, none⟩ (.int .i64 (costO l o))) (o, costO l o) ∧ KeptB B W ((W1.setCell ⟨B + 3, 0, none⟩ (.slice (some ⟨g, 0, none⟩) o.length cap)).setCell ⟨B + 4, 0, none⟩ (.int .i64 (costO l o))) := by
      have hh : ∀ b, b ≠ B + 3 → b ≠ B + 4 → ((W1.setCell ⟨B + 3, 0, none⟩ (.slice (some ⟨g, 0, none⟩) o.length cap)).setCell ⟨B + 4, 0, none⟩ (.int .i64 (costO l o))).heap[b]? = W1.heap[b]? := fun b h1 h2 => by
        rw [heap_setCell_other _ _ _ _ (by simpa using h2), heap_setCell_other _ _ _ _ (by simpa using h1)]
      have hsz : ((W1.setCell ⟨B + 3, 0, none⟩ (.slice (some ⟨g, 0, none⟩) o.length cap)).setCell ⟨B + 4, 0, none⟩ (.int .i64 (costO l o))).heap.size = W1.heap.size := by simp [World.setCell]
      have kk : KeptB B W1 ((W1.setCell ⟨B + 3, 0, none⟩ (.slice (some ⟨g, 0, none⟩) o.length cap)).setCell ⟨B + 4, 0, none⟩ (.int .i64 (costO l o))) := ⟨rfl, rfl, rfl, by rw [hsz]; exact Nat.le_refl _, fun b _ h1 h2 => hh b h1 h2⟩
      have hL := h1.fL
      refine ⟨⟨RepV_mono (fun _ hb => hb) (fun b hf => hh b (by have := h1.fF b hf; omega) (by have := h1.fF b hf; omega)) h1.rep, h1.fF, hL, (hh _ (by omega) (by omega)).trans h1.bL, (hh _ (by omega) (by omega)).trans h1.bn, (hh _ (by omega) (by omega)).trans h1.bc, ?_, ⟨.slice (some ⟨g, 0, none⟩) o.length cap, ?_, (hr.kept k1).kept kk⟩, by rw [hsz]; exact hz1⟩, k1.trans kk⟩
      · rw [heap_setCell_same _ _ _ _ _ _ ((heap_setCell_other _ _ _ _ (by simp)).trans h1.bl)]
        rfl
      · rw [heap_setCell_other _ _ _ _ (by simp), heap_setCell_same _ _ _ _ _ _ p1]
        rfl
    by_cases h0 : s.2 < 0
    · have e2 : combB s (o, costO l o) = (o, costO l o) := by unfold combB; rw [if_pos (.inl h0)]
      obtain rfl : R = _ := hR.symm.trans e2
      go_wp2
      go_returns
      exact ⟨rfl, fin.1, fin.2⟩
    · by_cases h2 : costO l o < s.2
      · have e2 : combB s (o, costO l o) = (o, costO l o) := by unfold combB; rw [if_pos (.inr h2)]
        obtain rfl : R = _ := hR.symm.trans e2
        go_wp2
        go_returns
        exact ⟨rfl, fin.1, fin.2⟩
      · have e2 : combB s (o, costO l o) = s := by unfold combB; rw [if_neg (fun h => h.elim h0 h2)]
        obtain rfl : s = R := e2.symm.trans hR
        go_wp2
        go_returns
        exact ⟨rfl, h1, k1⟩
end Go.Proofs.Ytaphcpfkgpaefaa
/-
  impl.eachOrder, walked by hand with what it is given by impl.leastOrder.
-/
namespace Go.Proofs.Ytaphcpfkgpaefaa
open Go Go.Proofs Go.V Go.RowKit
set_option linter.unusedSimpArgs false
set_option linter.unusedVariables false

abbrev clF (B : Nat) : Value := .func (.func 38) #[] #[.pointer (some ⟨B, 0, none⟩), .pointer (some ⟨B + 1, 0, none⟩), .pointer (some ⟨B + 4, 0, none⟩), .pointer (some ⟨B + 3, 0, none⟩)]
def stE (l : List Od) (k : Nat) (o : List Int) (s : List Int × Int) (i : Nat) : List Int × Int :=
  match k with
  | 0 => combB s (o, costO l o)
  | k + 1 => (List.range i).foldl (fun s (j : Nat) => if (j : Int) ∈ o then s else eachF l k (o ++ [(j : Int)]) s) s
theorem stE_zero (l : List Od) (k : Nat) (o : List Int) (s : List Int × Int) (h : o.length + k = l.length) : stE l k o s 0 = foundS l o s := by
  unfold stE foundS
  cases k with
  | zero => rw [if_neg (by omega)]
  | succ k => rw [if_pos (by omega)]; rfl
theorem stE_end (l : List Od) (k : Nat) (o : List Int) (s : List Int × Int) : stE l k o s l.length = eachF l k o s := by
  cases k <;> rfl
theorem stE_in (l : List Od) (k : Nat) (o : List Int) (s : List Int × Int) (i : Nat) (h : (i : Int) ∈ o) : stE l k o s (i + 1) = stE l k o s i := by
  unfold stE
  cases k with
  | zero => rfl
  | succ k => simp only [List.range_succ, List.foldl_append, List.foldl_cons, List.foldl_nil, if_pos h]
theorem stE_out (l : List Od) (k : Nat) (o : List Int) (s : List Int × Int) (i : Nat) (h : (i : Int) ∉ o) : stE l (k + 1) o s (i + 1) = eachF l k (o ++ [(i : Int)]) (stE l (k + 1) o s i) := by
  unfold stE
  simp only [List.range_succ, List.foldl_append, List.foldl_cons, List.foldl_nil, if_neg h]
theorem add_zero_at (g j : Nat) : ((⟨g, 0, none⟩ : Addr).add j) = ⟨g, j, none⟩ := by cases j <;> simp [Addr.add]
theorem take_get {xs : List Value} {cur : Array Value} {n : Nat} (h : cur.toList.take n = xs) : ∀ (i : Nat) (u : Value), xs[i]? = some u → cur[i]? = some u := fun i u hu => by
  subst h
  rw [List.getElem?_take] at hu
  split at hu
  · simpa using hu
  · cases hu
/-- An own row is a list in a block of its own. -/
theorem RowI.of {W : World} {B b : Nat} {v : Value} {o : List Int} (h : W.ownsRow b 3 1 v o.length (o.map (Value.int .i64))) (hb : B + 5 ≤ b) (hn : v ≠ .slice none 0 0) : RowI W B v o := by
  obtain ⟨_, ⟨hv, _⟩ | ⟨g, cap, cur, rfl, hge, hg, hcap, _, hcs, ht⟩⟩ := h
  · exact absurd hv hn
  · exact ⟨g, cap, cur, rfl, by omega, by omega, by omega, hg, hcap, by omega, take_get ht⟩
set_option maxHeartbeats 4000000 in
set_option maxRecDepth 1000000 in
theorem each_walk {l : List Od} {A : Option Addr} {c : Nat} {F : Nat → Prop} {L B : Nat} (hg : ∀ x ∈ l, isOd x = true) (h8 : l.length ≤ 8) (k : Nat) : ∀ (W : World) (s : List Int × Int) (v : Value) (o : List Int), o.length + k = l.length → o.Nodup → (∀ x ∈ o, 0 ≤ x ∧ x < l.length) → LO l A c F L B W s → RowI W B v o →
    Calls Try.prog 37 #[.int .i64 l.length, v, clF B] W fun e W' => e = .returned (.tuple #[]) ∧ LO l A c F L B W' (eachF l k o s) ∧ KeptB B W W' := by
  induction k using Nat.strongRecOn with
  | ind k ih =>
  intro W s v o hlen hd hin hO hr
  obtain ⟨i0, hi, hz0, hz1, hz2⟩ := info_parts info3
  have hc1 := found_walk hO hg hr hin (by omega)
  go_enter Try.func37, Try.ntmps37
  go_wp2_with (go_at_call 38; refine hc1.mono ?_)
  rintro e W1 ⟨rfl, hO1, k1⟩
  rw [← stE_zero l k o s hlen] at hO1
  go_wp2
  go_loopw [6] (fun vi wr => ∃ i : Nat, vi = .int .i64 i ∧ i ≤ l.length ∧ LO l A c F L B wr (stE l k o s i) ∧ KeptB B W wr) (fun vi _ => l.length - (intOf vi).toNat)
  case atStart => exact ⟨0, rfl, Nat.zero_le _, hO1, k1⟩
  case round =>
    obtain ⟨i, rfl, hil, hOi, ki⟩ := hrel
    have hri := hr.kept ki
    by_cases hp : i < l.length
    · have hpi : (i : Int) < (l.length : Int) := by omega
      obtain ⟨g, hgz, hv⟩ := hri.rep
      have hc2 := call_hasNumber o i (by omega) hv (fun b hb => by subst hb; exact hgz)
      by_cases hm : (i : Int) ∈ o
      · rw [decide_eq_true hm] at hc2
        go_wp2_with (go_at_call 31; refine hc2.mono ?_)
        rintro e W2 ⟨rfl, b2⟩
        go_wp2
        refine ⟨⟨i + 1, congrArg (Value.int .i64) (by omega), by omega, ?_, ki.trans (KeptB.of b2)⟩, ?_⟩
        · rw [stE_in l k o s i hm]
          exact hOi.kept b2
        · show l.length - ((i : Int) + 1).toNat < l.length - (i : Int).toNat
          omega
      · rw [decide_eq_false hm] at hc2
        cases k with
        | zero => exact absurd (nodup_full hd hin hlen i hp) hm
        | succ k =>
        go_wp2_with (go_at_call 31; refine hc2.mono ?_)
        rintro e W2 ⟨rfl, b2⟩
        have hO2 := hOi.kept b2
        have hr2 := hri.kept (KeptB.of b2)
        have z2 := hO2.sz
        have hr2' := hr2
        obtain ⟨g, cap, cur, rfl, g1, g2, g3, g4, g5, g6, g7⟩ := hr2'
        have hgl : g < W2.heap.size := (Array.getElem?_eq_some_iff.1 g4).1
        have hn1 : ∀ (j : Nat) (u : Value), (o.map (Value.int .i64))[j]? = some u → (W2.alloc (.cells #[] 3)).cell? ((⟨g, 0, none⟩ : Addr).add j) = some u := fun j u hu => by
          rw [add_zero_at, Lib.cell_of_heap (past_alloc _ g4)]
          exact g7 j u hu
        have hn2 : ∀ u ∈ o.map (Value.int .i64), u.oneCell' = true := fun u hu => by
          obtain ⟨x, _, rfl⟩ := List.mem_map.1 hu
          rfl
        have hmx : o.length + 1 ≤ maxLen := by unfold maxLen; omega
        have hlen2 : (o ++ [(i : Int)]).length = o.length + 1 := by simp
        have hC := fun (w4 : World) (v2 : Value) => ih k (by omega) w4 (stE l (k + 1) o s i) v2 (o ++ [(i : Int)]) (by rw [hlen2]; omega)
          (List.nodup_append.2 ⟨hd, by simp, fun x hx y hy e => by rw [List.mem_singleton.1 hy] at e; exact hm (e ▸ hx)⟩)
          (fun x hx => by
            rcases List.mem_append.1 hx with hx | hx
            · exact hin x hx
            · rw [List.mem_singleton.1 hx]
              omega)
        go_wp2_with (first
          | (at_builtin; refine wpList_append_own _ rfl _ _ 24 rfl W2.heap.size 3 i0 (.int .i64 0) 1 8 Try.underlying24 hi hz0 hz1 hz2 rfl (by decide) (.slice (some ⟨W2.heap.size, 0, none⟩) 0 0) 0 [] rfl ⟨rfl, .inr ⟨_, 0, #[], rfl, Nat.le_refl _, at_alloc _ rfl, Nat.le_refl _, Nat.zero_le _, rfl, rfl⟩⟩ ⟨g, 0, none⟩ o.length cap (o.map (Value.int .i64)) rfl (by rw [List.length_map, Nat.mul_one]) hn1 hn2 (by omega) (by omega) (World.grownBy_alloc W2 _ none).size ?_; intro v1 w3 hown1 hgrow1 hnil1; rw [Nat.zero_add, List.nil_append] at hown1; have bw3 : Below W2.heap.size W2 w3 := ((Below.refl _ W2).alloc (Nat.le_refl _) _).grown hgrow1 (World.grownBy_alloc W2 _ none).size (fun j hj => by have : W2.heap.size = j := Option.some.inj hj; omega); have hne1 : v1 ≠ .slice none 0 0 := fun e => by simpa using (hnil1.1 e).1)
          | (at_builtin; refine wpList_append_own _ rfl _ _ 24 rfl W2.heap.size 3 i0 (.int .i64 0) 1 8 Try.underlying24 hi hz0 hz1 hz2 rfl (by decide) v1 _ _ rfl (hown1.alloc _) ⟨w3.heap.size, 0, none⟩ 1 1 [.int .i64 i] rfl rfl (cell_one_new _ _ _) (by intro u hu; simp at hu; subst hu; rfl) hmx (by omega) (Nat.le_trans bw3.size (World.grownBy_alloc w3 _ none).size) ?_; intro v2 w4 hown2 hgrow2 hnil2; have bw4 : Below W2.heap.size W2 w4 := (bw3.alloc bw3.size _).grown hgrow2 (Nat.le_trans bw3.size (World.grownBy_alloc w3 _ none).size) (fun j hj => (hown1.lt j hj).1); have hne2 : v2 ≠ .slice none 0 0 := fun e => hne1 (hnil2.1 e).1; have hr4 : RowI w4 B v2 (o ++ [(i : Int)]) := RowI.of (b := W2.heap.size) (by rw [hlen2, List.map_append]; exact hown2) z2 hne2; have hc3 := hC w4 v2 (hO2.kept bw4) hr4)
          | (go_at_call 37; refine hc3.mono ?_))
        rintro e W5 ⟨rfl, hO5, k5⟩
        go_wp2
        refine ⟨⟨i + 1, congrArg (Value.int .i64) (by omega), by omega, ?_, ((ki.trans (KeptB.of b2)).trans (KeptB.of bw4)).trans k5⟩, ?_⟩
        · rw [stE_out l k o s i hm]
          exact hO5
        · show l.length - ((i : Int) + 1).toNat < l.length - (i : Int).toNat
          omega
    · have hpi : ¬ (i : Int) < (l.length : Int) := by omega
      have hin' : i = l.length := by omega
      subst hin'
      rw [stE_end] at hOi
      go_wp2
      go_returns
      exact ⟨rfl, hOi, ki⟩
end Go.Proofs.Ytaphcpfkgpaefaa
/-
  impl.leastOrder and impl.LeastLateness, walked by hand; what they come to.
-/
namespace Go.Proofs.Ytaphcpfkgpaefaa
open Go Go.Proofs Go.V Go.RowKit
set_option linter.unusedSimpArgs false
set_option linter.unusedVariables false

set_option maxHeartbeats 4000000 in
set_option maxRecDepth 1000000 in
theorem least_walk {l : List Od} {A : Option Addr} {c : Nat} {F : Nat → Prop} {L : Nat} (hg : ∀ x ∈ l, isOd x = true) (h8 : l.length ≤ 8) (W : World) (hrep : RepV W F (ods l) (.slice A l.length c)) (hF : ∀ b, F b → b < W.heap.size) (hL : L < W.heap.size)
    (bL : W.heap[L]? = some (.cells #[.slice A l.length c] 27 (0, 0))) :
    Calls Try.prog 20 #[.int .i64 l.length, .func (.func 21) #[] #[.pointer (some ⟨L, 0, none⟩)]] W fun e W' =>
      ∃ v, e = .returned (.tuple #[v, .int .i64 (firstS l l.length []).2]) ∧ RowI W' W.heap.size v (firstS l l.length []).1 ∧ Below W.heap.size W W' := by
  go_enter Try.func20, Try.ntmps20
  have hb6 : ∀ a0 a1 a2 a3 a4 a5, Below W.heap.size W ((((((W.alloc a0).alloc a1).alloc a2).alloc a3).alloc a4).alloc a5) := fun a0 a1 a2 a3 a4 a5 =>
    ((((((Below.refl _ W).alloc (Nat.le_refl _) _).alloc (by simp) _).alloc (by simp; omega) _).alloc (by simp; omega) _).alloc (by simp; omega) _).alloc (by simp; omega) _
  go_wp2_with (go_at_call 37; refine (each_walk (B := W.heap.size) (L := L) (F := F) (A := A) (c := c) hg h8 l.length _ ([], -1) _ [] (by simp) (by simp) (by simp) ?_ ?_).mono ?_)
  · refine ⟨RepV_mono (fun _ h => h) (fun b hb => (hb6 _ _ _ _ _ _).block b (hF b hb)) hrep, hF, hL, ((hb6 _ _ _ _ _ _).block L hL).trans bL, ?_, ?_, ?_, ⟨.slice (some ⟨W.heap.size + 1 + 1, 0, none⟩) 0 0, ?_, ?_⟩, by simp⟩
    · exact past_alloc _ (past_alloc _ (past_alloc _ (past_alloc _ (past_alloc _ (at_alloc _ rfl)))))
    · exact past_alloc _ (past_alloc _ (past_alloc _ (past_alloc _ (at_alloc _ (by simp)))))
    · exact past_alloc _ (at_alloc _ (by simp))
    · exact past_alloc _ (past_alloc _ (at_alloc _ (by simp)))
    · exact ⟨W.heap.size + 1 + 1, 0, #[], rfl, by omega, by omega, by omega, past_alloc _ (past_alloc _ (past_alloc _ (at_alloc _ (by simp)))), Nat.le_refl _, Nat.le_refl _, fun i u hu => by simp at hu⟩
  · exact ⟨W.heap.size + 1 + 1 + 1 + 1 + 1, 0, #[], rfl, by omega, by omega, by omega, at_alloc _ (by simp), Nat.le_refl _, Nat.le_refl _, fun i u hu => by simp at hu⟩
  rintro e W1 ⟨rfl, hO, k1⟩
  rw [each_all] at hO
  obtain ⟨v, p1, p2⟩ := hO.bb
  obtain ⟨b0, b00⟩ := box_cell p1
  obtain ⟨l0, l00⟩ := box_cell hO.bl
  go_wp2
  go_still (by kernel_rfl)
  change Exit.then _ _ _ _ W1.drew
  go_wp2
  go_ret2
  exact ⟨v, rfl, p2, ((hb6 _ _ _ _ _ _).trans (k1.below (by simp; omega))).drew⟩

def lstR (l : List Od) : List Int := if goodO l = true then (firstS l l.length []).1 else []
def lstM (l : List Od) : Int := if goodO l = true then (firstS l l.length []).2 else 0
set_option maxHeartbeats 2000000 in
set_option maxRecDepth 1000000 in
theorem lateness_walk (l : List Od) (h : l.length ≤ 1048576) (A : Option Addr) (c : Nat) (w : World) (F : Nat → Prop) (hr : RepV w F (ods l) (.slice A l.length c)) (hF : ∀ b, F b → b < w.heap.size) :
    Calls Try.prog 8 #[.slice A l.length c] w fun e w' => ∃ g cap cur, e = .returned (.tuple #[.slice (some ⟨g, 0, none⟩) (lstR l).length cap, .int .i64 (lstM l), .bool (goodO l)]) ∧ Below w.heap.size w w' ∧ w.heap.size ≤ g ∧
      w'.heap[g]? = some (.cells cur 3 (0, 0)) ∧ (lstR l).length ≤ cap ∧ cap ≤ cur.size ∧ ∀ (i : Nat) (u : Value), ((lstR l).map (Value.int .i64))[i]? = some u → cur[i]? = some u := by
  have hb0 : ∀ o, Below w.heap.size w (w.alloc o) := fun o => (Below.refl _ w).alloc (Nat.le_refl _) _
  have hr0 : ∀ o, RepV (w.alloc o) F (ods l) (.slice A l.length c) := fun o => RepV_mono (fun _ h => h) (fun b hb => (hb0 o).block b (hF b hb)) hr
  have hF0 : ∀ o, ∀ b, F b → b < (w.alloc o).heap.size := fun o b hb => Nat.lt_of_lt_of_le (hF b hb) (hb0 o).size
  have hc1 := fun o => call_AreOrders l h (hr0 o) (hF0 o)
  go_enter Try.func8, Try.ntmps8
  cases hgd : goodO l
  · rw [hgd] at hc1
    go_wp2_with (go_at_call 19; refine (hc1 _).mono ?_)
    rintro e w1 ⟨rfl, b1⟩
    go_wp2
    go_ret3
    have e1 : lstR l = [] := by simp [lstR, hgd]
    have e2 : lstM l = 0 := by simp [lstM, hgd]
    rw [e1, e2]
    have b01 := (hb0 _).trans (b1.mono (hb0 _).size)
    exact ⟨w1.heap.size, 0, #[], rfl, b01.alloc b01.size _, b01.size, at_alloc _ rfl, Nat.le_refl _, Nat.le_refl _, fun i u hu => by simp at hu⟩
  · rw [hgd] at hc1
    have hl8 := (goodO_all hgd).2
    have e1 : lstR l = (firstS l l.length []).1 := by simp [lstR, hgd]
    have e2 : lstM l = (firstS l l.length []).2 := by simp [lstM, hgd]
    rw [e1, e2]
    go_wp2_with (go_at_call 19; refine (hc1 _).mono ?_)
    rintro e w1 ⟨rfl, b1⟩
    have hbL : w1.heap[w.heap.size]? = some (.cells #[.slice A l.length c] 27 (0, 0)) := (b1.block _ (by simp)).trans (at_alloc _ rfl)
    obtain ⟨x0, x00⟩ := box_cell hbL
    have b01 := (hb0 (.cells #[.slice A l.length c] 27 (0, 0))).trans (b1.mono (hb0 _).size)
    have hL1 : w.heap.size < w1.heap.size := (Array.getElem?_eq_some_iff.1 hbL).1
    have hc2 := least_walk (goodO_all hgd).1 hl8 w1 (RepV_mono (fun _ h => h) (fun b hb => b01.block b (hF b hb)) hr) (fun b hb => Nat.lt_of_lt_of_le (hF b hb) b01.size) hL1 hbL
    go_wp2_with (go_at_call 20; refine hc2.mono ?_)
    rintro e w2 ⟨v, rfl, hrow, b2⟩
    obtain ⟨g, cap, cur, rfl, g1, g2, g3, g4, g5, g6, g7⟩ := hrow
    go_wp2
    go_ret3
    exact ⟨g, cap, cur, rfl, b01.trans (b2.mono b01.size), Nat.le_trans b01.size g1, g4, g5, g6, g7⟩
end Go.Proofs.Ytaphcpfkgpaefaa
/-
  impl.LeastLateness's contract; the other side.
-/
namespace Go.Proofs.Ytaphcpfkgpaefaa
open Go Go.Proofs Go.V Go.RowKit
set_option linter.unusedSimpArgs false
set_option linter.unusedVariables false

theorem lstR_len (l : List Od) (h8 : l.length ≤ 100) : (lstR l).length ≤ 100 := by
  unfold lstR
  split
  · exact first_len l l.length [] (by simpa using h8)
  · simp
theorem e_spec_l1Has0 (n : Int) : F_spec_l1Has [D.arr 0 [], I n] = some (.ret [B false] []) := by
  rw [t_spec_l1Has]
  refine loop_bind _ (loop_all ([] : List Int) (fun i => [I n, D.arr 0 [], I 0, I i]) (fun _ x => !decide (x = n)) (.ret [B true] []) (.ext 0 []) (fun i hi => absurd hi (Nat.not_lt_zero _)) ?_ rfl rfl rfl) ?_
  · simp
  · simp [allI]
theorem e_spec_l1Own0 : F_spec_l1Own [D.arr 0 []] = some (.ret [ints []] []) := by
  rw [t_spec_l1Own]
  simp [mkArr, lenOkD, chkA, appD]
set_option maxHeartbeats 1000000 in
theorem e_first0 (l : List Od) (hg : ∀ x ∈ l, isOd x = true) (h8 : l.length ≤ 8) (k : Nat) (hk : l.length = k + 1) : F_spec_orFirst [ods l, D.arr 0 []] = some (.ret [ints (firstS l (k + 1) []).1, I (firstS l (k + 1) []).2] []) := by
  have hne : ¬ (0 : Int) = l.length := by omega
  have ho := e_spec_l1Own0
  unfold F_spec_orFirst
  rw [t_spec_orFirst]
  simp -implicitDefEqProofs only [sl_zero, sl_succ, liveD_agg, liveD_ref, liveD_arr, ref0_eq, Option.bind_some, Option.map_some, callK_ret, gate_t, gate_f, gate_s, gateC_t, gateC_f, gateC_s, nrmK_some, pickD_B, ifD_B, ifN_B, if_true, if_false, Bool.false_eq_true, un_not, Bool.not_true, Bool.not_false, decide_true, decide_false, and_self, outK_ext, Nat.beq_refl, bin_lss, bin_gtr, bin_leq, bin_geq, bin_eql, bin_neq, bin_add, bin_sub, bin_mul, lenD_arr, lenD_str, List.length_map, ldD_ptr, takeD_f, chkV_v, offD_ptr, List.drop_zero, List.drop_succ_cons, atD_agg, mkArr_nil, Int.reduceLT, Int.reduceLE, Int.reduceEq, hne, List.length_nil, Int.natCast_zero]
  refine loop_bind _ (loop_for l.length (fun i => [ods l, D.arr 0 [], ints ((List.range i).foldl (stepF l (firstS l k) []) ([], -1)).1, I ((List.range i).foldl (stepF l (firstS l k) []) ([], -1)).2, I l.length, I i]) (.ext 0 [ints (firstS l (k + 1) []).1, I (firstS l (k + 1) []).2]) (fun i hi => ?_) ?_ rfl rfl) ?_
  · have hw : IntKind.i64.wrap ((i : Int) + 1) = (i : Int) + 1 := wrap_id (by omega) (by omega)
    rw [List.range_succ, List.foldl_append, List.foldl_cons, List.foldl_nil]
    generalize (List.range i).foldl (stepF l (firstS l k) []) ([], -1) = s
    obtain ⟨sb, sm⟩ := s
    have hh := e_spec_l1Has0 i
    have hi' : (i : Int) < l.length := by omega
    have hmem : ¬ (i : Int) ∈ ([] : List Int) := by simp
    have ha := app_ints (l := []) (m := [(i : Int)]) (by simp)
    rw [List.nil_append] at ha
    have hin2 : ∀ x ∈ [(i : Int)], 0 ≤ x ∧ x < l.length := fun x hx => by
      have := List.mem_singleton.1 hx
      omega
    have hw1 := e_spec_orWorst l [(i : Int)] hg hin2 (by simp)
    have ih := e_first l hg h8 k 8 [(i : Int)] (by omega) (by simp; omega) hin2
    by_cases h0 : 0 ≤ sm
    · have hn : ¬ sm < 0 := by omega
      by_cases hc : sm ≤ costO l [(i : Int)]
      · have e : stepF l (firstS l k) [] (sb, sm) i = (sb, sm) := by unfold stepF; rw [if_neg hmem, List.nil_append, if_pos ⟨h0, hc⟩]
        rw [e]
        simp -implicitDefEqProofs only [sl_zero, sl_succ, liveD_agg, liveD_ref, liveD_arr, ref0_eq, Option.bind_some, Option.map_some, callK_ret, gate_t, gate_f, gate_s, gateC_t, gateC_f, gateC_s, nrmK_some, pickD_B, ifD_B, ifN_B, if_true, if_false, Bool.false_eq_true, un_not, Bool.not_true, Bool.not_false, decide_true, decide_false, and_self, outK_ext, Nat.beq_refl, bin_lss, bin_gtr, bin_leq, bin_geq, bin_eql, bin_neq, bin_add, bin_sub, bin_mul, lenD_arr, lenD_str, List.length_map, ldD_ptr, takeD_f, chkV_v, offD_ptr, List.drop_zero, List.drop_succ_cons, atD_agg, mkArr_nil, Int.reduceLT, Int.reduceLE, Int.reduceEq, hi', hh, hw, ho, one_int, ha, h0, hw1, hc, Int.natCast_add, Int.natCast_one]
      · by_cases hlt : (firstS l k [(i : Int)]).2 < sm
        · have e : stepF l (firstS l k) [] (sb, sm) i = firstS l k [(i : Int)] := by unfold stepF; rw [if_neg hmem, List.nil_append, if_neg (fun h => hc h.2)]; unfold combB; rw [if_pos (.inr hlt)]
          rw [e]
          simp -implicitDefEqProofs only [sl_zero, sl_succ, liveD_agg, liveD_ref, liveD_arr, ref0_eq, Option.bind_some, Option.map_some, callK_ret, gate_t, gate_f, gate_s, gateC_t, gateC_f, gateC_s, nrmK_some, pickD_B, ifD_B, ifN_B, if_true, if_false, Bool.false_eq_true, un_not, Bool.not_true, Bool.not_false, decide_true, decide_false, and_self, outK_ext, Nat.beq_refl, bin_lss, bin_gtr, bin_leq, bin_geq, bin_eql, bin_neq, bin_add, bin_sub, bin_mul, lenD_arr, lenD_str, List.length_map, ldD_ptr, takeD_f, chkV_v, offD_ptr, List.drop_zero, List.drop_succ_cons, atD_agg, mkArr_nil, Int.reduceLT, Int.reduceLE, Int.reduceEq, hi', hh, hw, ho, one_int, ha, h0, hw1, hc, ih, hn, hlt, tupAt_ints0, tupAt_v1, Int.natCast_add, Int.natCast_one]
        · have e : stepF l (firstS l k) [] (sb, sm) i = (sb, sm) := by unfold stepF; rw [if_neg hmem, List.nil_append, if_neg (fun h => hc h.2)]; unfold combB; rw [if_neg (fun h => h.elim hn hlt)]
          rw [e]
          simp -implicitDefEqProofs only [sl_zero, sl_succ, liveD_agg, liveD_ref, liveD_arr, ref0_eq, Option.bind_some, Option.map_some, callK_ret, gate_t, gate_f, gate_s, gateC_t, gateC_f, gateC_s, nrmK_some, pickD_B, ifD_B, ifN_B, if_true, if_false, Bool.false_eq_true, un_not, Bool.not_true, Bool.not_false, decide_true, decide_false, and_self, outK_ext, Nat.beq_refl, bin_lss, bin_gtr, bin_leq, bin_geq, bin_eql, bin_neq, bin_add, bin_sub, bin_mul, lenD_arr, lenD_str, List.length_map, ldD_ptr, takeD_f, chkV_v, offD_ptr, List.drop_zero, List.drop_succ_cons, atD_agg, mkArr_nil, Int.reduceLT, Int.reduceLE, Int.reduceEq, hi', hh, hw, ho, one_int, ha, h0, hw1, hc, ih, hn, hlt, tupAt_ints0, tupAt_v1, Int.natCast_add, Int.natCast_one]
    · have hn : sm < 0 := by omega
      have e : stepF l (firstS l k) [] (sb, sm) i = firstS l k [(i : Int)] := by unfold stepF; rw [if_neg hmem, List.nil_append, if_neg (fun h => h0 h.1)]; unfold combB; rw [if_pos (.inl hn)]
      rw [e]
      simp -implicitDefEqProofs only [sl_zero, sl_succ, liveD_agg, liveD_ref, liveD_arr, ref0_eq, Option.bind_some, Option.map_some, callK_ret, gate_t, gate_f, gate_s, gateC_t, gateC_f, gateC_s, nrmK_some, pickD_B, ifD_B, ifN_B, if_true, if_false, Bool.false_eq_true, un_not, Bool.not_true, Bool.not_false, decide_true, decide_false, and_self, outK_ext, Nat.beq_refl, bin_lss, bin_gtr, bin_leq, bin_geq, bin_eql, bin_neq, bin_add, bin_sub, bin_mul, lenD_arr, lenD_str, List.length_map, ldD_ptr, takeD_f, chkV_v, offD_ptr, List.drop_zero, List.drop_succ_cons, atD_agg, mkArr_nil, Int.reduceLT, Int.reduceLE, Int.reduceEq, hi', hh, hw, ho, one_int, ha, h0, ih, hn, tupAt_ints0, tupAt_v1, Int.natCast_add, Int.natCast_one]
  · simp -implicitDefEqProofs only [sl_zero, sl_succ, liveD_agg, liveD_ref, liveD_arr, ref0_eq, Option.bind_some, Option.map_some, callK_ret, gate_t, gate_f, gate_s, gateC_t, gateC_f, gateC_s, nrmK_some, pickD_B, ifD_B, ifN_B, if_true, if_false, Bool.false_eq_true, un_not, Bool.not_true, Bool.not_false, decide_true, decide_false, and_self, outK_ext, Nat.beq_refl, bin_lss, bin_gtr, bin_leq, bin_geq, bin_eql, bin_neq, bin_add, bin_sub, bin_mul, lenD_arr, lenD_str, List.length_map, ldD_ptr, takeD_f, chkV_v, offD_ptr, List.drop_zero, List.drop_succ_cons, atD_agg, mkArr_nil, Int.reduceLT, Int.reduceLE, Int.reduceEq, Int.lt_irrefl]
    rfl
  · simp -implicitDefEqProofs only [sl_zero, sl_succ, liveD_agg, liveD_ref, liveD_arr, ref0_eq, Option.bind_some, Option.map_some, callK_ret, gate_t, gate_f, gate_s, gateC_t, gateC_f, gateC_s, nrmK_some, pickD_B, ifD_B, ifN_B, if_true, if_false, Bool.false_eq_true, un_not, Bool.not_true, Bool.not_false, decide_true, decide_false, and_self, outK_ext, Nat.beq_refl, bin_lss, bin_gtr, bin_leq, bin_geq, bin_eql, bin_neq, bin_add, bin_sub, bin_mul, lenD_arr, lenD_str, List.length_map, ldD_ptr, takeD_f, chkV_v, offD_ptr, List.drop_zero, List.drop_succ_cons, atD_agg, mkArr_nil, Int.reduceLT, Int.reduceLE, Int.reduceEq]
theorem orWorst0 : F_spec_orWorst [ods [], D.arr 0 []] = some (.ret [I (costO [] [])] []) := by
  have h1 : F_spec_orTimes [ods [], D.arr 0 []] = some (.ret [ints [], I 0] []) := by
    rw [t_spec_orTimes]
    refine loop_bind _ (loop_for 0 (fun i => [ods [], D.arr 1 [], I 0, I 0, I 0, D.arr 0 [], I 0, I i]) (.ext 0 [D.arr 1 [], I 0]) (fun i hi => absurd hi (Nat.not_lt_zero _)) ?_ rfl rfl) ?_
    · simp
    · simp
  have h2 : F_spec_orLate [ods [], D.arr 0 []] = some (.ret [ints []] []) := by
    rw [t_spec_orLate, h1]
    refine loop_bind _ (loop_for 0 (fun i => [ods [], ints [], D.arr 1 [], D.arr 0 [], I 0, I i]) (.ext 0 [D.arr 1 []]) (fun i hi => absurd hi (Nat.not_lt_zero _)) ?_ rfl rfl) ?_
    · simp
    · simp
  rw [t_spec_orWorst, h2]
  refine loop_bind _ (loop_for 0 (fun i => [I 0, ints [], I 0, I i]) (.ext 0 [I 0]) (fun i hi => absurd hi (Nat.not_lt_zero _)) ?_ rfl rfl) ?_
  · simp
  · simp [costO, mostL, lateO]
/-- What the other side hands back. -/
def lstW (l : List Od) : D := if goodO l = true ∧ l = [] then D.arr 0 [] else ints (lstR l)
theorem e_spec_LeastLateness (l : List Od) (h : l.length ≤ 1048576) : F_spec_LeastLateness [ods l] = some (.ret [lstW l, I (lstM l), B (goodO l)] []) := by
  have h1 := e_spec_orGood l h
  rw [t_spec_LeastLateness]
  cases hgd : goodO l
  · rw [hgd] at h1
    have e1 : lstW l = D.arr 1 [] := by simp [lstW, lstR, hgd]
    have e2 : lstM l = 0 := by simp [lstM, hgd]
    rw [e1, e2]
    simp -implicitDefEqProofs only [sl_zero, sl_succ, liveD_agg, liveD_ref, liveD_arr, ref0_eq, Option.bind_some, Option.map_some, callK_ret, gate_t, gate_f, gate_s, gateC_t, gateC_f, gateC_s, nrmK_some, pickD_B, ifD_B, ifN_B, if_true, if_false, Bool.false_eq_true, un_not, Bool.not_true, Bool.not_false, decide_true, decide_false, and_self, outK_ext, Nat.beq_refl, bin_lss, bin_gtr, bin_leq, bin_geq, bin_eql, bin_neq, bin_add, bin_sub, bin_mul, lenD_arr, lenD_str, List.length_map, ldD_ptr, takeD_f, chkV_v, offD_ptr, List.drop_zero, List.drop_succ_cons, atD_agg, mkArr_nil, Int.reduceLT, Int.reduceLE, Int.reduceEq, h1]
  · rw [hgd] at h1
    have hl8 := (goodO_all hgd).2
    cases hk : l.length with
    | zero =>
      have e0 := List.length_eq_zero_iff.1 hk
      subst e0
      have e1 : lstW [] = D.arr 0 [] := by simp [lstW, hgd]
      have e2 : lstM [] = costO [] [] := by simp [lstM, hgd, firstS]
      rw [e1, e2]
      have hf : F_spec_orFirst [ods [], D.arr 0 []] = some (.ret [D.arr 0 [], I (costO [] [])] []) := by
        have hw0 := orWorst0
        unfold F_spec_orFirst
        rw [t_spec_orFirst]
        simp -implicitDefEqProofs only [sl_zero, sl_succ, liveD_agg, liveD_ref, liveD_arr, ref0_eq, Option.bind_some, Option.map_some, callK_ret, gate_t, gate_f, gate_s, gateC_t, gateC_f, gateC_s, nrmK_some, pickD_B, ifD_B, ifN_B, if_true, if_false, Bool.false_eq_true, un_not, Bool.not_true, Bool.not_false, decide_true, decide_false, and_self, outK_ext, Nat.beq_refl, bin_lss, bin_gtr, bin_leq, bin_geq, bin_eql, bin_neq, bin_add, bin_sub, bin_mul, lenD_arr, lenD_str, List.length_map, ldD_ptr, takeD_f, chkV_v, offD_ptr, List.drop_zero, List.drop_succ_cons, atD_agg, mkArr_nil, Int.reduceLT, Int.reduceLE, Int.reduceEq, List.length_nil, eq_self, hw0, List.map_nil]
      simp -implicitDefEqProofs only [sl_zero, sl_succ, liveD_agg, liveD_ref, liveD_arr, ref0_eq, Option.bind_some, Option.map_some, callK_ret, gate_t, gate_f, gate_s, gateC_t, gateC_f, gateC_s, nrmK_some, pickD_B, ifD_B, ifN_B, if_true, if_false, Bool.false_eq_true, un_not, Bool.not_true, Bool.not_false, decide_true, decide_false, and_self, outK_ext, Nat.beq_refl, bin_lss, bin_gtr, bin_leq, bin_geq, bin_eql, bin_neq, bin_add, bin_sub, bin_mul, lenD_arr, lenD_str, List.length_map, ldD_ptr, takeD_f, chkV_v, offD_ptr, List.drop_zero, List.drop_succ_cons, atD_agg, mkArr_nil, Int.reduceLT, Int.reduceLE, Int.reduceEq, h1, hf]
      rfl
    | succ k =>
      have hf := e_first0 l (goodO_all hgd).1 hl8 k hk
      have hne : l ≠ [] := fun e => by rw [e] at hk; simp at hk
      have e1 : lstW l = ints (firstS l (k + 1) []).1 := by simp [lstW, lstR, hgd, hne, hk]
      have e2 : lstM l = (firstS l (k + 1) []).2 := by simp [lstM, hgd, hk]
      rw [e1, e2]
      simp -implicitDefEqProofs only [sl_zero, sl_succ, liveD_agg, liveD_ref, liveD_arr, ref0_eq, Option.bind_some, Option.map_some, callK_ret, gate_t, gate_f, gate_s, gateC_t, gateC_f, gateC_s, nrmK_some, pickD_B, ifD_B, ifN_B, if_true, if_false, Bool.false_eq_true, un_not, Bool.not_true, Bool.not_false, decide_true, decide_false, and_self, outK_ext, Nat.beq_refl, bin_lss, bin_gtr, bin_leq, bin_geq, bin_eql, bin_neq, bin_add, bin_sub, bin_mul, lenD_arr, lenD_str, List.length_map, ldD_ptr, takeD_f, chkV_v, offD_ptr, List.drop_zero, List.drop_succ_cons, atD_agg, mkArr_nil, Int.reduceLT, Int.reduceLE, Int.reduceEq, h1, hf, tupAt_ints0, tupAt_v1]

def fLst : List D → Option Out
  | [.arr _ ds] => (odsOf ds).bind fun l => if l.length ≤ 1048576 then some (.ret [ints (lstR l), I (lstM l), B (goodO l)] []) else none
  | _ => none
@[reducible] def S_impl_LeastLateness : FS := { pm := [.dat 2], rm := [.own 1 0 false, .dat 0, .dat 0], f := fLst }
set_option maxRecDepth 100000 in
theorem M_impl_LeastLateness : Meets gl0 Try.prog 8 S_impl_LeastLateness := by
  have he : ∀ args w, (callFunc 8 args).run Try.prog w = .ok (.enter 8 args) w := Go.Proofs.enters_of Try.func8 (by kernel_rfl) rfl
  refine meets_of_calls he fun ds rs us hd args w F ow hg ha hF _ => ?_
  obtain ⟨d, y, rfl, h2, h3⟩ := args_one ha
  replace hd : fLst [d] = some (.ret rs us) := hd
  unfold fLst at hd
  split at hd
  case h_2 => cases hd
  rename_i z ds e
  cases e
  obtain ⟨l, hl, hd'⟩ := Option.bind_eq_some_iff.1 hd
  clear hd
  split at hd'
  case isFalse => cases hd'
  rename_i hz
  cases hd'
  obtain rfl := odsOf_some _ _ hl
  rcases h3 with h3 | h3
  · cases h3
  replace h3 : RepV w F (.arr z (l.map od)) y := h3
  have h3' := h3
  simp only [RepV, RepC] at h3
  obtain ⟨A, c, us', hy, hc, hr, hz2, hA⟩ := h3
  simp only [List.cons.injEq, and_true] at hy
  subst hy
  rw [rep_ods l us' hr] at hA
  rw [size1 h2]
  rw [List.length_map] at hc h3' ⊢
  have hrep : RepV w F (ods l) (.slice A l.length c) := by
    simp only [RepV, RepC]
    refine ⟨A, c, us', by rw [List.length_map], by rw [List.length_map]; exact hc, hr, fun d hd => ?_, fun hne => ?_⟩
    · obtain ⟨x, _, rfl⟩ := List.mem_map.1 hd
      rfl
    · obtain ⟨b, o, h5, h6, h7⟩ := hA hne
      exact ⟨b, o, h5, h6, by rw [rep_ods l us' hr]; exact h7⟩
  refine (lateness_walk l hz A c w F hrep (fun b hb => (hF b hb).1)).mono ?_
  · rintro e w' ⟨gg, cap, cur, rfl, hB, hgg, hcell, hcap, hcs, hrow⟩
    refine ⟨_, rfl, F, fun b => if b = gg then some 0 else none, [_, _, _], rfl, post_own _ hB hF (fun b j hb => ?_) rfl rfl rfl rfl fun j => ?_⟩
    · split at hb
      · rename_i e
        subst e
        exact ⟨hgg, (Array.getElem?_eq_some_iff.1 hcell).1⟩
      · cases hb
    · match j with
      | 0 =>
        refine .inr ⟨(lstR l).map I, rfl, fun x hx => ?_, .inr ⟨gg, 0, cap, (lstR l).map (Value.int .i64), cur, _, ?_, ?_, hcell, by omega, RepL_ints _, fun i u hu => ?_, by simp, hgg⟩⟩
        · obtain ⟨s, _, rfl⟩ := List.mem_map.1 hx
          rfl
        · rw [List.length_map]
          rfl
        · rw [List.length_map]
          exact hcap
        · rw [Nat.zero_add]
          exact hrow i u hu
      | 1 => exact .inr (RepV_v.2 ⟨rfl, rfl⟩)
      | 2 => exact .inr (RepV_v.2 ⟨rfl, rfl⟩)
      | j + 3 => exact .inl rfl
end Go.Proofs.Ytaphcpfkgpaefaa
/-
  The evaluator with recasts: from some place of a function on, slots that own a slice hold plain data (what is handed back, and read beside).
-/
namespace Go.V
open Go.RowKit
set_option linter.unusedSimpArgs false

@[reducible] def frz1 (K : List Kd) (fz : List Nat) (s : Nat) (k : Kd) : Kd :=
  match k with
  | .own z lv false => match memN s fz with
    | true => .dat (maxN 1 lv)
    | false => .own z lv false
  | .via r => match memN r fz with
    | true => .dat (maxN 1 (rootLv K r))
    | false => .via r
  | .ref r => match memN r fz with
    | true => .dat (maxN 1 (rootLv K r))
    | false => .ref r
  | k => k
@[reducible] def frzL (K : List Kd) (fz : List Nat) : List Kd → Nat → List Kd
  | [], _ => []
  | k :: l, s => frz1 K fz s k :: frzL K fz l (Nat.succ s)
@[reducible] def rcx (c : Cx) (fz : List Nat) : Cx := { c with K := frzL c.K fz c.K 0 }
@[reducible] def retO (k : Out → Option Out) (o : Out) : Option Out :=
  match o with
  | .nrm _ => none
  | .ext _ _ => none
  | .ret a b => k (.ret a b)
/-- What a copy of a slot holds, once that slot's slice is plain data. -/
def viaD (p x : D) : D :=
  match p with
  | .bad => .bad
  | _ => x
@[reducible] def viaC (K : List Kd) (δ : List D) : List Nat → (List D → Option Out) → Option Out
  | [], k => k []
  | s :: ss, k => match nthK K s with
    | .via r => nthC δ s fun p => nthC δ r fun x => viaC K δ ss fun l => k (viaD p x :: l)
    | _ => viaC K δ ss fun l => k (.bad :: l)
@[reducible] noncomputable def denR (c : Cx) (R : List (Nat × List Nat)) : Nat → Nat → Code → List D → (Out → Option Out) → Option Out
  | p, bid, .seq a b, δ, k => denR c R (Nat.mul 2 p) bid a δ fun o => seqK o (fun δ' => match look R p with
      | some fz => viaC c.K δ' (depsAll c.K fz) fun l => setManyC δ' (depsAll c.K fz) l fun δ'' => den (rcx c fz) bid b δ'' (retO k)
      | none => denR c R (Nat.add (Nat.mul 2 p) 1) bid b δ' k) k
  | p, bid, .cond x t e, δ, k => opC δ x fun q => ifD q (denR c R (Nat.mul 2 p) bid t δ k) (denR c R (Nat.add (Nat.mul 2 p) 1) bid e δ k)
  | p, _, .block id b, δ, k => denR c R (Nat.mul 2 p) id b δ fun o => blkK id o k
  | _, bid, x, δ, k => den c bid x δ k
@[reducible] noncomputable def denFR (c : Cx) (R : List (Nat × List Nat)) (fn : Func) (ds : List D) : Option Out :=
  match fn.body with
  | none => none
  | some b => denR c R 1 0 b (padTo fn.ntmps ds) fun o => match o with
    | .nrm δ => resC c δ c.res fun rs => getC δ c.ios fun us => usK us (some (.ret rs us))
    | .ext _ _ => none
    | .ret rs us => some (.ret rs us)
def resSl : List ResultVar → List Nat
  | [] => []
  | .tmp t :: l => t :: resSl l
  | .cell a _ :: l => a :: resSl l
def chgS (c : Cx) (fz : List Nat) : List Nat := fz ++ depsAll c.K fz
def okFz (c : Cx) (fz : List Nat) : Bool :=
  (fz.all fun s => match nthK c.K s with
    | .own _ _ false => true
    | _ => false) && ((resSl c.res).all fun s => !memN s (chgS c fz)) && (c.ios.all fun s => !memN s (chgS c fz))
def okCodeR (c : Cx) (R : List (Nat × List Nat)) : Nat → Nat → Code → Bool
  | p, bid, .seq a b => okCodeR c R (Nat.mul 2 p) bid a && (match look R p with
      | some fz => okFz c fz && okCode (rcx c fz) bid b
      | none => okCodeR c R (Nat.add (Nat.mul 2 p) 1) bid b)
  | p, bid, .cond x t e => Nat.ble (lvOf c.K x) 2 && okCodeR c R (Nat.mul 2 p) bid t && okCodeR c R (Nat.add (Nat.mul 2 p) 1) bid e
  | p, _, .block id b => okCodeR c R (Nat.mul 2 p) id b
  | _, bid, x => okCode c bid x
def okFnR (c : Cx) (R : List (Nat × List Nat)) (fn : Func) (pm rm : List Kd) : Bool :=
  (match fn.body with
    | some b => okCodeR c R 1 0 b
    | none => false) && Nat.beq (lenN c.K) fn.ntmps && prefK pm c.K && okPm pm && okRes c c.res rm && decide (c.ios = ioIdx 0 pm)

section
variable {P : Program} {c : Cx} {B : Nat} {X : Nat → Prop} {w0 : World} {F0 F : Nat → Prop} {O : Nat → Option (Nat × Nat)} {a : Act} {w : World} {δ : List D} {fz : List Nat}

theorem len_frzL (K : List Kd) (fz : List Nat) : ∀ (l : List Kd) (s : Nat), (frzL K fz l s).length = l.length
  | [], _ => rfl
  | _ :: l, s => by simp [frzL, len_frzL K fz l]
theorem nthK_frzL (K : List Kd) (fz : List Nat) : ∀ (l : List Kd) (s i : Nat), nthK (frzL K fz l s) i = frz1 K fz (s + i) (nthK l i)
  | [], s, i => by simp [frzL, nthK, frz1]
  | k :: l, s, 0 => by simp [frzL, nthK]
  | k :: l, s, i + 1 => by
    simp only [frzL, nthK]
    rw [nthK_frzL K fz l (Nat.succ s) i, show Nat.succ s + i = s + (i + 1) by omega]
theorem nthK_rcx (c : Cx) (fz : List Nat) (s : Nat) : nthK (rcx c fz).K s = frz1 c.K fz s (nthK c.K s) := by
  show nthK (frzL c.K fz c.K 0) s = _
  rw [nthK_frzL, Nat.zero_add]
theorem okFz_own (h : okFz c fz = true) {s : Nat} (hs : s ∈ fz) : ∃ z lv, nthK c.K s = .own z lv false := by
  unfold okFz at h
  simp only [Bool.and_eq_true, List.all_eq_true] at h
  have := h.1.1 s hs
  split at this
  · exact ⟨_, _, ‹_›⟩
  · cases this
theorem memN_t {s : Nat} {l : List Nat} (h : s ∈ l) : memN s l = true := by rw [memN_eq]; exact decide_eq_true h
theorem memN_f {s : Nat} {l : List Nat} (h : s ∉ l) : memN s l = false := by rw [memN_eq]; exact decide_eq_false h
theorem frz_root {r : Nat} (hr : r ∉ fz) (h : isRoot c.K r) : nthK (rcx c fz).K r = nthK c.K r := by
  rw [nthK_rcx]
  unfold isRoot at h
  generalize nthK c.K r = k at h
  cases k
  case own z lv io => cases io <;> simp [frz1, memN_f hr]
  case box n lv io => rfl
  all_goals exact h.elim
theorem frz_back {r : Nat} (h : isRoot (rcx c fz).K r) : isRoot c.K r ∧ nthK (rcx c fz).K r = nthK c.K r := by
  unfold isRoot at h ⊢
  rw [nthK_rcx] at h ⊢
  generalize nthK c.K r = k at h
  cases k
  case own z lv io =>
    refine ⟨trivial, ?_⟩
    cases io
    case true => rfl
    by_cases hr : r ∈ fz
    · simp [frz1, memN_t hr] at h
    · simp [frz1, memN_f hr]
  case box n lv io => exact ⟨trivial, rfl⟩
  case via r' => by_cases hr : r' ∈ fz <;> simp [frz1, memN_t, memN_f, hr] at h
  case ref r' => by_cases hr : r' ∈ fz <;> simp [frz1, memN_t, memN_f, hr] at h
  all_goals exact h.elim
theorem frz_io (s : Nat) : isIo (nthK (rcx c fz).K s) = isIo (nthK c.K s) := by
  rw [nthK_rcx]
  generalize nthK c.K s = k
  cases k
  case own z lv io =>
    cases io
    case true => rfl
    by_cases hr : s ∈ fz
    · simp [frz1, memN_t hr, isIo]
    · simp [frz1, memN_f hr]
  case via r' => by_cases hr : r' ∈ fz <;> simp [frz1, memN_t, memN_f, hr, isIo]
  case ref r' => by_cases hr : r' ∈ fz <;> simp [frz1, memN_t, memN_f, hr, isIo]
  all_goals rfl
theorem isOwn_of {K K' : List Kd} {r : Nat} (h : nthK K' r = nthK K r) : isOwn K' r = isOwn K r := by unfold isOwn; rw [h]
theorem FB_one {F' : Nat → Prop} {b lv : Nat} (h1 : F' b) (h2 : B ≤ b) : FB F' B (maxN 1 lv) b := by
  rw [maxN_eq]
  match lv with
  | 0 => exact ⟨h1, h2⟩
  | 1 => exact ⟨h1, h2⟩
  | n + 2 =>
    rw [Nat.max_eq_right (by omega)]
    exact h1

def viaF (K : List Kd) (δ : List D) (s : Nat) : D :=
  match nthK K s with
  | .via r => viaD (nth δ s) (nth δ r)
  | _ => .bad
theorem viaC_eq (K : List Kd) (δ : List D) : ∀ (ss : List Nat) (k : List D → Option Out), viaC K δ ss k = k (ss.map (viaF K δ))
  | [], _ => rfl
  | s :: ss, k => by
    simp only [viaC, List.map_cons, viaF]
    split
    · simp only [nthC_eq]
      exact viaC_eq K δ ss _
    · exact viaC_eq K δ ss _
theorem nth_setMany_map (f : Nat → D) : ∀ (ss : List Nat) (δ : List D) (s : Nat), s ∈ ss → nth (setMany δ ss (ss.map f)) s = if s < δ.length then f s else .bad
  | i :: ss, δ, s, h => by
    simp only [List.map_cons, setMany]
    by_cases hs : s ∈ ss
    · rw [nth_setMany_map f ss _ s hs, len_setAt]
    · rw [nth_setMany_notin _ _ _ _ hs]
      have : s = i := by simpa [hs] using h
      subst this
      exact nth_setAt_eq _ _ _

open Classical in
/-- What some slots own is from now on plain data. -/
theorem Inv.recast (h : Inv c B X w0 F0 F O a w δ) (hfz : okFz c fz = true) : ∃ F' O', Inv (rcx c fz) B X w0 F0 F' O' a w (setMany δ (depsAll c.K fz) ((depsAll c.K fz).map (viaF c.K δ))) := by
  let G : Nat → Prop := fun b => ∃ s ∈ fz, O b = some (s, 0) ∧ B ≤ b
  have hF : ∀ b, F b → F b ∨ G b := fun b hb => .inl hb
  have hG : ∀ (b s i : Nat), O b = some (s, i) → (i = 0 → s ∉ fz) → ¬ G b := by
    rintro b s i h1 h2 ⟨s', h3, h4, _⟩
    rw [h1] at h4
    cases h4
    exact h2 rfl h3
  refine ⟨fun b => F b ∨ G b, fun b => if G b then none else O b, ?_⟩
  have hO : ∀ (b s i : Nat), (i = 0 → s ∉ fz) → O b = some (s, i) → (if G b then none else O b) = some (s, i) := fun b s i h2 h1 => by rw [if_neg (hG b s i h1 h2), h1]
  have own : ∀ r ∈ fz, nth δ r ≠ .bad → RepV w (FB (fun b => F b ∨ G b) B (maxN 1 (rootLv c.K r))) (nth δ r) (av a r) := by
    intro r hr hb
    obtain ⟨z, lv, hk⟩ := okFz_own hfz hr
    have h0 := (h.slot r).resolve_left hb
    rw [hk] at h0
    have h1 := h0.resolve_left hb
    simp only [rootLv, hk]
    refine RepV_mono (fun b hb => ?_) (fun _ _ => rfl) (OwnV_rep h1)
    rcases hb with hb | hb
    · exact FB_le (by rw [maxN_eq]; exact Nat.le_max_right _ _) b (FB_mono hF b hb)
    · exact FB_one (.inr ⟨r, hr, hb.1, hb.2 rfl⟩) (hb.2 rfl)
  refine ⟨h.la.trans (len_frzL _ _ _ _).symm, (len_setMany _ _ _).trans (h.ld.trans (len_frzL _ _ _ _).symm), h.df, fun s => ?_, fun b hb => ?_, fun b p hp => ?_, fun b hb => .inl (h.f0 b hb), fun b hb => ?_, h.bb, h.os, h.tape, h.output, h.keep, gOk_mono (fun b hb => .inl hb) (fun _ _ => rfl) h.gl⟩
  · by_cases hd : s ∈ depsAll c.K fz
    · by_cases hlt : s < δ.length
      case neg =>
        refine .inl ?_
        rw [nth_setMany_map _ _ _ _ hd, if_neg hlt]
      have e : nth (setMany δ (depsAll c.K fz) ((depsAll c.K fz).map (viaF c.K δ))) s = viaF c.K δ s := by rw [nth_setMany_map _ _ _ _ hd, if_pos hlt]
      obtain ⟨r, hr, hk⟩ := depsAll_kind _ hd
      rcases hk with hk | hk
      case inr => exact .inl (e.trans (by simp only [viaF, hk]))
      have e2 : viaF c.K δ s = viaD (nth δ s) (nth δ r) := by simp only [viaF, hk]
      by_cases hb : nth δ s = .bad
      · refine .inl (e.trans (e2.trans ?_))
        rw [hb]
        rfl
      have e3 : viaD (nth δ s) (nth δ r) = nth δ r := by
        generalize nth δ s = q at hb
        cases q <;> first | rfl | exact absurd rfl hb
      have h0 := (h.slot s).resolve_left hb
      rw [hk] at h0
      obtain ⟨b1, b2, b3, b4⟩ := h0
      refine .inr ?_
      rw [nthK_rcx, hk, e, e2, e3]
      simp only [frz1, memN_t hr]
      exact .inr (by rw [b1]; exact own r hr b3)
    have e : nth (setMany δ (depsAll c.K fz) ((depsAll c.K fz).map (viaF c.K δ))) s = nth δ s := nth_setMany_notin _ _ _ _ hd
    by_cases hb : nth δ s = .bad
    · exact .inl (e.trans hb)
    have h0 := (h.slot s).resolve_left hb
    refine .inr ?_
    have hkeep : ∀ r, isRoot c.K r → nth (setMany δ (depsAll c.K fz) ((depsAll c.K fz).map (viaF c.K δ))) r = nth δ r := fun r hr => nth_setMany_notin _ _ _ _ (root_notinAll hr _)
    rw [nthK_rcx, e]
    generalize hk : nthK c.K s = k at h0
    cases k
    case dat lv => exact h0.imp id (RepV_mono (FB_mono hF) (fun _ _ => rfl))
    case own z lv io =>
      have h1 := h0.resolve_left hb
      by_cases hs : s ∈ fz
      · obtain ⟨z', lv', hk'⟩ := okFz_own hfz hs
        rw [hk] at hk'
        cases hk'
        simp only [frz1, memN_t hs]
        have ho := own s hs hb
        simp only [rootLv, hk] at ho
        exact .inr ho
      · have e2 : frz1 c.K fz s (.own z lv io) = .own z lv io := by cases io <;> simp [frz1, memN_f hs]
        rw [e2]
        exact .inr (OwnV_mono (FB_mono hF) (fun _ _ => rfl) (fun g hg => ⟨⟨hO g s 0 (fun _ => hs) hg.1, hg.2⟩, rfl⟩) h1)
    case box n lv io =>
      have h1 := h0.resolve_left hb
      have hs : s ∉ fz := fun hs => by
        obtain ⟨z', lv', hk'⟩ := okFz_own hfz hs
        rw [hk] at hk'
        cases hk'
      exact .inr (BoxV_mono (FB_mono hF) (fun _ _ => rfl) (fun g hg => ⟨⟨hO g s 0 (fun _ => hs) hg.1, hg.2⟩, rfl⟩) h1)
    case via r =>
      have hr : r ∉ fz := fun hr => hd (mem_depsAll (.inl hk) _ hr)
      obtain ⟨b1, b2, b3, b4⟩ := h0
      simp only [frz1, memN_f hr]
      exact ⟨b1, b2, by rw [hkeep r (isOwn_root b4)]; exact b3, by rw [isOwn_of (frz_root hr (isOwn_root b4))]; exact b4⟩
    case ref r =>
      have hr : r ∉ fz := fun hr => hd (mem_depsAll (.inr hk) _ hr)
      obtain ⟨i, f, b1, b2, b3⟩ := h0
      simp only [frz1, memN_f hr]
      exact ⟨i, f, b1, by rw [hkeep r (RefV_root b3)]; exact b2, by rw [frz_root hr (RefV_root b3)]; exact b3⟩
    case tup ms =>
      obtain ⟨l, vs, b1, b2, b3⟩ := h0
      exact ⟨l, vs, b1, b2, fun i => Lone_mono hF (fun _ _ => rfl) (fun g hg => ⟨hO g s (i + 1) (fun h => by omega) hg, rfl⟩) (b3 i)⟩
    case no => trivial
  · rcases hb with hb | hb
    · obtain ⟨h1, h2⟩ := h.fl b hb
      refine ⟨h1, ?_⟩
      simp only [h2]
      split <;> rfl
    · obtain ⟨s, h1, h2, h3⟩ := hb
      exact ⟨(h.ol b _ h2).1, if_pos ⟨s, h1, h2, h3⟩⟩
  · split at hp
    · cases hp
    · exact h.ol b p hp
  · rcases hb with hb | ⟨s, h1, h2, h3⟩
    · exact h.fn b hb
    · exact .inr h3
/-- Back to the function's own kinds: what was recast is void. -/
theorem Inv.uncast (h : Inv (rcx c fz) B X w0 F0 F O a w δ) : Inv c B X w0 F0 F O a w (setMany δ (chgS c fz) []) := by
  refine ⟨h.la.trans (len_frzL _ _ _ _), (len_setMany _ _ _).trans (h.ld.trans (len_frzL _ _ _ _)), h.df, fun s => ?_, h.fl, h.ol, h.f0, h.fn, h.bb, h.os, h.tape, h.output, h.keep, h.gl⟩
  by_cases hd : s ∈ chgS c fz
  · exact .inl (nth_kill _ _ _ hd)
  have e : nth (setMany δ (chgS c fz) []) s = nth δ s := nth_setMany_notin _ _ _ _ hd
  by_cases hb : nth δ s = .bad
  · exact .inl (e.trans hb)
  have h0 := (h.slot s).resolve_left hb
  refine .inr ?_
  have hs : s ∉ fz := fun hs => hd (List.mem_append_left _ hs)
  have hdp : s ∉ depsAll c.K fz := fun hs => hd (List.mem_append_right _ hs)
  have hkeep : ∀ r, r ∉ fz → isRoot c.K r → nth (setMany δ (chgS c fz) []) r = nth δ r := fun r h1 h2 => nth_setMany_notin _ _ _ _ fun hm => by
    rcases List.mem_append.1 hm with hm | hm
    · exact h1 hm
    · exact root_notinAll h2 _ hm
  rw [nthK_rcx] at h0
  rw [e]
  generalize hk : nthK c.K s = k at h0
  cases k
  case own z lv io =>
    have e2 : frz1 c.K fz s (.own z lv io) = .own z lv io := by cases io <;> simp [frz1, memN_f hs]
    rw [e2] at h0
    exact h0
  case via r =>
    have hr : r ∉ fz := fun hr => hdp (mem_depsAll (.inl hk) _ hr)
    simp only [frz1, memN_f hr] at h0
    obtain ⟨b1, b2, b3, b4⟩ := h0
    obtain ⟨g1, g2⟩ := frz_back (isOwn_root b4)
    exact ⟨b1, b2, by rw [hkeep r hr g1]; exact b3, by rw [← isOwn_of g2]; exact b4⟩
  case ref r =>
    have hr : r ∉ fz := fun hr => hdp (mem_depsAll (.inr hk) _ hr)
    simp only [frz1, memN_f hr] at h0
    obtain ⟨i, f, b1, b2, b3⟩ := h0
    obtain ⟨g1, g2⟩ := frz_back (RefV_root b3)
    exact ⟨i, f, b1, by rw [hkeep r hr g1]; exact b2, by rw [← g2]; exact b3⟩
  all_goals exact h0

theorem resC_recast : ∀ (l : List ResultVar) (δ δ' : List D) (k : List D → Option Out), (∀ t ∈ resSl l, nth δ t = nth δ' t) → resC (rcx c fz) δ l k = resC c δ' l k
  | [], _, _, _, _ => rfl
  | .tmp t :: l, δ, δ', k, h => by
    simp only [resC, nthC_eq]
    rw [h t (by simp [resSl])]
    exact resC_recast l δ δ' _ fun t ht => h t (by simp [resSl, ht])
  | .cell b t :: l, δ, δ', k, h => by
    simp only [resC, nthC_eq]
    rw [h b (by simp [resSl])]
    cases look c.T t with
    | none => rfl
    | some i =>
      simp only
      refine congrArg _ (funext fun y => ?_)
      exact resC_recast l δ δ' _ fun t ht => h t (by simp [resSl, ht])
theorem ret_recast {V : Nat → Value} {k : Out → Option Out} {r : Out} (hfz : okFz c fz = true) (h : NextV (rcx c fz) B X w0 F0 V (fun δ => retK (rcx c fz) δ (retO k)) r a w) : NextV c B X w0 F0 V (fun δ => retK c δ k) r a w := by
  obtain ⟨⟨F, O, δ, hI, hk⟩, hV⟩ := h
  obtain ⟨rs, h1, h2, h3⟩ := retK_is hk
  unfold okFz at hfz
  simp only [Bool.and_eq_true, List.all_eq_true, Bool.not_eq_true'] at hfz
  have out : ∀ s, memN s (chgS c fz) = false → nth (setMany δ (chgS c fz) []) s = nth δ s := fun s hs => nth_setMany_notin _ _ _ _ fun hm => by
    rw [memN_t hm] at hs
    cases hs
  have hg : getAll (setMany δ (chgS c fz) []) c.ios = getAll δ c.ios := by
    have : ∀ l : List Nat, (∀ s ∈ l, memN s (chgS c fz) = false) → getAll (setMany δ (chgS c fz) []) l = getAll δ l := by
      intro l
      induction l with
      | nil => intro _; rfl
      | cons s l ih =>
        intro hl
        simp only [getAll]
        rw [out s (hl s (by simp)), ih fun t ht => hl t (by simp [ht])]
    exact this _ hfz.2
  refine ⟨⟨F, O, _, hI.uncast, retK_of (rs := rs) ?_ ?_ ?_⟩, fun s hs => hV s (by rw [frz_io]; exact hs)⟩
  · rw [← resC_recast (fz := fz) c.res δ _ _ fun t ht => (out t (hfz.1.2 t ht)).symm]
    exact h1
  · rw [hg]
    exact h2
  · rw [hg]
    exact h3

theorem denR_sound (hT : okT P c.T = true) (hS : ∀ f S, look c.S f = some S → Meets c.G P f S) (hm : P.follows .mixedOrders = true) {V : Nat → Value} {R : List (Nat × List Nat)} : ∀ (b : Code) (p bid : Nat), okCodeR c R p bid b = true → ∀ (F : Nat → Prop) (O : Nat → Option (Nat × Nat)) (a : Act) (w : World) (δ : List D),
    Inv c B X w0 F0 F O a w δ → IoV c V a → ∀ (k : Out → Option Out) (r : Out), denR c R p bid b δ k = some r → ∀ Q, (∀ e a w, Post c B X w0 F0 V k r e a w → Q e a w) → b.wp P Q a w
  | .seq x y, p, bid, hok, F, O, a, w, δ, hI, hV, k, r, hg, Q, hQ => by
    simp only [okCodeR, Bool.and_eq_true] at hok
    simp only [denR] at hg
    refine wp_seq (denR_sound hT hS hm x _ bid hok.1 F O a w δ hI hV _ r hg _ (fun e a' w' hp => ?_))
    cases e with
    | normal =>
      obtain ⟨⟨F', O', δ', hI', hk'⟩, hV'⟩ := hp
      have hok2 := hok.2
      simp only [seqK] at hk'
      cases hH : look R p with
      | none =>
        rw [hH] at hk' hok2
        exact denR_sound hT hS hm y _ bid hok2 F' O' a' w' δ' hI' hV' k r hk' Q hQ
      | some fz =>
        rw [hH] at hk' hok2
        simp only [Bool.and_eq_true] at hok2
        simp only [viaC_eq, setManyC_eq] at hk'
        obtain ⟨F2, O2, hI2⟩ := hI'.recast hok2.1
        refine den_sound (c := rcx c fz) hT hS hm y bid hok2.2 F2 O2 a' w' _ hI2 (fun s hs => hV' s (by rw [← frz_io (fz := fz)]; exact hs)) (retO k) r hk' Q (fun e a w hp => ?_)
        cases e with
        | normal => obtain ⟨⟨_, _, _, _, h⟩, _⟩ := hp; cases h
        | exit i => obtain ⟨⟨_, _, _, _, h⟩, _⟩ := hp; cases h
        | ret => exact hQ .ret _ _ (ret_recast hok2.1 hp)
        | _ => exact hp.elim
    | exit id => exact hQ _ _ _ hp
    | ret => exact hQ _ _ _ hp
    | _ => exact hp.elim
  | .cond x t e, p, bid, hok, F, O, a, w, δ, hI, hV, k, r, hg, Q, hQ => by
    simp only [okCodeR, Bool.and_eq_true] at hok
    obtain ⟨⟨hlv, hok1⟩, hok2⟩ := hok
    have hop := hI.opd (ble_iff.1 hlv)
    have key : ifD (opD δ x) (denR c R (Nat.mul 2 p) bid t δ k) (denR c R (Nat.add (Nat.mul 2 p) 1) bid e δ k) = some r := by
      simp only [denR] at hg
      cases x with
      | tmp s => simpa only [opC, nthC_eq, opD] using hg
      | const v => simpa only [opC, opD] using hg
      | func f => simpa only [opC, opD] using hg
      | global g => simp [opC] at hg
    unfold ifD at key
    split at key
    · rename_i hd
      rw [hd] at hop
      exact wp_cond_true (RepB_v hop).1 (denR_sound hT hS hm t _ bid hok1 F O a w δ hI hV k r key Q hQ)
    · rename_i hd
      rw [hd] at hop
      exact wp_cond_false (RepB_v hop).1 (denR_sound hT hS hm e _ bid hok2 F O a w δ hI hV k r key Q hQ)
    · cases key
  | .block id b, p, bid, hok, F, O, a, w, δ, hI, hV, k, r, hg, Q, hQ => by
    simp only [okCodeR] at hok
    refine wp_block (denR_sound hT hS hm b _ id hok F O a w δ hI hV _ r hg _ (fun e a' w' hp => ?_))
    cases e with
    | normal => exact hQ .normal _ _ hp
    | exit i =>
      simp only [Exit.inBlock]
      have hp' : NextV c B X w0 F0 V (fun δ => blkK id (.ext i δ) k) r a' w' := hp
      split
      · rename_i hi
        refine hQ .normal _ _ (NextV_mono hp' fun δ F O _ h => ?_)
        simp only [blkK] at h
        rw [beq_iff.2 (by simpa using hi)] at h
        exact h
      · rename_i hi
        refine hQ (.exit i) _ _ (NextV_mono hp' fun δ F O _ h => ?_)
        simp only [blkK] at h
        cases hb : Nat.beq i id
        · rw [hb] at h; exact h
        · exact absurd (by simpa using beq_iff.1 hb) hi
    | ret => exact hQ .ret _ _ hp
    | _ => exact hp.elim
  | .skip, p, bid, hok, F, O, a, w, δ, hI, hV, k, r, hg, Q, hQ => den_sound hT hS hm .skip bid hok F O a w δ hI hV k r hg Q hQ
  | .region id ops d, p, bid, hok, F, O, a, w, δ, hI, hV, k, r, hg, Q, hQ => den_sound hT hS hm (.region id ops d) bid hok F O a w δ hI hV k r hg Q hQ
  | .loop b, p, bid, hok, F, O, a, w, δ, hI, hV, k, r, hg, Q, hQ => den_sound hT hS hm (.loop b) bid hok F O a w δ hI hV k r hg Q hQ
  | .exit id, p, bid, hok, F, O, a, w, δ, hI, hV, k, r, hg, Q, hQ => den_sound hT hS hm (.exit id) bid hok F O a w δ hI hV k r hg Q hQ
  | .ret, p, bid, hok, F, O, a, w, δ, hI, hV, k, r, hg, Q, hQ => den_sound hT hS hm .ret bid hok F O a w δ hI hV k r hg Q hQ
  | .label _, _, _, hok, _, _, _, _, _, _, _, _, _, _, _, _ => by simp [okCodeR, okCode] at hok
  | .goto _, _, _, hok, _, _, _, _, _, _, _, _, _, _, _, _ => by simp [okCodeR, okCode] at hok
  | .scope _, _, _, hok, _, _, _, _, _, _, _, _, _, _, _, _ => by simp [okCodeR, okCode] at hok

theorem fn_callsR (hT : okT P c.T = true) (hS : ∀ f S, look c.S f = some S → Meets c.G P f S) (hm : P.follows .mixedOrders = true) {R : List (Nat × List Nat)} {f : FuncId} {fn : Func} (hf : P.funcs[f]? = some fn) {pm rm : List Kd} (hok : okFnR c R fn pm rm = true) (hres : c.res = fn.results.toList)
    {ds rs us : List D} (hd : denFR c R fn ds = some (.ret rs us)) {args : Array Value} {w : World} {F : Nat → Prop} {ow : Nat → Option Nat} (hgl : gOk c.G w F) (ha : ArgsOk w F ow 0 pm ds args.toList) (hF : ∀ b, F b → b < w.heap.size ∧ ow b = none) (hO : ∀ b i, ow b = some i → b < w.heap.size) :
    Calls P f args w fun e w' => ∃ v, e = .returned v ∧ ∃ F' R' vs, v = resV vs ∧ CallPost { pm := pm, rm := rm, f := denFR c R fn } args rs us w F ow F' R' vs w' := by
  unfold okFnR at hok
  simp only [Bool.and_eq_true, decide_eq_true_eq] at hok
  obtain ⟨⟨⟨⟨⟨hcode, hlenK⟩, hpre⟩, hpm⟩, hokr⟩, hios⟩ := hok
  rw [beq_iff, lenN_eq] at hlenK
  obtain ⟨hpl, hpn⟩ := prefK_nth hpre
  obtain ⟨hdl, hal, hargs⟩ := ArgsOk_at pm ds args.toList 0 ha
  have hasz : args.size = pm.length := by simpa using hal
  unfold denFR at hd
  cases hb : fn.body with
  | none => rw [hb] at hd; cases hd
  | some b =>
    rw [hb] at hd hcode
    simp only at hd hcode
    refine calls_of_wp hf hb ?_
    have hav : ∀ s, s < pm.length → av ({ tmps := args ++ Array.replicate (fn.ntmps - args.size) undef, defers := [] } : Act) s = args.toList.getD s undef := fun s hs => by
      have h1 : s < args.size := by omega
      simp only [av, Array.getD_eq_getD_getElem?, List.getD_eq_getElem?_getD, Array.getElem?_toList]
      rw [Array.getElem?_append_left h1]
    have hinit : Inv c w.heap.size (fun b => ow b ≠ none) w F F (fun b => (ow b).map fun i => (i, 0)) { tmps := args ++ Array.replicate (fn.ntmps - args.size) undef, defers := [] } w (padTo fn.ntmps ds) := by
      refine ⟨by simp; omega, by rw [padTo_len, hlenK], rfl, fun s => ?_, fun b hb => ⟨(hF b hb).1, by simp [(hF b hb).2]⟩, fun b p hp => ?_, fun _ h => h, fun _ h => .inl h, Nat.le_refl _, rfl, rfl, rfl, fun _ _ _ => rfl, hgl⟩
      · unfold SlotOk
        rw [padTo_nth _ _ _ (by rw [hdl]; omega)]
        by_cases hs : s < pm.length
        · rw [hpn s hs, hav s hs]
          rcases hargs s hs with hbad | harg
          · exact .inl hbad
          refine .inr ?_
          have hlv : ∀ lv, lv ≠ 1 → ∀ b, FB F 0 lv b → FB F w.heap.size lv b := fun lv h1 b hb => by
            match lv, h1 with
            | 0, _ => exact hb
            | _ + 2, _ => exact hb
          rcases okPm_at hpm s hs with ⟨lv, hk, h1⟩ | ⟨z, lv, hk, h1⟩ | ⟨n, lv, hk, h1⟩
          · rw [hk] at harg ⊢
            exact .inr (RepV_mono (hlv lv h1) (fun _ _ => rfl) harg)
          · rw [hk] at harg ⊢
            exact .inr (OwnV_mono' (hlv lv h1) (fun _ _ => rfl) (fun g _ hg => ⟨⟨by simp only [Nat.zero_add] at hg; simp [hg], fun h => by cases h⟩, rfl⟩) harg)
          · rw [hk] at harg ⊢
            exact .inr (BoxV_mono' (hlv lv h1) (fun _ _ => rfl) (fun g _ hg => ⟨⟨by simp only [Nat.zero_add] at hg; simp [hg], fun h => by cases h⟩, rfl⟩) harg)
        · refine .inl ?_
          rw [nth_eq, List.getD_eq_getElem?_getD, List.getElem?_eq_none (by omega)]
          rfl
      · obtain ⟨i, hi, rfl⟩ := Option.map_eq_some_iff.1 hp
        exact ⟨hO b i hi, .inr (by rw [hi]; simp)⟩
    refine denR_sound hT hS hm b 1 0 hcode F _ _ w _ hinit (V := av { tmps := args ++ Array.replicate (fn.ntmps - args.size) undef, defers := [] }) (fun _ _ => rfl) _ _ hd _ (fun e a' w' hp => ?_)
    have fin : NextV c w.heap.size (fun b => ow b ≠ none) w F (av { tmps := args ++ Array.replicate (fn.ntmps - args.size) undef, defers := [] }) (fun δ => retK c δ some) (.ret rs us) a' w' → a'.defers = [] ∧ ∃ v, (results fn a'.tmps).run P w' = .ok v w' ∧ ∃ v', Ending.returned v = .returned v' ∧ ∃ F' R' vs, v' = resV vs ∧ CallPost { pm := pm, rm := rm, f := denFR c R fn } args rs us w F ow F' R' vs w' := by
      rintro ⟨⟨F', O', δ', hI', hk⟩, hV'⟩
      obtain ⟨rs', h1, h2, h3⟩ := retK_is hk
      simp only [Option.some.injEq, Out.ret.injEq] at h3
      obtain ⟨rfl, rfl⟩ := h3
      obtain ⟨vs, g1, g2, g3, g4⟩ := res_run (P := P) hT hI' c.res rm rs' hokr h1
      refine ⟨hI'.df, resV vs, ?_, _, rfl, F', fun b => if w.heap.size ≤ b then (match O' b with
        | some (t, 0) => resIx c.res t 0
        | _ => none) else none, vs, rfl, ?_⟩
      · have hrun : (fn.results.mapM (getRes a'.tmps)).run P w' = .ok vs.toArray w' := by
          rw [Array.mapM_eq_mapM_toList, ← hres]
          simp [g1]
        have hrw : results fn a'.tmps = (do
            let vs ← fn.results.mapM (getRes a'.tmps)
            pure (if h : vs.size = 1 then vs[0] else .tuple vs)) := by
          unfold results
          congr 1
        rw [hrw]
        simp only [Sem.run_bind, hrun, Result.andThen_ok, Sem.run_pure]
        congr 1
        rcases vs with _ | ⟨y, _ | ⟨y', vs⟩⟩
        · simp [resV]
        · simp [resV]
        · simp [resV]
      · refine ⟨hI'.os, hI'.tape, hI'.output, hI'.bb, fun b hb ho => hI'.keep b hb (by simp [ho]), hI'.f0, fun b hb => ⟨hI'.fn b hb, (hI'.fl b hb).1, by simp only [(hI'.fl b hb).2]; split <;> rfl⟩, fun b j hj => ?_, g2, g3, fun j => ?_, ?_⟩
        · split at hj
          case isFalse => cases hj
          rename_i hB
          refine ⟨hB, ?_⟩
          split at hj
          · rename_i t he; exact (hI'.ol b _ he).1
          · cases hj
        · refine ResOk_mono (fun hk g hg => ?_) (g4 j)
          obtain ⟨z, lv, hk⟩ := hk
          obtain ⟨e1, t, e2, e3⟩ := hg
          rw [if_pos e1]
          simp only [e3]
          have := (resIx_own c.res rm hokr j t 0 z lv hk e2).1
          simpa using this
        · rw [hios]
          refine UsOk_of pm args.toList 0 hal (fun j hj hio => ?_)
          rw [Nat.zero_add]
          have hkj := hpn j hj
          have hbj : nth δ' j ≠ .bad := by
            refine h2 _ ?_
            rw [hios, getAll_map]
            exact List.mem_map_of_mem (by simpa using ioIdx_mem pm 0 j hj hio)
          have havj : av a' j = args.toList.getD j undef := (hV' j (by rw [hkj]; exact hio)).trans (hav j hj)
          have hlv : ∀ lv, lv ≠ 1 → ∀ b, FB F' w.heap.size lv b → FB F' 0 lv b := fun lv h1 b hb => by
            match lv, h1 with
            | 0, _ => exact hb
            | _ + 2, _ => exact hb
          refine ⟨hbj, .inr ?_⟩
          rcases okPm_at hpm j hj with ⟨lv, hk, h1⟩ | ⟨z, lv, hk, h1⟩ | ⟨n, lv, hk, h1⟩
          · rw [hk] at hio; cases hio
          · have h5 := hI'.own (hkj.trans hk) hbj
            rw [havj] at h5
            rw [hk]
            exact OwnV_mono' (hlv lv h1) (fun _ _ => rfl) (fun _ _ _ => ⟨trivial, rfl⟩) h5
          · have h5 := hI'.box (hkj.trans hk) hbj
            rw [havj] at h5
            rw [hk]
            exact BoxV_mono' (hlv lv h1) (fun _ _ => rfl) (fun _ _ _ => ⟨trivial, rfl⟩) h5
    cases e with
    | normal => exact fin hp
    | exit i =>
      obtain ⟨⟨_, _, _, _, h⟩, _⟩ := hp
      cases h
    | ret =>
      refine fin (NextV_mono hp fun δ F O _ h => ?_)
      obtain ⟨rs', h1, h2, h3⟩ := retK_is h
      exact retK_of h1 h2 h3
    | _ => exact hp.elim

theorem meets_ofR (hT : okT P c.T = true) (hS : ∀ f S, look c.S f = some S → Meets c.G P f S) (hm : P.follows .mixedOrders = true) {R : List (Nat × List Nat)} {f : FuncId} {fn : Func} (hf : P.funcs[f]? = some fn) (hname : (fn.name == "runtime.NumGoroutine") = false) {pm rm : List Kd} (hok : okFnR c R fn pm rm = true) (hres : c.res = fn.results.toList) :
    Meets c.G P f { pm := pm, rm := rm, f := denFR c R fn } := by
  intro ds rs us hd args w F ow hgl ha hF hO o a next Q hn
  have hbody : ∃ b, fn.body = some b := by
    have hd' : denFR c R fn ds = some (.ret rs us) := hd
    unfold denFR at hd'
    cases hb : fn.body with
    | none => rw [hb] at hd'; cases hd'
    | some b => exact ⟨b, rfl⟩
  obtain ⟨b, hb⟩ := hbody
  have hrun : (callFunc f args).run P w = .ok (.enter f args) w := by
    have h1 : ¬ fn.name = "runtime.NumGoroutine" := by simpa using hname
    simp [callFunc, hf, h1, hb]
  rw [hrun, Oper.upon_enter]
  refine Calls.mono (fn_callsR hT hS hm hf hok hres hd hgl ha hF hO) (fun e w' he => ?_)
  obtain ⟨v, rfl, F', R', vs, h1, h2⟩ := he
  exact hn v w' ⟨F', R', vs, h1, h2⟩


end
end Go.V
/-
  The evaluator with recasts of single regions: in them, slots that own a slice hold plain data (what is put into another slice, or handed back); after them these slots are void.
-/
namespace Go.V
open Go.RowKit
set_option linter.unusedSimpArgs false

@[reducible] noncomputable def denQ (c : Cx) (Z : List (Nat × List Nat)) : Nat → Code → List D → (Out → Option Out) → Option Out
  | _, .skip, δ, k => k (.nrm δ)
  | _, .region id ops _, δ, k => match look Z id with
    | some fz => viaC c.K δ (depsAll c.K fz) fun l => setManyC δ (depsAll c.K fz) l fun δ' => runOps (rcx c fz) ops.toList ops.toList δ' fun δ2 => setManyC δ2 fz [] fun δ3 => setManyC δ3 (depsAll c.K fz) [] fun δ4 => k (.nrm δ4)
    | none => runOps c ops.toList ops.toList δ fun δ' => k (.nrm δ')
  | bid, .seq a b, δ, k => denQ c Z bid a δ fun o => seqK o (fun δ' => denQ c Z bid b δ' k) k
  | bid, .cond x t e, δ, k => opC δ x fun q => ifD q (denQ c Z bid t δ k) (denQ c Z bid e δ k)
  | _, .block id b, δ, k => denQ c Z id b δ fun o => blkK id o k
  | bid, .loop b, δ, k => match look c.H bid with
    | none => none
    | some (hl, xl) =>
      getC δ hl fun s => (loopC (fun s => expandC (lenN c.K) hl s fun δ => denQ c Z bid b δ (shrinkK hl xl)) s).bind fun o =>
        outK o (fun i s => expandC (lenN c.K) xl s fun δ => k (.ext i δ)) (fun a b => k (.ret a b))
  | _, .exit id, δ, k => k (.ext id δ)
  | _, .ret, δ, k => resC c δ c.res fun rs => getC δ c.ios fun us => usK us (k (.ret rs us))
  | _, _, _, _ => none
@[reducible] noncomputable def denFQ (c : Cx) (Z : List (Nat × List Nat)) (fn : Func) (ds : List D) : Option Out :=
  match fn.body with
  | none => none
  | some b => denQ c Z 0 b (padTo fn.ntmps ds) fun o => match o with
    | .nrm δ => resC c δ c.res fun rs => getC δ c.ios fun us => usK us (some (.ret rs us))
    | .ext _ _ => none
    | .ret rs us => some (.ret rs us)
def okCodeQ (c : Cx) (Z : List (Nat × List Nat)) : Nat → Code → Bool
  | _, .skip => true
  | bid, .region id ops d => match look Z id with
    | some fz => okFz c fz && okCode (rcx c fz) bid (.region id ops d)
    | none => okCode c bid (.region id ops d)
  | b, .seq x y => okCodeQ c Z b x && okCodeQ c Z b y
  | b, .cond x t e => Nat.ble (lvOf c.K x) 2 && okCodeQ c Z b t && okCodeQ c Z b e
  | _, .block id x => okCodeQ c Z id x
  | b, .loop x => okCodeQ c Z b x && (match look c.H b with
    | some (hl, xl) => okLive c.K hl && okLive c.K xl
    | none => false)
  | _, .exit _ => true
  | _, .ret => true
  | _, _ => false
def okFnQ (c : Cx) (Z : List (Nat × List Nat)) (fn : Func) (pm rm : List Kd) : Bool :=
  (match fn.body with
    | some b => okCodeQ c Z 0 b
    | none => false) && Nat.beq (lenN c.K) fn.ntmps && prefK pm c.K && okPm pm && okRes c c.res rm && decide (c.ios = ioIdx 0 pm)

section
variable {P : Program} {c : Cx} {B : Nat} {X : Nat → Prop} {w0 : World} {F0 F : Nat → Prop} {O : Nat → Option (Nat × Nat)} {a : Act} {w : World} {δ : List D} {fz : List Nat}

theorem setMany_two : ∀ (ss ts : List Nat) (δ : List D), setMany (setMany δ ss []) ts [] = setMany δ (ss ++ ts) []
  | [], _, _ => rfl
  | i :: ss, ts, δ => by
    simp only [List.cons_append, setMany]
    exact setMany_two ss ts _
def unK (c : Cx) (fz : List Nat) (k : Out → Option Out) (o : Out) : Option Out :=
  match o with
  | .nrm δ => k (.nrm (setMany δ (chgS c fz) []))
  | _ => none
theorem loop_roundsQ {V : Nat → Value} {b : Code} {bid : Nat} {Z : List (Nat × List Nat)} {hl xl : List Nat} (h1 : okLive c.K hl = true) (h2 : okLive c.K xl = true)
    (ih : ∀ (F : Nat → Prop) (O : Nat → Option (Nat × Nat)) (a : Act) (w : World) (δ : List D), Inv c B X w0 F0 F O a w δ → IoV c V a → ∀ (k : Out → Option Out) (r : Out), denQ c Z bid b δ k = some r → ∀ Q, (∀ e a w, Post c B X w0 F0 V k r e a w → Q e a w) → b.wp P Q a w)
    {k : Out → Option Out} {r : Out} {Q : Exit → Act → World → Prop} (hQ : ∀ e a w, Post c B X w0 F0 V k r e a w → Q e a w) {o : Out}
    (ho : outK o (fun i s => expandC (lenN c.K) xl s fun δ => k (.ext i δ)) (fun x y => k (.ret x y)) = some r) : ∀ (n : Nat) (F : Nat → Prop) (O : Nat → Option (Nat × Nat)) (a : Act) (w : World) (δ : List D), Inv c B X w0 F0 F O a w δ → IoV c V a →
    iter (fun s => expandC (lenN c.K) hl s fun δ => denQ c Z bid b δ (shrinkK hl xl)) n (getAll δ hl) = some o → Code.rounds P b Q n a w
  | 0, _, _, _, _, _, _, _, h => by cases h
  | n + 1, F, O, a, w, δ, hI, hV, h => by
    simp only [iter, expandC_eq] at h
    rw [rounds_succ]
    have hI' := hI.carry h1
    cases hb : denQ c Z bid b (carry (lenN c.K) hl δ) (shrinkK hl xl) with
    | none => rw [hb] at h; cases h
    | some ob =>
      rw [hb] at h
      refine ih F O a w _ hI' hV _ ob hb _ (fun e a' w' hp => ?_)
      cases ob with
      | nrm s' =>
        simp only at h
        cases e with
        | normal =>
          obtain ⟨⟨F', O', δ', g1, g2⟩, g3⟩ := hp
          simp only [shrinkK, getC_eq, Option.some.injEq, Out.nrm.injEq] at g2
          rw [← g2] at h
          exact loop_roundsQ h1 h2 ih hQ ho n F' O' a' w' δ' g1 g3 h
        | exit i =>
          obtain ⟨⟨F', O', δ', g1, g2⟩, g3⟩ := hp
          simp [shrinkK, getC_eq] at g2
        | ret =>
          obtain ⟨⟨F', O', δ', g1, g2⟩, g3⟩ := hp
          obtain ⟨rs, _, _, g4⟩ := retK_is g2
          simp [shrinkK] at g4
        | _ => exact hp.elim
      | ext i l =>
        simp only [Option.some.injEq] at h
        subst h
        cases e with
        | normal =>
          obtain ⟨⟨F', O', δ', g1, g2⟩, g3⟩ := hp
          simp [shrinkK, getC_eq] at g2
        | exit j =>
          obtain ⟨⟨F', O', δ', g1, g2⟩, g3⟩ := hp
          simp only [shrinkK, getC_eq, Option.some.injEq, Out.ext.injEq] at g2
          obtain ⟨rfl, rfl⟩ := g2
          simp only [outK, expandC_eq] at ho
          exact hQ (.exit j) _ _ ⟨⟨F', O', _, g1.carry h2, ho⟩, g3⟩
        | ret =>
          obtain ⟨⟨F', O', δ', g1, g2⟩, g3⟩ := hp
          obtain ⟨rs, _, _, g4⟩ := retK_is g2
          simp [shrinkK] at g4
        | _ => exact hp.elim
      | ret x y =>
        simp only [Option.some.injEq] at h
        subst h
        cases e with
        | normal =>
          obtain ⟨⟨F', O', δ', g1, g2⟩, g3⟩ := hp
          simp [shrinkK, getC_eq] at g2
        | exit j =>
          obtain ⟨⟨F', O', δ', g1, g2⟩, g3⟩ := hp
          simp [shrinkK, getC_eq] at g2
        | ret =>
          obtain ⟨⟨F', O', δ', g1, g2⟩, g3⟩ := hp
          obtain ⟨rs, g5, g6, g4⟩ := retK_is g2
          simp only [shrinkK, Option.some.injEq, Out.ret.injEq] at g4
          obtain ⟨rfl, rfl⟩ := g4
          exact hQ .ret _ _ ⟨⟨F', O', δ', g1, retK_of g5 g6 ho⟩, g3⟩
        | _ => exact hp.elim

theorem denQ_sound (hT : okT P c.T = true) (hS : ∀ f S, look c.S f = some S → Meets c.G P f S) (hm : P.follows .mixedOrders = true) {V : Nat → Value} {Z : List (Nat × List Nat)} : ∀ (b : Code) (bid : Nat), okCodeQ c Z bid b = true → ∀ (F : Nat → Prop) (O : Nat → Option (Nat × Nat)) (a : Act) (w : World) (δ : List D),
    Inv c B X w0 F0 F O a w δ → IoV c V a → ∀ (k : Out → Option Out) (r : Out), denQ c Z bid b δ k = some r → ∀ Q, (∀ e a w, Post c B X w0 F0 V k r e a w → Q e a w) → b.wp P Q a w
  | .skip, bid, _, F, O, a, w, δ, hI, hV, k, r, hg, Q, hQ => wp_skip (hQ _ _ _ ⟨⟨F, O, δ, hI, hg⟩, hV⟩)
  | .region id ops d, bid, hok, F, O, a, w, δ, hI, hV, k, r, hg, Q, hQ => by
    simp only [okCodeQ] at hok
    simp only [denQ] at hg
    cases hH : look Z id with
    | none =>
      rw [hH] at hok hg
      exact den_sound hT hS hm (.region id ops d) bid hok F O a w δ hI hV k r hg Q hQ
    | some fz =>
      rw [hH] at hok hg
      simp only [Bool.and_eq_true] at hok
      simp only [viaC_eq, setManyC_eq, setMany_two] at hg
      obtain ⟨F2, O2, hI2⟩ := hI.recast hok.1
      refine den_sound (c := rcx c fz) hT hS hm (.region id ops d) bid hok.2 F2 O2 a w _ hI2 (fun s hs => hV s (by rw [← frz_io (fz := fz)]; exact hs)) (unK c fz k) r hg Q (fun e a w hp => ?_)
      cases e with
      | normal =>
        obtain ⟨⟨F', O', δ', hI', hk'⟩, hV'⟩ := hp
        exact hQ .normal _ _ ⟨⟨F', O', _, hI'.uncast, hk'⟩, fun s hs => hV' s (by rw [frz_io]; exact hs)⟩
      | exit i => obtain ⟨⟨_, _, _, _, h⟩, _⟩ := hp; cases h
      | ret =>
        obtain ⟨⟨_, _, _, _, h⟩, _⟩ := hp
        obtain ⟨rs, h1, h2, h3⟩ := retK_is h
        cases h3
      | _ => exact hp.elim
  | .seq x y, bid, hok, F, O, a, w, δ, hI, hV, k, r, hg, Q, hQ => by
    simp only [okCodeQ, Bool.and_eq_true] at hok
    refine wp_seq (denQ_sound hT hS hm x bid hok.1 F O a w δ hI hV _ r hg _ (fun e a' w' hp => ?_))
    cases e with
    | normal =>
      obtain ⟨⟨F', O', δ', hI', hk'⟩, hV'⟩ := hp
      exact denQ_sound hT hS hm y bid hok.2 F' O' a' w' δ' hI' hV' k r hk' Q hQ
    | exit id => exact hQ _ _ _ hp
    | ret => exact hQ _ _ _ hp
    | _ => exact hp.elim
  | .cond x t e, bid, hok, F, O, a, w, δ, hI, hV, k, r, hg, Q, hQ => by
    simp only [okCodeQ, Bool.and_eq_true] at hok
    obtain ⟨⟨hlv, hok1⟩, hok2⟩ := hok
    have hop := hI.opd (ble_iff.1 hlv)
    have key : ifD (opD δ x) (denQ c Z bid t δ k) (denQ c Z bid e δ k) = some r := by
      simp only [denQ] at hg
      cases x with
      | tmp s => simpa only [opC, nthC_eq, opD] using hg
      | const v => simpa only [opC, opD] using hg
      | func f => simpa only [opC, opD] using hg
      | global g => simp [opC] at hg
    unfold ifD at key
    split at key
    · rename_i hd
      rw [hd] at hop
      exact wp_cond_true (RepB_v hop).1 (denQ_sound hT hS hm t bid hok1 F O a w δ hI hV k r key Q hQ)
    · rename_i hd
      rw [hd] at hop
      exact wp_cond_false (RepB_v hop).1 (denQ_sound hT hS hm e bid hok2 F O a w δ hI hV k r key Q hQ)
    · cases key
  | .block id b, bid, hok, F, O, a, w, δ, hI, hV, k, r, hg, Q, hQ => by
    simp only [okCodeQ] at hok
    refine wp_block (denQ_sound hT hS hm b id hok F O a w δ hI hV _ r hg _ (fun e a' w' hp => ?_))
    cases e with
    | normal => exact hQ .normal _ _ hp
    | exit i =>
      simp only [Exit.inBlock]
      have hp' : NextV c B X w0 F0 V (fun δ => blkK id (.ext i δ) k) r a' w' := hp
      split
      · rename_i hi
        refine hQ .normal _ _ (NextV_mono hp' fun δ F O _ h => ?_)
        simp only [blkK] at h
        rw [beq_iff.2 (by simpa using hi)] at h
        exact h
      · rename_i hi
        refine hQ (.exit i) _ _ (NextV_mono hp' fun δ F O _ h => ?_)
        simp only [blkK] at h
        cases hb : Nat.beq i id
        · rw [hb] at h; exact h
        · exact absurd (by simpa using beq_iff.1 hb) hi
    | ret => exact hQ .ret _ _ hp
    | _ => exact hp.elim
  | .loop b, bid, hok, F, O, a, w, δ, hI, hV, k, r, hg, Q, hQ => by
    simp only [okCodeQ, Bool.and_eq_true] at hok
    obtain ⟨hok1, hok2⟩ := hok
    simp only [denQ] at hg
    cases hH : look c.H bid with
    | none => rw [hH] at hg; cases hg
    | some hx =>
      obtain ⟨hl, xl⟩ := hx
      rw [hH] at hg hok2
      simp only [Bool.and_eq_true] at hok2
      simp only [getC_eq] at hg
      obtain ⟨o', h1, h2⟩ := Option.bind_eq_some_iff.1 hg
      unfold loopC at h1
      split at h1
      case isFalse => cases h1
      rename_i hex
      refine wp_loop_rounds (Classical.choose hex) ?_
      refine loop_roundsQ (hl := hl) (xl := xl) hok2.1 hok2.2 (fun F O a w δ hI hV k r hg Q hQ => denQ_sound hT hS hm b bid hok1 F O a w δ hI hV k r hg Q hQ) hQ h2 _ F O a w δ hI hV h1
  | .exit id, bid, _, F, O, a, w, δ, hI, hV, k, r, hg, Q, hQ => wp_exit (hQ _ _ _ ⟨⟨F, O, δ, hI, hg⟩, hV⟩)
  | .ret, bid, _, F, O, a, w, δ, hI, hV, k, r, hg, Q, hQ => wp_ret (hQ _ _ _ ⟨⟨F, O, δ, hI, hg⟩, hV⟩)
  | .label _, _, hok, _, _, _, _, _, _, _, _, _, _, _, _ => by simp [okCodeQ] at hok
  | .goto _, _, hok, _, _, _, _, _, _, _, _, _, _, _, _ => by simp [okCodeQ] at hok
  | .scope _, _, hok, _, _, _, _, _, _, _, _, _, _, _, _ => by simp [okCodeQ] at hok

theorem fn_callsQ (hT : okT P c.T = true) (hS : ∀ f S, look c.S f = some S → Meets c.G P f S) (hm : P.follows .mixedOrders = true) {Z : List (Nat × List Nat)} {f : FuncId} {fn : Func} (hf : P.funcs[f]? = some fn) {pm rm : List Kd} (hok : okFnQ c Z fn pm rm = true) (hres : c.res = fn.results.toList)
    {ds rs us : List D} (hd : denFQ c Z fn ds = some (.ret rs us)) {args : Array Value} {w : World} {F : Nat → Prop} {ow : Nat → Option Nat} (hgl : gOk c.G w F) (ha : ArgsOk w F ow 0 pm ds args.toList) (hF : ∀ b, F b → b < w.heap.size ∧ ow b = none) (hO : ∀ b i, ow b = some i → b < w.heap.size) :
    Calls P f args w fun e w' => ∃ v, e = .returned v ∧ ∃ F' R' vs, v = resV vs ∧ CallPost { pm := pm, rm := rm, f := denFQ c Z fn } args rs us w F ow F' R' vs w' := by
  unfold okFnQ at hok
  simp only [Bool.and_eq_true, decide_eq_true_eq] at hok
  obtain ⟨⟨⟨⟨⟨hcode, hlenK⟩, hpre⟩, hpm⟩, hokr⟩, hios⟩ := hok
  rw [beq_iff, lenN_eq] at hlenK
  obtain ⟨hpl, hpn⟩ := prefK_nth hpre
  obtain ⟨hdl, hal, hargs⟩ := ArgsOk_at pm ds args.toList 0 ha
  have hasz : args.size = pm.length := by simpa using hal
  unfold denFQ at hd
  cases hb : fn.body with
  | none => rw [hb] at hd; cases hd
  | some b =>
    rw [hb] at hd hcode
    simp only at hd hcode
    refine calls_of_wp hf hb ?_
    have hav : ∀ s, s < pm.length → av ({ tmps := args ++ Array.replicate (fn.ntmps - args.size) undef, defers := [] } : Act) s = args.toList.getD s undef := fun s hs => by
      have h1 : s < args.size := by omega
      simp only [av, Array.getD_eq_getD_getElem?, List.getD_eq_getElem?_getD, Array.getElem?_toList]
      rw [Array.getElem?_append_left h1]
    have hinit : Inv c w.heap.size (fun b => ow b ≠ none) w F F (fun b => (ow b).map fun i => (i, 0)) { tmps := args ++ Array.replicate (fn.ntmps - args.size) undef, defers := [] } w (padTo fn.ntmps ds) := by
      refine ⟨by simp; omega, by rw [padTo_len, hlenK], rfl, fun s => ?_, fun b hb => ⟨(hF b hb).1, by simp [(hF b hb).2]⟩, fun b p hp => ?_, fun _ h => h, fun _ h => .inl h, Nat.le_refl _, rfl, rfl, rfl, fun _ _ _ => rfl, hgl⟩
      · unfold SlotOk
        rw [padTo_nth _ _ _ (by rw [hdl]; omega)]
        by_cases hs : s < pm.length
        · rw [hpn s hs, hav s hs]
          rcases hargs s hs with hbad | harg
          · exact .inl hbad
          refine .inr ?_
          have hlv : ∀ lv, lv ≠ 1 → ∀ b, FB F 0 lv b → FB F w.heap.size lv b := fun lv h1 b hb => by
            match lv, h1 with
            | 0, _ => exact hb
            | _ + 2, _ => exact hb
          rcases okPm_at hpm s hs with ⟨lv, hk, h1⟩ | ⟨z, lv, hk, h1⟩ | ⟨n, lv, hk, h1⟩
          · rw [hk] at harg ⊢
            exact .inr (RepV_mono (hlv lv h1) (fun _ _ => rfl) harg)
          · rw [hk] at harg ⊢
            exact .inr (OwnV_mono' (hlv lv h1) (fun _ _ => rfl) (fun g _ hg => ⟨⟨by simp only [Nat.zero_add] at hg; simp [hg], fun h => by cases h⟩, rfl⟩) harg)
          · rw [hk] at harg ⊢
            exact .inr (BoxV_mono' (hlv lv h1) (fun _ _ => rfl) (fun g _ hg => ⟨⟨by simp only [Nat.zero_add] at hg; simp [hg], fun h => by cases h⟩, rfl⟩) harg)
        · refine .inl ?_
          rw [nth_eq, List.getD_eq_getElem?_getD, List.getElem?_eq_none (by omega)]
          rfl
      · obtain ⟨i, hi, rfl⟩ := Option.map_eq_some_iff.1 hp
        exact ⟨hO b i hi, .inr (by rw [hi]; simp)⟩
    refine denQ_sound hT hS hm b 0 hcode F _ _ w _ hinit (V := av { tmps := args ++ Array.replicate (fn.ntmps - args.size) undef, defers := [] }) (fun _ _ => rfl) _ _ hd _ (fun e a' w' hp => ?_)
    have fin : NextV c w.heap.size (fun b => ow b ≠ none) w F (av { tmps := args ++ Array.replicate (fn.ntmps - args.size) undef, defers := [] }) (fun δ => retK c δ some) (.ret rs us) a' w' → a'.defers = [] ∧ ∃ v, (results fn a'.tmps).run P w' = .ok v w' ∧ ∃ v', Ending.returned v = .returned v' ∧ ∃ F' R' vs, v' = resV vs ∧ CallPost { pm := pm, rm := rm, f := denFQ c Z fn } args rs us w F ow F' R' vs w' := by
      rintro ⟨⟨F', O', δ', hI', hk⟩, hV'⟩
      obtain ⟨rs', h1, h2, h3⟩ := retK_is hk
      simp only [Option.some.injEq, Out.ret.injEq] at h3
      obtain ⟨rfl, rfl⟩ := h3
      obtain ⟨vs, g1, g2, g3, g4⟩ := res_run (P := P) hT hI' c.res rm rs' hokr h1
      refine ⟨hI'.df, resV vs, ?_, _, rfl, F', fun b => if w.heap.size ≤ b then (match O' b with
        | some (t, 0) => resIx c.res t 0
        | _ => none) else none, vs, rfl, ?_⟩
      · have hrun : (fn.results.mapM (getRes a'.tmps)).run P w' = .ok vs.toArray w' := by
          rw [Array.mapM_eq_mapM_toList, ← hres]
          simp [g1]
        have hrw : results fn a'.tmps = (do
            let vs ← fn.results.mapM (getRes a'.tmps)
            pure (if h : vs.size = 1 then vs[0] else .tuple vs)) := by
          unfold results
          congr 1
        rw [hrw]
        simp only [Sem.run_bind, hrun, Result.andThen_ok, Sem.run_pure]
        congr 1
        rcases vs with _ | ⟨y, _ | ⟨y', vs⟩⟩
        · simp [resV]
        · simp [resV]
        · simp [resV]
      · refine ⟨hI'.os, hI'.tape, hI'.output, hI'.bb, fun b hb ho => hI'.keep b hb (by simp [ho]), hI'.f0, fun b hb => ⟨hI'.fn b hb, (hI'.fl b hb).1, by simp only [(hI'.fl b hb).2]; split <;> rfl⟩, fun b j hj => ?_, g2, g3, fun j => ?_, ?_⟩
        · split at hj
          case isFalse => cases hj
          rename_i hB
          refine ⟨hB, ?_⟩
          split at hj
          · rename_i t he; exact (hI'.ol b _ he).1
          · cases hj
        · refine ResOk_mono (fun hk g hg => ?_) (g4 j)
          obtain ⟨z, lv, hk⟩ := hk
          obtain ⟨e1, t, e2, e3⟩ := hg
          rw [if_pos e1]
          simp only [e3]
          have := (resIx_own c.res rm hokr j t 0 z lv hk e2).1
          simpa using this
        · rw [hios]
          refine UsOk_of pm args.toList 0 hal (fun j hj hio => ?_)
          rw [Nat.zero_add]
          have hkj := hpn j hj
          have hbj : nth δ' j ≠ .bad := by
            refine h2 _ ?_
            rw [hios, getAll_map]
            exact List.mem_map_of_mem (by simpa using ioIdx_mem pm 0 j hj hio)
          have havj : av a' j = args.toList.getD j undef := (hV' j (by rw [hkj]; exact hio)).trans (hav j hj)
          have hlv : ∀ lv, lv ≠ 1 → ∀ b, FB F' w.heap.size lv b → FB F' 0 lv b := fun lv h1 b hb => by
            match lv, h1 with
            | 0, _ => exact hb
            | _ + 2, _ => exact hb
          refine ⟨hbj, .inr ?_⟩
          rcases okPm_at hpm j hj with ⟨lv, hk, h1⟩ | ⟨z, lv, hk, h1⟩ | ⟨n, lv, hk, h1⟩
          · rw [hk] at hio; cases hio
          · have h5 := hI'.own (hkj.trans hk) hbj
            rw [havj] at h5
            rw [hk]
            exact OwnV_mono' (hlv lv h1) (fun _ _ => rfl) (fun _ _ _ => ⟨trivial, rfl⟩) h5
          · have h5 := hI'.box (hkj.trans hk) hbj
            rw [havj] at h5
            rw [hk]
            exact BoxV_mono' (hlv lv h1) (fun _ _ => rfl) (fun _ _ _ => ⟨trivial, rfl⟩) h5
    cases e with
    | normal => exact fin hp
    | exit i =>
      obtain ⟨⟨_, _, _, _, h⟩, _⟩ := hp
      cases h
    | ret =>
      refine fin (NextV_mono hp fun δ F O _ h => ?_)
      obtain ⟨rs', h1, h2, h3⟩ := retK_is h
      exact retK_of h1 h2 h3
    | _ => exact hp.elim

theorem meets_ofQ (hT : okT P c.T = true) (hS : ∀ f S, look c.S f = some S → Meets c.G P f S) (hm : P.follows .mixedOrders = true) {Z : List (Nat × List Nat)} {f : FuncId} {fn : Func} (hf : P.funcs[f]? = some fn) (hname : (fn.name == "runtime.NumGoroutine") = false) {pm rm : List Kd} (hok : okFnQ c Z fn pm rm = true) (hres : c.res = fn.results.toList) :
    Meets c.G P f { pm := pm, rm := rm, f := denFQ c Z fn } := by
  intro ds rs us hd args w F ow hgl ha hF hO o a next Q hn
  have hbody : ∃ b, fn.body = some b := by
    have hd' : denFQ c Z fn ds = some (.ret rs us) := hd
    unfold denFQ at hd'
    cases hb : fn.body with
    | none => rw [hb] at hd'; cases hd'
    | some b => exact ⟨b, rfl⟩
  obtain ⟨b, hb⟩ := hbody
  have hrun : (callFunc f args).run P w = .ok (.enter f args) w := by
    have h1 : ¬ fn.name = "runtime.NumGoroutine" := by simpa using hname
    simp [callFunc, hf, h1, hb]
  rw [hrun, Oper.upon_enter]
  refine Calls.mono (fn_callsQ hT hS hm hf hok hres hd hgl ha hF hO) (fun e w' he => ?_)
  obtain ⟨v, rfl, F', R', vs, h1, h2⟩ := he
  exact hn v w' ⟨F', R', vs, h1, h2⟩


end
end Go.V
/-
  Contexts and contracts of functions, printed by gen.py.
-/
namespace Go.Proofs.Ytaphcpfkgpaefaa
open Go.V
set_option maxRecDepth 100000
@[reducible] def ty4 : TI := { n := 1, zero := [.v (.bool false)], bl := true }
/-- loop.example/g01054/laws.FnExactLeastLateness -/
@[reducible] noncomputable def c_laws_FnExactLeastLateness : Cx := { K := [.dat 2, .no, .dat 0, .dat 0, .dat 2, .dat 0, .dat 0, .via 30, .via 34, .dat 0, .dat 0, .dat 0, .dat 0, .dat 0, .dat 1, .dat 0, .dat 0, .dat 2, .dat 0, .dat 0, .dat 0, .dat 0, .tup [.dat 2, .dat 0, .dat 0], .dat 2, .dat 1, .tup [.dat 2, .dat 0, .dat 0], .dat 2, .dat 0, .dat 0, .dat 2, .own 4 0 false, .tup [.own 1 0 false, .dat 0, .dat 0], .via 30, .tup [.own 1 0 false, .dat 0, .dat 0], .own 1 0 false, .dat 0, .dat 0, .via 34, .dat 2, .dat 0, .dat 0, .dat 0, .dat 0, .dat 0, .dat 0, .dat 0, .dat 0, .dat 0, .dat 0, .dat 0, .dat 0, .via 30, .dat 2, .dat 1, .dat 0, .dat 0, .via 30, .dat 0, .dat 0, .dat 0, .dat 0, .dat 0, .via 34, .dat 2, .dat 0, .dat 0, .dat 0, .dat 0, .dat 0, .dat 0, .dat 0, .dat 0, .dat 0, .dat 0, .dat 0, .dat 0, .dat 0, .via 34, .dat 0, .dat 0, .via 34, .dat 0, .dat 0, .dat 0, .dat 0, .dat 0, .dat 0, .dat 0, .tup [.own 1 0 false, .dat 0, .dat 0], .dat 2, .dat 1, .tup [.own 1 0 false, .dat 0, .dat 0], .dat 1, .dat 0, .dat 0, .dat 1, .dat 2, .dat 0, .dat 0, .dat 0, .dat 0, .dat 0, .dat 0, .dat 0, .dat 0, .dat 0, .dat 0, .dat 0, .dat 0, .via 34, .dat 0, .dat 0, .dat 0, .dat 0, .dat 0, .dat 0, .dat 0], T := [(3, ty3), (4, ty4)], S := [(5, S_laws_szOrderS), (6, S_spec_LeastLateness), (7, S_laws_toOrderS), (8, S_impl_LeastLateness), (9, S_laws_eqIntS), (10, S_laws_eqOrderS), (11, S_laws_markOrderS), (12, S_laws_markIntS), (13, S_laws_heldIntS)], H := [], res := [.tmp 2], ios := [], G := gl0 }
noncomputable def F_laws_FnExactLeastLateness : List D → Option Out := denF c_laws_FnExactLeastLateness Try.f3
@[reducible] noncomputable def S_laws_FnExactLeastLateness : FS := { pm := [.dat 2], rm := [.dat 0], f := F_laws_FnExactLeastLateness }
theorem M_laws_FnExactLeastLateness : Meets gl0 Try.prog 3 S_laws_FnExactLeastLateness := meets_of (P := Try.prog) (c := c_laws_FnExactLeastLateness) (fn := Try.f3) (pm := S_laws_FnExactLeastLateness.pm) (rm := S_laws_FnExactLeastLateness.rm) (by kernel_rfl) (lookCons M_laws_szOrderS (lookCons M_spec_LeastLateness (lookCons M_laws_toOrderS (lookCons M_impl_LeastLateness (lookCons M_laws_eqIntS (lookCons M_laws_eqOrderS (lookCons M_laws_markOrderS (lookCons M_laws_markIntS (lookCons M_laws_heldIntS lookNil))))))))) follows_mixed Try.func3 (by kernel_rfl) (by kernel_rfl) rfl
end Go.Proofs.Ytaphcpfkgpaefaa
/-
  What the functions compute: their evaluated texts, printed.
-/
namespace Go.Proofs.Ytaphcpfkgpaefaa
open Go Go.V
theorem t_laws_FnExactLeastLateness (x0 : D) : F_laws_FnExactLeastLateness [x0] =
  (callK (F_laws_szOrderS [x0, D.v (Value.int IntKind.i64 1048576)]) fun rs _u => (bin BinOp.lss false [] (sl rs 0) (D.v (Value.int IntKind.i64 0))).bind fun z => ifD z (some (Out.ret [D.v (Value.bool true)] []))
 (callK (F_laws_toOrderS [x0]) fun rs _u => callK (F_spec_LeastLateness [sl rs 0]) fun rs _u => (tupAt (D.tup rs) 0).bind fun z => (tupAt (D.tup rs) 1).bind fun z_1 => (tupAt (D.tup rs) 2).bind fun z_2 =>
 callK (F_laws_toOrderS [x0]) fun rs _u => (liveD (sl rs 0) (D.ref 0 0)).bind fun z_3 => (liveD z_3 (D.ref 0 0)).bind fun z_4 => (liveD z_4 (sl rs 0)).bind fun i => callK (fLst [i]) fun rs_1 _u =>
 (tupAt (D.tup rs_1) 0).bind fun y => (tupAt (tupCut (D.tup rs_1) 0) 1).bind fun z_5 => (tupAt (tupCut (D.tup rs_1) 0) 2).bind fun z_6 => (liveD y (D.ref 0 0)).bind fun z_7 => (liveD z_7 (D.ref 0 0)).bind fun z_8 =>
 (liveD z_8 y).bind fun i => callK (F_laws_eqIntS [i, z]) fun rs_2 _u => (un UnOp.not (sl rs_2 0)).bind fun z_9 => (gate (D.tup []) z_9 false (some z_5)).bind fun z_10 =>
 (gate (D.tup []) z_9 false (some z_1)).bind fun z_11 => (gate (D.tup []) z_9 false (bin BinOp.neq false [] z_10 z_11)).bind fun z_12 => (pickD z_9 (D.v (Value.bool true)) z_12).bind fun z_13 =>
 (gate (D.tup []) z_13 false (some z_6)).bind fun z_14 => (gate (D.tup []) z_13 false (some z_2)).bind fun z_15 => (gate (D.tup []) z_13 false (bin BinOp.neq true [] z_14 z_15)).bind fun z_16 =>
 (pickD z_13 (D.v (Value.bool true)) z_16).bind fun z_17 => ifD z_17 (some (Out.ret [D.v (Value.bool false)] [])) ((liveD z_3 (D.ref 0 0)).bind fun z_18 => callK (F_laws_toOrderS [x0]) fun rs_3 _u =>
 (liveD z_18 (sl rs 0)).bind fun i => callK (F_laws_eqOrderS [i, sl rs_3 0]) fun rs_4 _u => (un UnOp.not (sl rs_4 0)).bind fun z_19 => ifD z_19 (some (Out.ret [D.v (Value.bool false)] []))
 ((liveD z_3 (D.ref 0 0)).bind fun z_20 => (ref0 z_20 (sl rs 0)).bind fun i => (liveD i i).bind fun i => callK (F_laws_markOrderS [i, D.v (Value.int IntKind.i64 1)]) fun rs _u => (bin BinOp.lss false [] (sl rs 0) (D.v
 (Value.int IntKind.i64 0))).bind fun z_21 => (gate D.bad z_21 false (liveD z_7 (D.ref 0 0))).bind fun z_22 => (gate (D.tup []) z_21 false (some z)).bind fun z_23 => gateC z_21 false ((liveD z_22 y).bind fun i => callK
 (F_laws_eqIntS [i, z_23]) fun rs _u => some (Out.nrm [sl rs 0])) [D.tup []] fun outs => (gate (D.tup []) z_21 false (un UnOp.not (sl outs 0))).bind fun z_24 => (pickD z_21 (D.v (Value.bool true)) z_24).bind fun z_25 =>
 (gate (D.tup []) z_25 false (some z_5)).bind fun z_26 => (gate (D.tup []) z_25 false (some z_1)).bind fun z_27 => (gate (D.tup []) z_25 false (bin BinOp.neq false [] z_26 z_27)).bind fun z_28 => (pickD z_25 (D.v
 (Value.bool true)) z_28).bind fun z_29 => (gate (D.tup []) z_29 false (some z_6)).bind fun z_30 => (gate (D.tup []) z_29 false (some z_2)).bind fun z_31 => (gate (D.tup []) z_29 false (bin BinOp.neq true [] z_30
 z_31)).bind fun z_32 => (pickD z_29 (D.v (Value.bool true)) z_32).bind fun z_33 => ifD z_33 (some (Out.ret [D.v (Value.bool false)] [])) ((liveD z_7 (D.ref 0 0)).bind fun z_34 => (ref0 z_34 y).bind fun i => (liveD i
 i).bind fun i => callK (F_laws_markIntS [i, D.v (Value.int IntKind.i64 1)]) fun rs us => (liveD z_7 (D.ref 0 0)).bind fun z_35 => (liveD z_35 (sl us 0)).bind fun i => callK (F_laws_heldIntS [i, D.v (Value.int IntKind.i64
 1)]) fun rs_5 _u => (bin BinOp.lss false [] (sl rs_5 0) (D.v (Value.int IntKind.i64 0))).bind fun z_36 => ifD z_36 (some (Out.ret [D.v (Value.bool false)] [])) ((bin BinOp.neq false [] (sl rs_5 0) (sl rs 0)).bind fun
 z_37 => ifD z_37 (some (Out.ret [D.v (Value.bool false)] [])) (callK (F_laws_toOrderS [x0]) fun rs_6 _u => callK (fLst [sl rs_6 0]) fun rs_7 _u => (tupAt (D.tup rs_7) 0).bind fun y => (tupAt (tupCut (D.tup rs_7) 0)
 1).bind fun z_38 => (tupAt (tupCut (D.tup rs_7) 0) 2).bind fun z_39 => callK (F_laws_eqIntS [y, z]) fun rs_8 _u => (un UnOp.not (sl rs_8 0)).bind fun z => (gate (D.tup []) z false (some z_38)).bind fun z_40 => (gate
 (D.tup []) z false (some z_1)).bind fun z_41 => (gate (D.tup []) z false (bin BinOp.neq false [] z_40 z_41)).bind fun z_42 => (pickD z (D.v (Value.bool true)) z_42).bind fun z => (gate (D.tup []) z false (some z_39)).bind
 fun z_43 => (gate (D.tup []) z false (some z_2)).bind fun z_44 => (gate (D.tup []) z false (bin BinOp.neq true [] z_43 z_44)).bind fun z_45 => (pickD z (D.v (Value.bool true)) z_45).bind fun z => ifD z (some (Out.ret [D.v
 (Value.bool false)] [])) ((liveD z_7 (D.ref 0 0)).bind fun z => (liveD z (sl us 0)).bind fun i => callK (F_laws_heldIntS [i, D.v (Value.int IntKind.i64 1)]) fun rs_9 _u => (bin BinOp.lss false [] (sl rs_9 0) (D.v
 (Value.int IntKind.i64 0))).bind fun z => ifD z (some (Out.ret [D.v (Value.bool false)] [])) ((bin BinOp.neq false [] (sl rs_9 0) (sl rs 0)).bind fun z => ifD z (some (Out.ret [D.v (Value.bool false)] [])) (some (Out.ret
 [D.v (Value.bool true)] []))))))))))) := by kernel_rfl
end Go.Proofs.Ytaphcpfkgpaefaa
/-
  Both sides say the same of the least greatest lateness.
-/
namespace Go.Proofs.Ytaphcpfkgpaefaa
open Go Go.V
set_option linter.unusedSimpArgs false

theorem lstW_is (l : List Od) : lstW l = D.arr 0 [] ∨ lstW l = ints (lstR l) := by
  unfold lstW
  split
  · exact .inl rfl
  · exact .inr rfl
theorem e_fLst (l : List Od) (hl : l.length ≤ 1048576) : fLst [ods l] = some (.ret [ints (lstR l), I (lstM l), B (goodO l)] []) := by
  simp [fLst, odsOf_map, hl]
theorem eq_lstW (l : List Od) (h : (lstR l).length ≤ 1048577) : F_laws_eqIntS [ints (lstR l), lstW l] = some (.ret [B true] []) := by
  unfold lstW
  split
  · rename_i h0
    obtain ⟨hg, rfl⟩ := h0
    have e : lstR [] = [] := by simp [lstR, hg, firstS]
    rw [e, t_laws_eqIntS]
    simp only [lenD_arr, List.length_map, Option.bind_some, bin_neq, decide_true, Bool.not_true, ifD_B, Bool.false_eq_true, if_false]
    refine loop_bind _ (loop_for 0 (fun i => [ints [], D.arr 0 [], I i]) (.ext 0 []) (fun i hi => absurd hi (Nat.not_lt_zero _)) ?_ rfl rfl) ?_
    · simp
    · simp
  · exact e_laws_eqIntS _ h
theorem law_LeastLateness (l : List Od) (_h : l.length ≤ 9223372036854775807) : F_laws_FnExactLeastLateness [ods l] = some (.ret [B true] []) := by
  rw [t_laws_FnExactLeastLateness]
  obtain ⟨m, h1, h2⟩ := e_laws_szOrderS l 1048576
  by_cases hm : m < 0
  · simp -implicitDefEqProofs [h1, hm]
  have h3 := h2 (by omega)
  rw [wrap_id (by omega) (by omega)] at h3
  have hl : l.length ≤ 1048576 := by omega
  have hn : (lstR l).length ≤ 100 := by
    cases hgd : goodO l
    · simp [lstR, hgd]
    · exact lstR_len l (by have := (goodO_all hgd).2; omega)
  have k1 := e_laws_markOrderS l 1 (by omega) (by omega) (by omega)
  have k3 := e_laws_markIntS (lstR l) 1 (by omega) (by omega) (by omega)
  have k4 := e_laws_heldIntS 1 (lstR l).length (by omega) (by omega) (by omega)
  have p1 : ¬ (1 + 4 * (l.length : Int) < 0) := by omega
  have p2 : ¬ (1 + ((lstR l).length : Int) < 0) := by omega
  have hs := e_spec_LeastLateness l hl
  have he := eq_lstW l (by omega)
  rcases lstW_is l with e | e <;> rw [e] at hs he <;> simp -implicitDefEqProofs [h1, hm, e_laws_toOrderS l hl, hs, e_fLst l hl, e_laws_eqOrderS l (by omega), he, k1, k3, k4, p1, p2]
end Go.Proofs.Ytaphcpfkgpaefaa
