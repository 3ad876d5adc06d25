/-
  sort.SliceStable at few elements, whose less may lay new blocks: the library's walk at this seat.
-/
import Derived.Test.YtecaabmaoaacnaaGreatDoorRows
import Derived.Test.YtecaabmaoaacnaaGreatDoorTie
import Derived.Test.YtecaabmaoaacnaaGreatDoorCards
import Derived.Test.YtecaabmaoaacnaaGreatDoorM4
import Derived.Deep.QuietTactic
import Derived.BigCall
import Derived.BigQuiet
import Derived.WalkKit
import Derived.Maps.OwnSet
import Derived.Shelf.Abstract
namespace Go.Proofs.YtecaabmaoaacnaaGreatDoor
open Go Go.Proofs Go.Shelf Go.RowKit Go.Lib Go.Sort
set_option linter.unusedSimpArgs false

section
variable {P : Program} {α : Type} [Inhabited α] {enc : α → Value} {w0 w1 W : World} {blk off : Nat} {d dk : Array α}
theorem sw_over (h : SW enc w0 blk off d w1) (hblk : blk < w0.heap.size) (h2 : SW enc w1 blk off dk W) (hs : dk.size = d.size) : SW enc w0 blk off dk W := by
  obtain ⟨m, os, rfl⟩ := h2
  exact h.on hblk m dk os hs
theorem sw_cell (h : SW enc w0 blk off dk W) {a : Addr} (hb : a.block ≠ blk) (hl : a.block < w0.heap.size) : W.cell? a = w0.cell? a := by
  obtain ⟨n, os, rfl⟩ := h
  unfold sortWorld
  rw [cell?_grow _ _ _ (by rw [size_putRow]; exact hl), cell?_putRow_other enc _ blk off dk _ (Or.inl hb)]
  rfl
theorem sw_grow (h : SW enc w0 blk off dk W) (q : Nat) (os : Array Obj) : SW enc w0 blk off dk (grow (W.drewN q) os) := by
  obtain ⟨n, os', h⟩ := h.drewN q
  rw [h]
  exact ⟨n, os' ++ os, by unfold sortWorld; rw [grow_grow]⟩
/-- A less that may lay new blocks and draw. -/
def Less2 (P : Program) (g : Nat) (lb : Array Value) (enc : α → Value) (lt : α → α → Bool) (blk off size : Nat) (w0 : World) : Prop :=
  ∀ (dk : Array α) (W : World), dk.size = size → SW enc w0 blk off dk W → ∀ i j : Nat, i < size → j < size →
    Calls P g (#[.int .i64 i, .int .i64 j] ++ lb) W fun e w' => e = .returned (.bool (lt dk[i]! dk[j]!)) ∧ ∃ q os, w' = grow (W.drewN q) os
end

set_option maxHeartbeats 2000000 in
set_option maxRecDepth 100000 in
theorem ins_walk {α : Type} [Inhabited α] (enc : α → Value) (lt : α → α → Bool) (g : Nat) (lb : Array Value) (sf : Nat) (sb : Array Value) (blk off : Nat) (d : Array α) (w00 w : World) (h00 : SW enc w00 blk off d w) (hblk0 : blk < w00.heap.size)
    (eg : ∀ args w, (callFunc g args).run Tryz.prog w = .ok (.enter g args) w) (hless : Less2 Tryz.prog g lb enc lt blk off d.size w00) (hswap : SwapSwaps Tryz.prog sf sb enc blk off d.size)
    (hH : Holds enc w blk off d) (hsz : d.size < 1000) :
    Calls Tryz.prog 72 #[.agg #[.func (.func g) #[] lb, .func (.func sf) #[] sb], .int .i64 0, .int .i64 d.size] w fun e w' =>
      e = .returned (.tuple #[]) ∧ SW enc w00 blk off (Sort.insertionSort lt d 0 d.size) w' := by
  have hblk : blk < w.heap.size := h00.lt hblk0
  have hw1 : SW enc w blk off d (w.alloc (.cells #[.func (.func g) #[] lb, .func (.func sf) #[] sb] 92)) := (SW.start hH).alloc _
  have hw0 := h00.alloc (.cells #[.func (.func g) #[] lb, .func (.func sf) #[] sb] 92)
  have k0 : (w.alloc (.cells #[.func (.func g) #[] lb, .func (.func sf) #[] sb] 92)).cell? ⟨w.heap.size, 0, none⟩ = some (.func (.func g) #[] lb) := by simp
  have k1 : (w.alloc (.cells #[.func (.func g) #[] lb, .func (.func sf) #[] sb] 92)).cell? ⟨w.heap.size, 1, none⟩ = some (.func (.func sf) #[] sb) := by simp
  have hl1 : w.heap.size < (w.alloc (.cells #[.func (.func g) #[] lb, .func (.func sf) #[] sb] 92)).heap.size := by rw [alloc_eq_grow, size_grow]; simp
  have hH1 := hw1.holds hblk hH rfl
  go_enter Tryz.func72, Tryz.ntmps72
  go_wp2
  generalize w.alloc (.cells #[.func (.func g) #[] lb, .func (.func sf) #[] sb] 92) = W1 at *
  have hb1 : blk < W1.heap.size := Nat.lt_trans hblk hl1
  have start1 : SW enc W1 blk off d W1 := SW.start hH1
  have kk0 : ∀ dk wr, SW enc W1 blk off dk wr → wr.cell? ⟨w.heap.size, 0, none⟩ = some (.func (.func g) #[] lb) := fun dk wr h => (sw_cell h (show w.heap.size ≠ blk by omega) hl1).trans k0
  have kk1 : ∀ dk wr, SW enc W1 blk off dk wr → wr.cell? ⟨w.heap.size, 1, none⟩ = some (.func (.func sf) #[] sb) := fun dk wr h => (sw_cell h (show w.heap.size ≠ blk by omega) hl1).trans k1
  have hold : ∀ dk wr, dk.size = d.size → SW enc W1 blk off dk wr → Holds enc wr blk off dk := fun dk wr hs h => h.holds hb1 hH1 hs
  have toW : ∀ dk wr, dk.size = d.size → SW enc W1 blk off dk wr → SW enc w00 blk off dk wr := fun dk wr hs h => sw_over hw0 hblk0 h hs
  clear k0 k1 hH hH1 hw0 hw1 h00
  go_loopw [6] (fun vi wr => ∃ (i : Nat) (dk : Array α), vi = .int .i64 i ∧ 0 < i ∧ i ≤ d.size + 1 ∧ dk.size = d.size ∧ SW enc W1 blk off dk wr ∧
      insOuter lt 0 d.size i dk = insOuter lt 0 d.size 1 d) (fun vi _ => d.size + 1 - (intOf vi).toNat)
  case atStart => exact ⟨1, d, by rfl, by omega, by omega, rfl, start1, rfl⟩
  case round =>
    obtain ⟨i, dk, rfl, hai, hib, hsk, hwr, hO⟩ := hrel
    have HO : Hid (insOuter lt 0 d.size i dk = insOuter lt 0 d.size 1 d) := hO
    clear hO
    go_wp2
    · -- i < b: the inner loop
      go_loopw [7] (fun vj wr2 => ∃ (j : Nat) (dj : Array α), vj = .int .i64 j ∧ j ≤ i ∧ dj.size = d.size ∧ SW enc W1 blk off dj wr2 ∧
          insInner lt 0 j dj = insInner lt 0 i dk) (fun vj _ => (intOf vj).toNat)
      case atStart => exact ⟨i, dk, rfl, Nat.le_refl _, hsk, hwr, rfl⟩
      case round =>
        obtain ⟨j, dj, rfl, hji, hsj, hw2, hI⟩ := hrel
        have hlt : i < d.size := by assumption
        have c0 := kk0 dj _ hw2
        have c1 := kk1 dj _ hw2
        have HW : Hid (SW enc W1 blk off dj wr) := hw2
        have HI : Hid (insInner lt 0 j dj = insInner lt 0 i dk) := hI
        clear hw2 hI hwr
        have out : (j ≤ 0 ∨ lt dj[j]! dj[j - 1]! = false) → ∀ wx, SW enc W1 blk off dj wx → ∃ (i' : Nat) (dk' : Array α), Value.int .i64 ((i : Int) + 1) = .int .i64 (i' : Nat) ∧ 0 < i' ∧ i' ≤ d.size + 1 ∧ dk'.size = d.size ∧
            SW enc W1 blk off dk' wx ∧ insOuter lt 0 d.size i' dk' = insOuter lt 0 d.size 1 d := fun hs wx hx =>
          ⟨i + 1, dj, congrArg (Value.int .i64) (by omega), by omega, by omega, hsj, hx,
            by rw [← HO.out, insOuter_go _ _ _ _ _ hlt, ← HI.out, insInner_stop _ _ _ _ hs]⟩
        have OUT : Hid _ := out
        clear out
        by_cases hja : 0 < j
        · have hl := hless dj wr hsj (toW dj wr hsj HW.out) j (j - 1) (by omega) (by omega)
          rw [show (((j - 1 : Nat) : Int)) = (j : Int) - 1 by omega] at hl
          replace hl := hl.mono (R' := fun e w' => e = .returned (.bool (lt dj[j]! dj[j - 1]!)) ∧ SW enc W1 blk off dj w') (fun e w' h => ⟨h.1, by obtain ⟨_, q, os, hx⟩ := h; rw [hx]; exact sw_grow HW.out q os⟩)
          cases hlv : lt dj[j]! dj[j - 1]! with
          | true =>
            rw [hlv] at hl
            go_wp2_with (go_at_fn g; refine hl.mono ?_; rintro e w' ⟨rfl, hx'⟩; have c1' := kk1 dj _ hx')
            have hs := hswap w' dj (hold dj w' hsj hx') hsj j (j - 1) (by omega) (by omega)
            rw [show (((j - 1 : Nat) : Int)) = (j : Int) - 1 by omega] at hs
            rw [hs, Oper.upon_value]
            go_wp2
            go_roundw
            case rel =>
              (repeat apply Exists.intro)
              refine ⟨⟨j - 1, swp dj j (j - 1), by congr 1 <;> omega, by omega, by rw [size_swp]; exact hsj, ?_, ?_⟩, by rw [decide_eq_true hlt, show ((j - 1 : Nat) : Int) = (j : Int) - 1 by omega]⟩
              · exact hx'.swap hb1 j (j - 1) (by omega) (by omega)
              · rw [← HI.out, insInner_go lt 0 j dj hja hlv]
            case measure => simp [intOf]; omega
          | false =>
            rw [hlv] at hl
            go_wp2_with (go_at_fn g; refine hl.mono ?_; rintro e w' ⟨rfl, hx'⟩)
            go_roundw
            case rel => exact OUT.out (Or.inr hlv) _ hx'
            case measure => simp [intOf]; omega
        · go_wp2
          go_roundw
          case rel => exact OUT.out (Or.inl (by omega)) _ HW.out
          case measure => simp [intOf]; omega
    · -- the outer loop is at its end
      have hge : ¬ i < d.size := by assumption
      go_end0
      exact ⟨rfl, by unfold Sort.insertionSort; rw [← HO.out, insOuter_stop _ _ _ _ _ hge]; exact toW _ _ hsk hwr⟩

set_option maxHeartbeats 2000000 in
set_option maxRecDepth 1000000 in
theorem stable_walk {α : Type} [Inhabited α] (enc : α → Value) (lt : α → α → Bool) (g : Nat) (lb : Array Value) (sf : Nat) (sb : Array Value) (blk off : Nat) (d : Array α) (w00 w : World) (h00 : SW enc w00 blk off d w) (hblk0 : blk < w00.heap.size)
    (eg : ∀ args w, (callFunc g args).run Tryz.prog w = .ok (.enter g args) w) (hless : Less2 Tryz.prog g lb enc lt blk off d.size w00) (hswap : SwapSwaps Tryz.prog sf sb enc blk off d.size)
    (hH : Holds enc w blk off d) (hsz : d.size < 20) :
    Calls Tryz.prog 58 #[.agg #[.func (.func g) #[] lb, .func (.func sf) #[] sb], .int .i64 d.size] w fun e w' =>
      e = .returned (.tuple #[]) ∧ SW enc w00 blk off (Sort.insertionSort lt d 0 d.size) w' := by
  have hc := ins_walk enc lt g lb sf sb blk off d w00 _ (h00.alloc (.cells #[.func (.func g) #[] lb, .func (.func sf) #[] sb] 92)) hblk0 eg hless hswap (by rw [alloc_eq_grow]; exact holds_grow enc w _ blk off d (h00.lt hblk0) hH) (by omega)
  clear hless hswap hH h00
  go_enter Tryz.func58, Tryz.ntmps58
  go_wp2
  refine wp_loop_rounds 1 ?_
  rw [rounds_succ]
  go_wp2_with (go_at_call 72; refine hc.mono ?_; rintro e w1 ⟨rfl, h1⟩)
  refine wp_loop_rounds 1 ?_
  rw [rounds_succ]
  go_wp2
  all_goals first | (exfalso; omega) | (go_end0; exact ⟨rfl, h1⟩)

noncomputable def siT : TypeInfo := (Tryz.prog.info? 24).get (by kernel_rfl)
noncomputable def siE : TypeInfo := (Tryz.prog.info? 3).get (by kernel_rfl)
theorem siK (n : Nat) (h2 : 2 ≤ n) : Lib.swapperK n siE 2 = 5 := by
  have a : siE.hasPointers = false := by kernel_rfl
  have b : siE.bytes = 8 := by kernel_rfl
  have c : (n == 0) = false := by simp; omega
  have d : (n == 1) = false := by simp; omega
  simp [Lib.swapperK, a, b, c, d]

set_option maxRecDepth 1000000 in
theorem slice_walk {α : Type} [Inhabited α] (enc : α → Value) (h1 : ∀ x, (enc x).oneCell' = true) (lt : α → α → Bool) (g : Nat) (lb : Array Value) (blk off c : Nat) (d : Array α) (w : World) (hblk : blk < w.heap.size)
    (eg : ∀ args w, (callFunc g args).run Tryz.prog w = .ok (.enter g args) w) (hless : Less2 Tryz.prog g lb enc lt blk off d.size w)
    (hH : Holds enc w blk off d) (h2 : 2 ≤ d.size) (hsz : d.size < 20) :
    Calls Tryz.prog 47 #[.iface 24 (.slice (some ⟨blk, off, none⟩) d.size c), .func (.func g) #[] lb] w fun e w' =>
      e = .returned (.tuple #[]) ∧ SW enc w blk off (Sort.insertionSort lt d 0 d.size) w' := by
  refine Any.sort_SliceStable_of_stable Tryz.laysGt8 24 3 siT siE (by kernel_rfl) (by kernel_rfl) (by kernel_rfl) (by kernel_rfl) 2 (fun _ => by kernel_rfl) (some ⟨blk, off, none⟩) d.size c (by omega) 67 (by rw [siK _ h2]; kernel_rfl) (.func g) #[] lb w _ ?_
  have hB : sliceBound Tryz.prog 3 siE 2 (some ⟨blk, off, none⟩) d.size c = #[.slice (some ⟨blk, off, none⟩) d.size c, typeHandle Tryz.prog 3] := by
    unfold sliceBound; rw [if_neg (swapperK_gt _ _ _ h2)]
  rw [hB]
  have h00 : SW enc w blk off d (stableWorld Tryz.prog Tryz.laysGt8_ren 24 (some ⟨blk, off, none⟩) d.size c w) := ((SW.start hH).alloc _).alloc _
  exact stable_walk enc lt g lb 67 _ blk off d w _ h00 hblk eg hless
    (swapSwaps_of_literal true _ (fun args W => run_callFunc_extern Tryz.func67 (by kernel_rfl) (by kernel_rfl) (by kernel_rfl) (e := Extern.ReflectliteSwapper.swap true) (by kernel_rfl) args W) 3 siE (by kernel_rfl) (by kernel_rfl) (fun _ => by kernel_rfl) enc h1 blk off d.size c)
    (h00.holds hblk hH rfl) hsz

set_option maxRecDepth 1000000 in
theorem slice_tiny (g : Nat) (lb : Array Value) (p : Option Addr) (n c : Nat) (hn : n ≤ 1) (w : World) :
    Calls Tryz.prog 47 #[.iface 24 (.slice p n c), .func (.func g) #[] lb] w fun e w' => e = .returned (.tuple #[]) ∧ ∃ os, w' = grow w os := by
  have hn2 : n = 0 ∨ n = 1 := by omega
  rcases hn2 with rfl | rfl
  · exact Any.sort_SliceStable_tiny Tryz.laysGt8 24 3 siT siE (by kernel_rfl) (by kernel_rfl) (by kernel_rfl) (by kernel_rfl) 2 (fun _ => by kernel_rfl) p 0 c hn 63 (by kernel_rfl) (.func g) #[] lb w
  · exact Any.sort_SliceStable_tiny Tryz.laysGt8 24 3 siT siE (by kernel_rfl) (by kernel_rfl) (by kernel_rfl) (by kernel_rfl) 2 (fun _ => by kernel_rfl) p 1 c hn 64 (by kernel_rfl) (.func g) #[] lb w
end Go.Proofs.YtecaabmaoaacnaaGreatDoor
/-
  Contexts and contracts of functions, printed by gen.py.
-/
namespace Go.Proofs.YtecaabmaoaacnaaGreatDoor
open Go.V
set_option maxRecDepth 100000
theorem follows_mixed : Tryz.prog.follows .mixedOrders = true := by kernel_rfl
@[reducible] def ty3 : TI := { n := 1, zero := [.v (.int .i64 0)], ik := some .i64 }
@[reducible] def ty21 : TI := { n := 1, zero := [.v (.int .i32 0)], ik := some .i32 }
/-- loop.example/g01054/impl.numbersIn$1 -/
@[reducible] noncomputable def c_impl_numbersIn_1 : Cx := { K := [.dat 0, .no, .dat 0, .dat 0, .dat 0, .dat 0, .dat 0, .dat 0, .dat 0], T := [(21, ty21)], S := [], H := [], res := [.tmp 2], ios := [], G := gl0 }
noncomputable def F_impl_numbersIn_1 : List D → Option Out := denF c_impl_numbersIn_1 Tryz.f54
@[reducible] noncomputable def S_impl_numbersIn_1 : FS := { pm := [.dat 0], rm := [.dat 0], f := F_impl_numbersIn_1 }
theorem M_impl_numbersIn_1 : Meets gl0 Tryz.prog 54 S_impl_numbersIn_1 := meets_of (P := Tryz.prog) (c := c_impl_numbersIn_1) (fn := Tryz.f54) (pm := S_impl_numbersIn_1.pm) (rm := S_impl_numbersIn_1.rm) (by kernel_rfl) lookNil follows_mixed Tryz.func54 (by kernel_rfl) (by kernel_rfl) rfl
/-- loop.example/g01054/impl.within -/
@[reducible] noncomputable def c_impl_within : Cx := { K := [.dat 0, .dat 0, .dat 0, .no, .no, .no, .dat 0, .dat 0, .dat 0, .dat 0, .dat 0, .dat 0, .dat 0, .dat 0, .dat 0], T := [(3, ty3)], S := [], H := [], res := [.tmp 6], ios := [], G := gl0 }
noncomputable def F_impl_within : List D → Option Out := denF c_impl_within Tryz.f49
@[reducible] noncomputable def S_impl_within : FS := { pm := [.dat 0, .dat 0, .dat 0], rm := [.dat 0], f := F_impl_within }
theorem M_impl_within : Meets gl0 Tryz.prog 49 S_impl_within := meets_of (P := Tryz.prog) (c := c_impl_within) (fn := Tryz.f49) (pm := S_impl_within.pm) (rm := S_impl_within.rm) (by kernel_rfl) lookNil follows_mixed Tryz.func49 (by kernel_rfl) (by kernel_rfl) rfl
end Go.Proofs.YtecaabmaoaacnaaGreatDoor
/-
  What the functions compute: their evaluated texts, printed.
-/
namespace Go.Proofs.YtecaabmaoaacnaaGreatDoor
open Go Go.V
theorem t_impl_numbersIn_1 (x0 : D) : F_impl_numbersIn_1 [x0] =
  ((bin BinOp.lss false [] x0 (D.v (Value.int IntKind.i32 48))).bind fun z => (gate (D.tup []) z false (some x0)).bind fun z_1 =>
 (gate (D.tup []) z false (bin BinOp.gtr false [] z_1 (D.v (Value.int IntKind.i32 57)))).bind fun z_2 => (pickD z (D.v (Value.bool true)) z_2).bind fun z => some (Out.ret [z] [])) := by kernel_rfl
theorem t_impl_within (x0 x1 x2 : D) : F_impl_within [x0, x1, x2] =
  ((bin BinOp.geq false [] x0 x1).bind fun z => (gate (D.tup []) z true (some x0)).bind fun z_1 => (gate (D.tup []) z true (some x2)).bind fun z_2 => (gate (D.tup []) z true (bin BinOp.leq false [] z_1 z_2)).bind fun z_3 =>
 (pickD z z_3 (D.v (Value.bool false))).bind fun z => some (Out.ret [z] [])) := by kernel_rfl
end Go.Proofs.YtecaabmaoaacnaaGreatDoor
/-
  How the evaluated texts are reckoned: plain laws of the operations on data, and of loops.
-/
namespace Go.V

section
variable {k : IntKind} {a b : Int} {bl : Bool} {eq : List Nat}
@[simp] theorem bin_add : bin .add bl eq (.v (.int k a)) (.v (.int k b)) = some (.v (.int k (k.wrap (a + b)))) := by simp [bin, intBin]
@[simp] theorem bin_sub : bin .sub bl eq (.v (.int k a)) (.v (.int k b)) = some (.v (.int k (k.wrap (a - b)))) := by simp [bin, intBin]
@[simp] theorem bin_mul : bin .mul bl eq (.v (.int k a)) (.v (.int k b)) = some (.v (.int k (k.wrap (a * b)))) := by simp [bin, intBin]
@[simp] theorem bin_quo : bin .quo bl eq (.v (.int k a)) (.v (.int k b)) = if b = 0 then none else some (.v (.int k (k.wrap (a.tdiv b)))) := by simp [bin, intBin]
@[simp] theorem bin_rem : bin .rem bl eq (.v (.int k a)) (.v (.int k b)) = if b = 0 then none else some (.v (.int k (a.tmod b))) := by simp [bin, intBin]
@[simp] theorem bin_lss : bin .lss bl eq (.v (.int k a)) (.v (.int k b)) = some (B (decide (a < b))) := by simp [bin, intBin]
@[simp] theorem bin_leq : bin .leq bl eq (.v (.int k a)) (.v (.int k b)) = some (B (decide (a ≤ b))) := by simp [bin, intBin]
@[simp] theorem bin_gtr : bin .gtr bl eq (.v (.int k a)) (.v (.int k b)) = some (B (decide (b < a))) := by simp [bin, intBin]
@[simp] theorem bin_geq : bin .geq bl eq (.v (.int k a)) (.v (.int k b)) = some (B (decide (b ≤ a))) := by simp [bin, intBin]
@[simp] theorem bin_eql : bin .eql bl eq (.v (.int k a)) (.v (.int k b)) = some (B (decide (a = b))) := by
  have : (a == b) = decide (a = b) := rfl
  simp [bin, intBin, this]
@[simp] theorem bin_neq : bin .neq bl eq (.v (.int k a)) (.v (.int k b)) = some (B (!decide (a = b))) := by
  have : (a != b) = !decide (a = b) := rfl
  simp [bin, intBin, this]
@[simp] theorem bin_eqlB {a b : Bool} : bin .eql true eq (B a) (B b) = some (B (a == b)) := by simp [bin]
@[simp] theorem bin_neqB {a b : Bool} : bin .neq true eq (B a) (B b) = some (B !(a == b)) := by simp [bin]
@[simp] theorem bin_addS {a b : ByteArray} : bin .add bl eq (T a) (T b) = if a.size + b.size ≤ 1152921504606846976 then some (T (a ++ b)) else none := by simp [bin, strBin]
@[simp] theorem bin_eqlS {a b : ByteArray} : bin .eql bl eq (T a) (T b) = some (B (decide (a = b))) := by
  have : (a.toList == b.toList) = decide (a = b) := by
    rw [Bool.eq_iff_iff, beq_iff_eq, decide_eq_true_eq]
    constructor
    · intro h
      have h1 : ∀ s : ByteArray, s.toList = s.data.toList := fun s => by simp [ByteArray.toList_eq]
      rw [h1, h1] at h
      cases a; cases b
      simp at h
      simp [h]
    · rintro rfl; rfl
  simp [bin, strBin, this]
@[simp] theorem bin_neqS {a b : ByteArray} : bin .neq bl eq (T a) (T b) = some (B (!decide (a = b))) := by
  have h := bin_eqlS (a := a) (b := b) (bl := bl) (eq := eq)
  simp only [bin, strBin, Option.some.injEq, D.v.injEq, Value.bool.injEq] at h ⊢
  rw [h]
@[simp] theorem un_not {b : Bool} : un .not (B b) = some (B !b) := rfl
@[simp] theorem un_neg : un .neg (.v (.int k a)) = some (.v (.int k (k.wrap (-a)))) := by simp [un]

theorem wrap_id (h1 : -9223372036854775808 ≤ a) (h2 : a < 9223372036854775808) : IntKind.i64.wrap a = a := by
  simp [IntKind.wrap, IntKind.bits, IntKind.signed]
  split <;> omega
end

@[simp] theorem ifD_B {c : Bool} {t e : Option Out} : ifD (B c) t e = if c = true then t else e := by cases c <;> rfl
@[simp] theorem ifN_B {c : Bool} {t e : Option Out} : ifN c t e = if c = true then t else e := by cases c <;> rfl
@[simp] theorem gate_t {v : D} {c : Bool} {r : Option D} : gate v (B c) true r = if c = true then r else some v := by cases c <;> rfl
@[simp] theorem gate_f {v : D} {c : Bool} {r : Option D} : gate v (B c) false r = if c = true then some v else r := by cases c <;> rfl
@[simp] theorem gate_s {v : D} {p : Bool} {l : List D} {r : Option D} : gate v (.tup l) p r = some v := rfl
@[simp] theorem gateC_s {p : Bool} {l : List D} {r : Option Out} {alt : List D} {k : List D → Option Out} : gateC (.tup l) p r alt k = k alt := rfl
def nrmK (r : Option Out) (k : List D → Option Out) : Option Out :=
  match r with
  | some (.nrm l) => k l
  | _ => none
@[simp] theorem nrmK_some {l : List D} {k : List D → Option Out} : nrmK (some (.nrm l)) k = k l := rfl
@[simp] theorem gateC_t {c : Bool} {r : Option Out} {alt : List D} {k : List D → Option Out} : gateC (B c) true r alt k = if c = true then nrmK r k else k alt := by cases c <;> rfl
@[simp] theorem gateC_f {c : Bool} {r : Option Out} {alt : List D} {k : List D → Option Out} : gateC (B c) false r alt k = if c = true then k alt else nrmK r k := by cases c <;> rfl
@[simp] theorem pickD_B {c : Bool} {a b : D} : pickD (B c) a b = some (if c = true then a else b) := by cases c <;> rfl
@[simp] theorem callK_ret {rs us : List D} {k : List D → List D → Option Out} : callK (some (.ret rs us)) k = k rs us := rfl
@[simp] theorem outK_ext {i : Nat} {s : List D} {x : Nat → List D → Option Out} {r : List D → List D → Option Out} : outK (.ext i s) x r = x i s := rfl
@[simp] theorem outK_ret {a b : List D} {x : Nat → List D → Option Out} {r : List D → List D → Option Out} : outK (.ret a b) x r = r a b := rfl
@[simp] theorem liveD_v {v : Value} {x : D} : liveD (.v v) x = some x := rfl
@[simp] theorem liveD_arr {z : Nat} {l : List D} {x : D} : liveD (.arr z l) x = some x := rfl
@[simp] theorem liveD_agg {l : List D} {x : D} : liveD (.agg l) x = some x := rfl
@[simp] theorem liveD_ref {i f : Nat} {x : D} : liveD (.ref i f) x = some x := rfl
@[simp] theorem liveD_tup {l : List D} {x : D} : liveD (.tup l) x = some x := rfl
@[simp] theorem lenD_arr {z : Nat} {l : List D} : lenD false (.arr z l) = some (I l.length) := rfl
@[simp] theorem lenD_str {s : ByteArray} : lenD true (T s) = some (I s.size) := rfl
@[simp] theorem sl_zero {a : D} {l : List D} : sl (a :: l) 0 = a := rfl
@[simp] theorem sl_succ {a : D} {l : List D} {n : Nat} : sl (a :: l) (n + 1) = sl l n := rfl
@[simp] theorem fldD_agg {ag : Bool} {n off : Nat} {l : List D} : fldD ag n off (.agg l) = takeD ag n (l.drop off) := rfl
@[simp] theorem ldD_ptr {ag : Bool} {n : Nat} {l : List D} : ldD ag n (.ptr l) = takeD ag n l := rfl
@[simp] theorem offD_ptr {off : Nat} {l : List D} : offD off (.ptr l) = some (.ptr (l.drop off)) := rfl
@[simp] theorem takeD_t {n : Nat} {l : List D} : takeD true n l = if n ≤ l.length then some (.agg (l.take n)) else none := rfl
@[simp] theorem takeD_f {n : Nat} {a : D} {l : List D} : takeD false n (a :: l) = some a := rfl
@[simp] theorem atD_agg {l : List D} {i f : Nat} : atD (.agg l) (.ref i f) = some (l.drop f) := rfl
@[simp] theorem atD_arr {z : Nat} {l : List D} {i f : Nat} : atD (.arr z l) (.ref i f) = (l[i]?).map fun d => d.cells.drop f := rfl
@[simp] theorem refAdd_ref {off i f : Nat} : refAdd off (.ref i f) = some (.ref i (f + off)) := rfl
@[simp] theorem elemD_nat {z : Nat} {l : List D} {k : IntKind} {i : Nat} : elemD z (.arr z l) (.v (.int k (i : Int))) = (l[i]?).map D.cells := by simp [elemD]
theorem elemD_int {z : Nat} {l : List D} {k : IntKind} {n : Int} (h : 0 ≤ n) : elemD z (.arr z l) (.v (.int k n)) = (l[n.toNat]?).map D.cells := by simp [elemD, h]
@[simp] theorem refI_nat {z : Nat} {l : List D} {k : IntKind} {i : Nat} : refI z (.arr z l) (.v (.int k (i : Int))) = if i < l.length then some (.ref i 0) else none := by simp [refI]
@[simp] theorem D_cells_agg {l : List D} : (D.agg l).cells = l := rfl
@[simp] theorem D_cells_v {v : Value} : (D.v v).cells = [.v v] := rfl
@[simp] theorem D_cells_arr {z : Nat} {l : List D} : (D.arr z l).cells = [.arr z l] := rfl
@[simp] theorem chkV_v {v : Value} : chkV (.v v) = some (.v v) := rfl
@[simp] theorem chkV_agg {l : List D} : chkV (.agg l) = if l.all isVs = true then some (.agg l) else none := by
  have : (D.agg l).isV = l.all isVs := by
    simp only [D.isV]
    congr 1
  simp [chkV, this]
@[simp] theorem isVs_v {v : Value} : isVs (.v v) = true := rfl
@[simp] theorem isVs_arr {z : Nat} {l : List D} : isVs (.arr z l) = false := rfl
@[simp] theorem single_v {v : Value} : (D.v v).single = true := rfl
@[simp] theorem single_arr {z : Nat} {l : List D} : (D.arr z l).single = true := rfl
@[simp] theorem width_agg {l : List D} : (D.agg l).width = l.length := rfl
@[simp] theorem width_v {v : Value} : (D.v v).width = 1 := rfl
@[simp] theorem width_arr {z : Nat} {l : List D} : (D.arr z l).width = 1 := rfl
@[simp] theorem boxD_eq {n : Nat} {x : D} : boxD n x = if x.cells.length = n ∧ x.cells.all D.single = true then some (.agg x.cells) else none := rfl
@[simp] theorem stD_agg {n i f : Nat} {l : List D} {x : D} : stD n (.agg l) (.ref i f) x = if x.cells.length = n ∧ f + n ≤ l.length ∧ x.cells.all D.single = true then some (.agg (putCells l f x.cells)) else none := rfl
@[simp] theorem putCells_eq {l : List D} {f : Nat} {vs : List D} : putCells l f vs = l.take f ++ vs ++ l.drop (f + vs.length) := rfl
@[simp] theorem tupAt_tup {l : List D} {i : Nat} : tupAt (.tup l) i = match l[i]? with
    | some .bad => none
    | some (.tup _) => none
    | r => r := rfl
@[simp] theorem tupCut_tup {l : List D} {i : Nat} : tupCut (.tup l) i = .tup (l.set i .bad) := rfl
@[simp] theorem ref0_eq {x : D} : ref0 (.ref 0 0) x = some x := rfl
@[simp] theorem appD_eq {z eb : Nat} {l m : List D} : appD z eb (.arr z l) (.arr z m) = if (l.length + m.length) * eb ≤ 140737488355328 ∧ l.length + m.length ≤ 1152921504606846976 then some (.arr z (l ++ m)) else none := by simp [appD]

@[simp] theorem elemD_nat1 {z : Nat} {l : List D} {k : IntKind} {i : Nat} : elemD z (.arr z l) (.v (.int k ((i : Int) + 1))) = (l[i + 1]?).map D.cells := elemD_nat (i := i + 1)
@[simp] theorem elemD_zero {z : Nat} {l : List D} {k : IntKind} : elemD z (.arr z l) (.v (.int k 0)) = (l[0]?).map D.cells := elemD_nat (i := 0)
@[simp] theorem makD_nat {z eb : Nat} {x : D} {k k' : IntKind} {n m : Nat} : makD z eb x (.v (.int k (n : Int))) (.v (.int k' (m : Int))) = if n ≤ m ∧ m * eb ≤ 140737488355328 ∧ m ≤ 140737488355328 then some (.arr z (List.replicate n x)) else none := by
  have h : ((n : Int) ≤ m ∧ (m : Int) * (eb : Int) ≤ 140737488355328 ∧ (m : Int) ≤ 140737488355328) ↔ (n ≤ m ∧ m * eb ≤ 140737488355328 ∧ m ≤ 140737488355328) := by
    rw [← Int.natCast_mul]
    omega
  simp only [makD, Int.natCast_nonneg, true_and, h, Int.toNat_natCast]

/-- An element of an owned slice that is written whole. -/
theorem stD_arr {n z i : Nat} {L c v : List D} (h : L[i]? = some (.agg c)) (hc : c.length = n) (hv : v.length = n) (hs : v.all D.single = true) : stD n (.arr z L) (.ref i 0) (.agg v) = some (.arr z (L.set i (.agg v))) := by
  have e : (D.agg c).ofCells (putCells c 0 v) = .agg v := by
    simp only [D.ofCells, putCells, List.take_zero, List.nil_append, Nat.zero_add, hv, ← hc, List.drop_length, List.append_nil]
  have h2 : (D.agg v).cells = v := rfl
  simp only [stD, h, h2, e, width_agg, hc, hv, hs, Nat.zero_add, Nat.le_refl, and_self, if_true, D_cells_agg]
theorem stD_arr1 {z i : Nat} {L : List D} {v w : Value} (h : L[i]? = some (.v w)) : stD 1 (.arr z L) (.ref i 0) (.v v) = some (.arr z (L.set i (.v v))) := by
  simp [stD, h, D.ofCells]

/-- A list that is filled from the left. -/
def fillL {β : Type} (f : β → D) (z : D) (l : List β) (i : Nat) : List D := (l.take i).map f ++ List.replicate (l.length - i) z
section
variable {β : Type} {f : β → D} {z : D} {l : List β} {i : Nat}
theorem fillL_zero : List.replicate l.length z = fillL f z l 0 := by simp [fillL]
theorem fillL_full : fillL f z l l.length = l.map f := by simp [fillL]
@[simp] theorem fillL_length (h : i ≤ l.length) : (fillL f z l i).length = l.length := by simp [fillL]; omega
theorem fillL_get (h : i < l.length) : (fillL f z l i)[i]? = some z := by
  rw [fillL, List.getElem?_append_right (by simp; omega)]
  simp [List.getElem?_replicate]
  omega
theorem fillL_set {x : β} (h : l[i]? = some x) : (fillL f z l i).set i (f x) = fillL f z l (i + 1) := by
  have hi : i < l.length := (List.getElem?_eq_some_iff.1 h).1
  have hx : l[i] = x := (List.getElem?_eq_some_iff.1 h).2
  obtain ⟨m, hm⟩ : ∃ m, l.length - i = m + 1 := ⟨l.length - i - 1, by omega⟩
  rw [fillL, fillL, hm, show l.length - (i + 1) = m from by omega, List.replicate_succ, List.set_append_right _ _ (by simp; omega)]
  have : i - (List.map f (l.take i)).length = 0 := by simp; omega
  rw [this, List.set_cons_zero, List.take_succ_eq_append_getElem hi, List.map_append, hx]
  simp
end

/-- Some cells of an element of an owned slice are written. -/
theorem stD_part {z i f : Nat} {L c : List D} {v : Value} (h : L[i]? = some (.agg c)) (hf : f < c.length) : stD 1 (.arr z L) (.ref i f) (.v v) = some (.arr z (L.set i (.agg (putCells c f [.v v])))) := by
  have h2 : (D.v v).cells = [.v v] := rfl
  have h3 : f + 1 ≤ c.length := hf
  simp [stD, h, h2, h3, D.ofCells]

/-- A list that is marked from the left. -/
def markL {β : Type} (g : Nat → D) (f : β → D) (l : List β) (i : Nat) : List D := (List.range i).map g ++ (l.drop i).map f
section
variable {β : Type} {g : Nat → D} {f : β → D} {l : List β} {i : Nat}
theorem markL_zero : l.map f = markL g f l 0 := by simp [markL]
theorem markL_full : markL g f l l.length = (List.range l.length).map g := by simp [markL]
@[simp] theorem markL_length (h : i ≤ l.length) : (markL g f l i).length = l.length := by simp [markL]; omega
theorem markL_get (h : i < l.length) : (markL g f l i)[i]? = some (f l[i]) := by
  rw [markL, List.getElem?_append_right (by simp)]
  simp [h]
theorem markL_set (h : i < l.length) : (markL g f l i).set i (g i) = markL g f l (i + 1) := by
  rw [markL, markL, List.drop_eq_getElem_cons h, List.set_append_right _ _ (by simp), List.map_cons, List.length_map, List.length_range, Nat.sub_self, List.set_cons_zero, List.range_succ, List.map_append]
  simp
end

theorem mkArr_nil {z : Nat} : mkArr z [] = some (.arr z []) := rfl
@[simp] theorem chkA_map {β : Type} {z : Nat} {l : List β} {f : β → D} (h : ∀ x, (f x).isV = true) : chkA (.arr z (l.map f)) = some (.arr z (l.map f)) := by
  have : (l.map f).all D.isV = true := by simp [h]
  simp only [chkA, this, if_true]
theorem sliceD_nat {z i j : Nat} {l : List D} {k k' : IntKind} (h1 : i ≤ j) (h2 : j ≤ l.length) : sliceD false z (.arr z l) (.v (.int k (i : Int))) (.v (.int k' (j : Int))) = some (.arr z ((l.take j).drop i)) := by
  simp only [sliceD, Int.toNat_natCast, true_and]
  rw [if_pos]
  omega
theorem sliceHi_nat {z i : Nat} {l : List D} {k : IntKind} (h : i ≤ l.length) : sliceHi false z (.arr z l) (.v (.int k (i : Int))) = some (.arr z (l.drop i)) := by
  simp only [sliceHi, Int.toNat_natCast, true_and]
  rw [if_pos]
  omega
theorem wrap_neg {a b : Int} : IntKind.i64.wrap (a + IntKind.i64.wrap (-b)) = IntKind.i64.wrap (a - b) := by
  simp only [IntKind.wrap_i64]
  omega
@[simp] theorem ite_B {p : Prop} [Decidable p] {a b : Bool} : (if p then D.v (.bool a) else D.v (.bool b)) = D.v (.bool (if p then a else b)) := by split <;> rfl

/-! ### loops -/
theorem iter_mono {body : List D → Option Out} : ∀ (n : Nat) (s : List D) (o : Out), iter body n s = some o → ∀ m, n ≤ m → iter body m s = some o
  | 0, _, _, h, _, _ => by simp [iter] at h
  | n + 1, s, o, h, m, hm => by
    obtain ⟨m, rfl⟩ : ∃ q, m = q + 1 := ⟨m - 1, by omega⟩
    simp only [iter] at h ⊢
    split at h
    · rename_i s' hb
      exact iter_mono n s' o h m (by omega)
    · exact h

theorem loopC_of {body : List D → Option Out} {s : List D} {o : Out} (n : Nat) (h : iter body n s = some o) : loopC body s = some o := by
  have hex : ∃ n, (iter body n s).isSome = true := ⟨n, by rw [h]; rfl⟩
  unfold loopC
  rw [dif_pos hex]
  obtain ⟨o', ho⟩ := Option.isSome_iff_exists.1 (Classical.choose_spec hex)
  rw [ho]
  have h1 := iter_mono _ _ _ ho (max n (Classical.choose hex)) (by omega)
  have h2 := iter_mono _ _ _ h (max n (Classical.choose hex)) (by omega)
  rw [h1] at h2
  exact h2

/-- A loop that comes to an end in some number of rounds. -/
inductive Runs (body : List D → Option Out) : List D → Out → Prop where
  | ext {s : List D} {i : Nat} {δ : List D} : body s = some (.ext i δ) → Runs body s (.ext i δ)
  | ret {s : List D} {rs us : List D} : body s = some (.ret rs us) → Runs body s (.ret rs us)
  | nrm {s s' : List D} {o : Out} : body s = some (.nrm s') → Runs body s' o → Runs body s o

theorem Runs.iter {body : List D → Option Out} {s : List D} {o : Out} (h : Runs body s o) : ∃ n, V.iter body n s = some o := by
  induction h with
  | ext h => exact ⟨1, by simp [V.iter, h]⟩
  | ret h => exact ⟨1, by simp [V.iter, h]⟩
  | nrm h _ ih =>
    obtain ⟨n, hn⟩ := ih
    exact ⟨n + 1, by simp [V.iter, h, hn]⟩
theorem Runs.loop {body : List D → Option Out} {s : List D} {o : Out} (h : Runs body s o) : loopC body s = some o := by
  obtain ⟨n, hn⟩ := h.iter
  exact loopC_of n hn

/-- A loop over a list; the state is a function of the place and of what is gathered. -/
def goL {α β : Type} (g : Nat → β → α → α ⊕ Out) (fin : α → Out) : Nat → List β → α → Out
  | _, [], a => fin a
  | i, x :: l, a => match g i x a with
    | .inl a' => goL g fin (i + 1) l a'
    | .inr o => o
def Out.ends : Out → Bool
  | .nrm _ => false
  | _ => true
theorem Runs.one {body : List D → Option Out} {s : List D} {o : Out} (h : body s = some o) (ho : o.ends = true) : Runs body s o := by
  cases o with
  | nrm _ => simp [Out.ends] at ho
  | ext _ _ => exact .ext h
  | ret _ _ => exact .ret h

theorem Runs.list {α β : Type} {body : List D → Option Out} (l : List β) (st : Nat → α → List D) (Inv : Nat → α → Prop) (g : Nat → β → α → α ⊕ Out) (fin : α → Out)
    (hs : ∀ i x a, l[i]? = some x → Inv i a → match g i x a with
      | .inl a' => body (st i a) = some (.nrm (st (i + 1) a')) ∧ Inv (i + 1) a'
      | .inr o => body (st i a) = some o ∧ o.ends = true)
    (he : ∀ a, Inv l.length a → body (st l.length a) = some (fin a) ∧ (fin a).ends = true) (a : α) (h0 : Inv 0 a) : Runs body (st 0 a) (goL g fin 0 l a) := by
  have key : ∀ (n i : Nat) (a : α), i + n = l.length → Inv i a → Runs body (st i a) (goL g fin i (l.drop i) a) := by
    intro n
    induction n with
    | zero =>
      intro i a hi hI
      have : i = l.length := by omega
      subst this
      rw [List.drop_length]
      exact Runs.one (he a hI).1 (he a hI).2
    | succ n ih =>
      intro i a hi hI
      have hlt : i < l.length := by omega
      rw [List.drop_eq_getElem_cons hlt]
      have h := hs i l[i] a (List.getElem?_eq_getElem hlt) hI
      simp only [goL]
      split at h
      · exact .nrm h.1 (ih (i + 1) _ (by omega) h.2)
      · exact Runs.one h.1 h.2
  simpa using key l.length 0 a (by omega) h0

theorem loop_list {α β : Type} {body : List D → Option Out} (l : List β) (st : Nat → α → List D) (Inv : Nat → α → Prop) (g : Nat → β → α → α ⊕ Out) (fin : α → Out)
    (hs : ∀ i x a, l[i]? = some x → Inv i a → match g i x a with
      | .inl a' => body (st i a) = some (.nrm (st (i + 1) a')) ∧ Inv (i + 1) a'
      | .inr o => body (st i a) = some o ∧ o.ends = true)
    (he : ∀ a, Inv l.length a → body (st l.length a) = some (fin a) ∧ (fin a).ends = true) (a : α) (h0 : Inv 0 a) {s0 : List D} (h : s0 = st 0 a) : loopC body s0 = some (goL g fin 0 l a) := by
  rw [h]
  exact (Runs.list l st Inv g fin hs he a h0).loop

/-- A loop whose state at each round is known: n rounds, then the end. -/
theorem loop_for {body : List D → Option Out} (n : Nat) (st : Nat → List D) (o : Out) (hs : ∀ i, i < n → body (st i) = some (.nrm (st (i + 1)))) (he : body (st n) = some o) (ho : o.ends = true) {s0 : List D} (h : s0 = st 0) : loopC body s0 = some o := by
  rw [h]
  have key : ∀ (m i : Nat), i + m = n → Runs body (st i) o := by
    intro m
    induction m with
    | zero =>
      intro i hi
      have : i = n := by omega
      subst this
      exact Runs.one he ho
    | succ m ih => exact fun i hi => .nrm (hs i (by omega)) (ih (i + 1) (by omega))
  exact (key n 0 (by omega)).loop

/-- A loop that goes over a list as long as all is well. -/
def allI {β : Type} (p : Nat → β → Bool) : Nat → List β → Bool
  | _, [] => true
  | i, x :: l => p i x && allI p (i + 1) l
theorem loop_all {β : Type} {body : List D → Option Out} (l : List β) (st : Nat → List D) (p : Nat → β → Bool) (o1 o2 : Out) (hs : ∀ (i : Nat) (hi : i < l.length), body (st i) = some (if p i l[i] = true then .nrm (st (i + 1)) else o1)) (he : body (st l.length) = some o2)
    (h1 : o1.ends = true) (h2 : o2.ends = true) {s0 : List D} (h : s0 = st 0) : loopC body s0 = some (if allI p 0 l = true then o2 else o1) := by
  have e : ∀ (m : List β) (i : Nat), goL (fun i x (_ : Unit) => if p i x = true then .inl () else .inr o1) (fun _ => o2) i m () = if allI p i m = true then o2 else o1 := by
    intro m
    induction m with
    | nil => intro i; simp [goL, allI]
    | cons x m ih =>
      intro i
      simp only [goL, allI]
      by_cases hp : p i x = true
      · simp [hp, ih]
      · simp [hp]
  rw [← e]
  refine loop_list l (fun i _ => st i) (fun _ _ => True) _ _ (fun i x a hx _ => ?_) (fun _ _ => ⟨he, h2⟩) () trivial h
  have hi : i < l.length := (List.getElem?_eq_some_iff.1 hx).1
  have hxe : l[i] = x := (List.getElem?_eq_some_iff.1 hx).2
  have := hs i hi
  rw [hxe] at this
  by_cases hp : p i x = true
  · simpa [hp] using this
  · simpa [hp, h1] using this

/-- A loop that gathers over a list. -/
theorem loop_foldl {α β : Type} {body : List D → Option Out} (l : List β) (st : Nat → α → List D) (f : α → β → α) (fin : α → Out) (a : α) (hs : ∀ (i : Nat) (a : α) (hi : i < l.length), body (st i a) = some (.nrm (st (i + 1) (f a l[i])))) (he : ∀ a, body (st l.length a) = some (fin a))
    (h1 : ∀ a, (fin a).ends = true) {s0 : List D} (h : s0 = st 0 a) : loopC body s0 = some (fin (l.foldl f a)) := by
  have e : ∀ (m : List β) (i : Nat) (a : α), goL (fun _ x a => .inl (f a x)) fin i m a = fin (m.foldl f a) := by
    intro m
    induction m with
    | nil => intro i a; rfl
    | cons x m ih => intro i a; simp only [goL, List.foldl_cons]; exact ih (i + 1) (f a x)
  rw [← e l 0 a]
  exact loop_list l st (fun _ _ => True) (fun _ x a => .inl (f a x)) _ (fun i x a hx _ => ⟨by
    have hi : i < l.length := (List.getElem?_eq_some_iff.1 hx).1
    have hxe : l[i] = x := (List.getElem?_eq_some_iff.1 hx).2
    rw [← hxe]
    exact hs i a hi, trivial⟩) (fun a _ => ⟨he a, h1 a⟩) a trivial h

/-- A loop that gathers over a list, and looks at the place too. -/
def foldI {α β : Type} (f : Nat → α → β → α) : Nat → List β → α → α
  | _, [], a => a
  | i, x :: l, a => foldI f (i + 1) l (f i a x)
theorem loop_foldi {α β : Type} {body : List D → Option Out} (l : List β) (st : Nat → α → List D) (Inv : Nat → α → Prop) (f : Nat → α → β → α) (fin : α → Out) (a : α) (hs : ∀ (i : Nat) (a : α) (hi : i < l.length), Inv i a → body (st i a) = some (.nrm (st (i + 1) (f i a l[i]))) ∧ Inv (i + 1) (f i a l[i]))
    (he : ∀ a, Inv l.length a → body (st l.length a) = some (fin a)) (h1 : ∀ a, (fin a).ends = true) (h0 : Inv 0 a) {s0 : List D} (h : s0 = st 0 a) : loopC body s0 = some (fin (foldI f 0 l a)) := by
  have e : ∀ (m : List β) (i : Nat) (a : α), goL (fun i x a => .inl (f i a x)) fin i m a = fin (foldI f i m a) := by
    intro m
    induction m with
    | nil => intro i a; rfl
    | cons x m ih => intro i a; simp only [goL, foldI]; exact ih (i + 1) (f i a x)
  rw [← e l 0 a]
  refine loop_list l st Inv (fun i x a => .inl (f i a x)) _ (fun i x a hx hI => ?_) (fun a hI => ⟨he a hI, h1 a⟩) a h0 h
  have hi : i < l.length := (List.getElem?_eq_some_iff.1 hx).1
  have hxe : l[i] = x := (List.getElem?_eq_some_iff.1 hx).2
  rw [← hxe]
  exact hs i a hi hI

theorem loop_bind {body : List D → Option Out} {s0 : List D} {K : Out → Option Out} {r : Option Out} (o : Out) (h : loopC body s0 = some o) (hk : K o = r) : (loopC body s0).bind K = r := by
  rw [h]
  exact hk

/-- A loop whose measure falls. -/
theorem loop_wf {α : Type} {body : List D → Option Out} (st : α → List D) (Inv : α → Prop) (μ : α → Nat) (Q : α → Out → Prop)
    (hs : ∀ a, Inv a → (∃ a', body (st a) = some (.nrm (st a')) ∧ Inv a' ∧ μ a' < μ a ∧ ∀ o, Q a' o → Q a o) ∨ ∃ o, body (st a) = some o ∧ o.ends = true ∧ Q a o) (a : α) (h : Inv a) {s0 : List D} (h0 : s0 = st a) : ∃ o, loopC body s0 = some o ∧ Q a o := by
  rw [h0]
  have key : ∀ (n : Nat) (a : α), μ a < n → Inv a → ∃ o, Runs body (st a) o ∧ Q a o := by
    intro n
    induction n with
    | zero => exact fun a h => by omega
    | succ n ih =>
      intro a hn hI
      rcases hs a hI with ⟨a', h1, h2, h3, h4⟩ | ⟨o, h1, h2, h3⟩
      · obtain ⟨o, h5, h6⟩ := ih a' (by omega) h2
        exact ⟨o, .nrm h1 h5, h4 o h6⟩
      · exact ⟨o, Runs.one h1 h2, h3⟩
  obtain ⟨o, h1, h2⟩ := key (μ a + 1) a (by omega) h
  exact ⟨o, h1.loop, h2⟩

theorem loop_wf_bind {α : Type} {body : List D → Option Out} {K : Out → Option Out} (R : Option Out → Prop) (st : α → List D) (Inv : α → Prop) (μ : α → Nat) (Q : Out → Prop)
    (hs : ∀ a, Inv a → (∃ a', body (st a) = some (.nrm (st a')) ∧ Inv a' ∧ μ a' < μ a) ∨ ∃ o, body (st a) = some o ∧ o.ends = true ∧ Q o) (a : α) (h : Inv a) {s0 : List D} (h0 : s0 = st a) (hk : ∀ o, Q o → R (K o)) : R ((loopC body s0).bind K) := by
  obtain ⟨o, h1, h2⟩ := loop_wf st Inv μ (fun _ o => Q o) (fun a ha => by
    rcases hs a ha with ⟨a', g1, g2, g3⟩ | h
    · exact .inl ⟨a', g1, g2, g3, fun _ h => h⟩
    · exact .inr h) a h h0
  rw [h1]
  exact hk o h2

end Go.V
/-
  strings.FieldsFunc at 'c < '0' || c > '9''.
-/
namespace Go.Proofs.YtecaabmaoaacnaaGreatDoor
open Go Go.V

theorem e_impl_numbersIn_1 (x : Int) : F_impl_numbersIn_1 [.v (.int .i32 x)] = some (.ret [B (decide (x < 48) || decide (57 < x))] []) := by
  rw [t_impl_numbersIn_1]
  by_cases h : x < 48 <;> simp [h]
/-- No digit. -/
def isSep (x : Nat) : Bool := decide (x < 48) || decide (57 < x)
@[reducible] def S_strings_FieldsFunc : FS := S_FieldsFunc 54 isSep
set_option maxRecDepth 100000 in
theorem M_strings_FieldsFunc : Meets gl0 Tryz.prog 53 S_strings_FieldsFunc :=
  M_FieldsFunc Tryz.lays229 (by kernel_rfl) (Go.Proofs.enters_of Tryz.func54 (by kernel_rfl) rfl) M_impl_numbersIn_1 rfl rfl
    (fun x _ => by
      show F_impl_numbersIn_1 _ = _
      rw [e_impl_numbersIn_1]
      have h1 : ((x : Int) < 48) ↔ x < 48 := by omega
      have h2 : ((57 : Int) < x) ↔ 57 < x := by omega
      simp only [isSep, h1, h2]) (by kernel_rfl) (by kernel_rfl)
end Go.Proofs.YtecaabmaoaacnaaGreatDoor
/-
  The evaluator with joins: what stands behind a choice is evaluated once.
-/
namespace Go.V
open Go.RowKit

/-- What stands behind a choice, said once (not unfolded). -/
def joinC (f : (List D → Option Out) → Option Out) (k : List D → Option Out) : Option Out := f k

@[reducible] noncomputable def denJ (c : Cx) (J : List (Nat × List Nat)) : Nat → Nat → Code → List D → (Out → Option Out) → Option Out
  | _, _, .skip, δ, k => k (.nrm δ)
  | _, _, .region _ ops _, δ, k => runOps c ops.toList ops.toList δ fun δ' => k (.nrm δ')
  | p, bid, .seq a b, δ, k => match look J p with
    | none => denJ c J (Nat.mul 2 p) bid a δ fun o => seqK o (fun δ' => denJ c J (Nat.add (Nat.mul 2 p) 1) bid b δ' k) k
    | some hl => joinC (fun j => denJ c J (Nat.mul 2 p) bid a δ fun o => seqK o (fun δ' => getC δ' hl fun s => j s) k) (fun s => expandC (lenN c.K) hl s fun δ' => denJ c J (Nat.add (Nat.mul 2 p) 1) bid b δ' k)
  | p, bid, .cond x t e, δ, k => opC δ x fun q => ifD q (denJ c J (Nat.mul 2 p) bid t δ k) (denJ c J (Nat.add (Nat.mul 2 p) 1) bid e δ k)
  | p, _, .block id b, δ, k => denJ c J (Nat.mul 2 p) id b δ fun o => blkK id o k
  | p, bid, .loop b, δ, k => match look c.H bid with
    | none => none
    | some (hl, xl) =>
      getC δ hl fun s => (loopC (fun s => expandC (lenN c.K) hl s fun δ => denJ c J (Nat.mul 2 p) bid b δ (shrinkK hl xl)) s).bind fun o =>
        outK o (fun i s => expandC (lenN c.K) xl s fun δ => k (.ext i δ)) (fun a b => k (.ret a b))
  | _, _, .exit id, δ, k => k (.ext id δ)
  | _, _, .ret, δ, k => resC c δ c.res fun rs => getC δ c.ios fun us => usK us (k (.ret rs us))
  | _, _, _, _, _ => none

/-- A whole function. -/
@[reducible] noncomputable def denFJ (c : Cx) (J : List (Nat × List Nat)) (fn : Func) (ds : List D) : Option Out :=
  match fn.body with
  | none => none
  | some b => denJ c J 1 0 b (padTo fn.ntmps ds) fun o => match o with
    | .nrm δ => resC c δ c.res fun rs => getC δ c.ios fun us => usK us (some (.ret rs us))
    | .ext _ _ => none
    | .ret rs us => some (.ret rs us)

def okJ (c : Cx) (J : List (Nat × List Nat)) : Bool := J.all fun p => okLive c.K p.2
theorem okJ_at {c : Cx} : ∀ {J : List (Nat × List Nat)} {p : Nat} {hl : List Nat}, okJ c J = true → look J p = some hl → okLive c.K hl = true
  | [], _, _, _, h => by cases h
  | (q, l) :: J, p, hl, hJ, h => by
    unfold okJ at hJ
    rw [List.all_cons, Bool.and_eq_true] at hJ
    simp only [look] at h
    split at h
    · cases h
      exact hJ.1
    · exact okJ_at (J := J) hJ.2 h

section
variable {P : Program} {c : Cx} {B : Nat} {X : Nat → Prop} {w0 : World} {F0 F : Nat → Prop} {O : Nat → Option (Nat × Nat)} {a : Act} {w : World} {δ : List D}

theorem loop_roundsJ {V : Nat → Value} {J : List (Nat × List Nat)} {p : Nat} {b : Code} {bid : Nat} {hl xl : List Nat} (h1 : okLive c.K hl = true) (h2 : okLive c.K xl = true)
    (ih : ∀ (F : Nat → Prop) (O : Nat → Option (Nat × Nat)) (a : Act) (w : World) (δ : List D), Inv c B X w0 F0 F O a w δ → IoV c V a → ∀ (k : Out → Option Out) (r : Out), denJ c J p bid b δ k = some r → ∀ Q, (∀ e a w, Post c B X w0 F0 V k r e a w → Q e a w) → b.wp P Q a w)
    {k : Out → Option Out} {r : Out} {Q : Exit → Act → World → Prop} (hQ : ∀ e a w, Post c B X w0 F0 V k r e a w → Q e a w) {o : Out}
    (ho : outK o (fun i s => expandC (lenN c.K) xl s fun δ => k (.ext i δ)) (fun x y => k (.ret x y)) = some r) : ∀ (n : Nat) (F : Nat → Prop) (O : Nat → Option (Nat × Nat)) (a : Act) (w : World) (δ : List D), Inv c B X w0 F0 F O a w δ → IoV c V a →
    iter (fun s => expandC (lenN c.K) hl s fun δ => denJ c J p bid b δ (shrinkK hl xl)) n (getAll δ hl) = some o → Code.rounds P b Q n a w
  | 0, _, _, _, _, _, _, _, h => by cases h
  | n + 1, F, O, a, w, δ, hI, hV, h => by
    simp only [iter, expandC_eq] at h
    rw [rounds_succ]
    have hI' := hI.carry h1
    cases hb : denJ c J p bid b (carry (lenN c.K) hl δ) (shrinkK hl xl) with
    | none => rw [hb] at h; cases h
    | some ob =>
      rw [hb] at h
      refine ih F O a w _ hI' hV _ ob hb _ (fun e a' w' hp => ?_)
      cases ob with
      | nrm s' =>
        simp only at h
        cases e with
        | normal =>
          obtain ⟨⟨F', O', δ', g1, g2⟩, g3⟩ := hp
          simp only [shrinkK, getC_eq, Option.some.injEq, Out.nrm.injEq] at g2
          rw [← g2] at h
          exact loop_roundsJ h1 h2 ih hQ ho n F' O' a' w' δ' g1 g3 h
        | exit i =>
          obtain ⟨⟨F', O', δ', g1, g2⟩, g3⟩ := hp
          simp [shrinkK, getC_eq] at g2
        | ret =>
          obtain ⟨⟨F', O', δ', g1, g2⟩, g3⟩ := hp
          obtain ⟨rs, _, _, g4⟩ := retK_is g2
          simp [shrinkK] at g4
        | _ => exact hp.elim
      | ext i l =>
        simp only [Option.some.injEq] at h
        subst h
        cases e with
        | normal =>
          obtain ⟨⟨F', O', δ', g1, g2⟩, g3⟩ := hp
          simp [shrinkK, getC_eq] at g2
        | exit j =>
          obtain ⟨⟨F', O', δ', g1, g2⟩, g3⟩ := hp
          simp only [shrinkK, getC_eq, Option.some.injEq, Out.ext.injEq] at g2
          obtain ⟨rfl, rfl⟩ := g2
          simp only [outK, expandC_eq] at ho
          exact hQ (.exit j) _ _ ⟨⟨F', O', _, g1.carry h2, ho⟩, g3⟩
        | ret =>
          obtain ⟨⟨F', O', δ', g1, g2⟩, g3⟩ := hp
          obtain ⟨rs, _, _, g4⟩ := retK_is g2
          simp [shrinkK] at g4
        | _ => exact hp.elim
      | ret x y =>
        simp only [Option.some.injEq] at h
        subst h
        cases e with
        | normal =>
          obtain ⟨⟨F', O', δ', g1, g2⟩, g3⟩ := hp
          simp [shrinkK, getC_eq] at g2
        | exit j =>
          obtain ⟨⟨F', O', δ', g1, g2⟩, g3⟩ := hp
          simp [shrinkK, getC_eq] at g2
        | ret =>
          obtain ⟨⟨F', O', δ', g1, g2⟩, g3⟩ := hp
          obtain ⟨rs, g5, g6, g4⟩ := retK_is g2
          simp only [shrinkK, Option.some.injEq, Out.ret.injEq] at g4
          obtain ⟨rfl, rfl⟩ := g4
          exact hQ .ret _ _ ⟨⟨F', O', δ', g1, retK_of g5 g6 ho⟩, g3⟩
        | _ => exact hp.elim

theorem denJ_sound (hT : okT P c.T = true) (hS : ∀ f S, look c.S f = some S → Meets c.G P f S) (hm : P.follows .mixedOrders = true) {V : Nat → Value} {J : List (Nat × List Nat)} (hJ : okJ c J = true) : ∀ (b : Code) (p bid : Nat), okCode c bid b = true → ∀ (F : Nat → Prop) (O : Nat → Option (Nat × Nat)) (a : Act) (w : World) (δ : List D),
    Inv c B X w0 F0 F O a w δ → IoV c V a → ∀ (k : Out → Option Out) (r : Out), denJ c J p bid b δ k = some r → ∀ Q, (∀ e a w, Post c B X w0 F0 V k r e a w → Q e a w) → b.wp P Q a w
  | .skip, p, bid, _, F, O, a, w, δ, hI, hV, k, r, hg, Q, hQ => wp_skip (hQ _ _ _ ⟨⟨F, O, δ, hI, hg⟩, hV⟩)
  | .region id ops d, p, bid, hok, F, O, a, w, δ, hI, hV, k, r, hg, Q, hQ => by
    simp only [okCode, Bool.and_eq_true, List.all_eq_true] at hok
    have hq : ∀ a w, NextV c B X w0 F0 V (fun δ => k (.nrm δ)) r a w → Q .normal a w := fun a w h => hQ _ _ _ h
    cases d
    · exact wp_region_list (list_sound hT hS hq ops.toList hok.1 F O a w δ hI hV hg)
    · exact any_sound hT hS (by simpa using hok.2) hm hq hok.1 hI hV hg id
  | .seq x y, p, bid, hok, F, O, a, w, δ, hI, hV, k, r, hg, Q, hQ => by
    simp only [okCode, Bool.and_eq_true] at hok
    simp only [denJ] at hg
    cases hH : look J p with
    | none =>
      rw [hH] at hg
      refine wp_seq (denJ_sound hT hS hm hJ x _ bid hok.1 F O a w δ hI hV _ r hg _ (fun e a' w' hp => ?_))
      cases e with
      | normal =>
        obtain ⟨⟨F', O', δ', hI', hk'⟩, hV'⟩ := hp
        exact denJ_sound hT hS hm hJ y _ bid hok.2 F' O' a' w' δ' hI' hV' k r hk' Q hQ
      | exit id => exact hQ _ _ _ hp
      | ret => exact hQ _ _ _ hp
      | _ => exact hp.elim
    | some hl =>
      rw [hH] at hg
      simp only [joinC] at hg
      have hlive := okJ_at hJ hH
      refine wp_seq (denJ_sound hT hS hm hJ x _ bid hok.1 F O a w δ hI hV _ r hg _ (fun e a' w' hp => ?_))
      cases e with
      | normal =>
        obtain ⟨⟨F', O', δ', hI', hk'⟩, hV'⟩ := hp
        simp only [seqK, getC_eq, expandC_eq] at hk'
        exact denJ_sound hT hS hm hJ y _ bid hok.2 F' O' a' w' _ (hI'.carry hlive) hV' k r hk' Q hQ
      | exit id => exact hQ _ _ _ hp
      | ret => exact hQ _ _ _ hp
      | _ => exact hp.elim
  | .cond x t e, p, bid, hok, F, O, a, w, δ, hI, hV, k, r, hg, Q, hQ => by
    simp only [okCode, Bool.and_eq_true] at hok
    obtain ⟨⟨hlv, hok1⟩, hok2⟩ := hok
    have hop := hI.opd (ble_iff.1 hlv)
    have key : ifD (opD δ x) (denJ c J (Nat.mul 2 p) bid t δ k) (denJ c J (Nat.add (Nat.mul 2 p) 1) bid e δ k) = some r := by
      simp only [denJ] at hg
      cases x with
      | tmp s => simpa only [opC, nthC_eq, opD] using hg
      | const v => simpa only [opC, opD] using hg
      | func f => simpa only [opC, opD] using hg
      | global g => simp [opC] at hg
    unfold ifD at key
    split at key
    · rename_i hd
      rw [hd] at hop
      exact wp_cond_true (RepB_v hop).1 (denJ_sound hT hS hm hJ t _ bid hok1 F O a w δ hI hV k r key Q hQ)
    · rename_i hd
      rw [hd] at hop
      exact wp_cond_false (RepB_v hop).1 (denJ_sound hT hS hm hJ e _ bid hok2 F O a w δ hI hV k r key Q hQ)
    · cases key
  | .block id b, p, bid, hok, F, O, a, w, δ, hI, hV, k, r, hg, Q, hQ => by
    simp only [okCode] at hok
    refine wp_block (denJ_sound hT hS hm hJ b _ id hok F O a w δ hI hV _ r hg _ (fun e a' w' hp => ?_))
    cases e with
    | normal => exact hQ .normal _ _ hp
    | exit i =>
      simp only [Exit.inBlock]
      have hp' : NextV c B X w0 F0 V (fun δ => blkK id (.ext i δ) k) r a' w' := hp
      split
      · rename_i hi
        refine hQ .normal _ _ (NextV_mono hp' fun δ F O _ h => ?_)
        simp only [blkK] at h
        rw [beq_iff.2 (by simpa using hi)] at h
        exact h
      · rename_i hi
        refine hQ (.exit i) _ _ (NextV_mono hp' fun δ F O _ h => ?_)
        simp only [blkK] at h
        cases hb : Nat.beq i id
        · rw [hb] at h; exact h
        · exact absurd (by simpa using beq_iff.1 hb) hi
    | ret => exact hQ .ret _ _ hp
    | _ => exact hp.elim
  | .loop b, p, bid, hok, F, O, a, w, δ, hI, hV, k, r, hg, Q, hQ => by
    simp only [okCode, Bool.and_eq_true] at hok
    obtain ⟨hok1, hok2⟩ := hok
    simp only [denJ] at hg
    cases hH : look c.H bid with
    | none => rw [hH] at hg; cases hg
    | some hx =>
      obtain ⟨hl, xl⟩ := hx
      rw [hH] at hg hok2
      simp only [Bool.and_eq_true] at hok2
      simp only [getC_eq] at hg
      obtain ⟨o', h1, h2⟩ := Option.bind_eq_some_iff.1 hg
      unfold loopC at h1
      split at h1
      case isFalse => cases h1
      rename_i hex
      refine wp_loop_rounds (Classical.choose hex) ?_
      refine loop_roundsJ (hl := hl) (xl := xl) hok2.1 hok2.2 (fun F O a w δ hI hV k r hg Q hQ => denJ_sound hT hS hm hJ b _ bid hok1 F O a w δ hI hV k r hg Q hQ) hQ h2 _ F O a w δ hI hV h1
  | .exit id, p, bid, _, F, O, a, w, δ, hI, hV, k, r, hg, Q, hQ => wp_exit (hQ _ _ _ ⟨⟨F, O, δ, hI, hg⟩, hV⟩)
  | .ret, p, bid, _, F, O, a, w, δ, hI, hV, k, r, hg, Q, hQ => wp_ret (hQ _ _ _ ⟨⟨F, O, δ, hI, hg⟩, hV⟩)
  | .label _, _, _, hok, _, _, _, _, _, _, _, _, _, _, _, _ => by simp [okCode] at hok
  | .goto _, _, _, hok, _, _, _, _, _, _, _, _, _, _, _, _ => by simp [okCode] at hok
  | .scope _, _, _, hok, _, _, _, _, _, _, _, _, _, _, _, _ => by simp [okCode] at hok


theorem fn_callsJ (hT : okT P c.T = true) (hS : ∀ f S, look c.S f = some S → Meets c.G P f S) (hm : P.follows .mixedOrders = true) {J : List (Nat × List Nat)} (hJ : okJ c J = true) {f : FuncId} {fn : Func} (hf : P.funcs[f]? = some fn) {pm rm : List Kd} (hok : okFn c fn pm rm = true) (hres : c.res = fn.results.toList)
    {ds rs us : List D} (hd : denFJ c J fn ds = some (.ret rs us)) {args : Array Value} {w : World} {F : Nat → Prop} {ow : Nat → Option Nat} (hgl : gOk c.G w F) (ha : ArgsOk w F ow 0 pm ds args.toList) (hF : ∀ b, F b → b < w.heap.size ∧ ow b = none) (hO : ∀ b i, ow b = some i → b < w.heap.size) :
    Calls P f args w fun e w' => ∃ v, e = .returned v ∧ ∃ F' R vs, v = resV vs ∧ CallPost { pm := pm, rm := rm, f := denFJ c J fn } args rs us w F ow F' R vs w' := by
  unfold okFn at hok
  simp only [Bool.and_eq_true, decide_eq_true_eq] at hok
  obtain ⟨⟨⟨⟨⟨hcode, hlenK⟩, hpre⟩, hpm⟩, hokr⟩, hios⟩ := hok
  rw [beq_iff, lenN_eq] at hlenK
  obtain ⟨hpl, hpn⟩ := prefK_nth hpre
  obtain ⟨hdl, hal, hargs⟩ := ArgsOk_at pm ds args.toList 0 ha
  have hasz : args.size = pm.length := by simpa using hal
  unfold denFJ at hd
  cases hb : fn.body with
  | none => rw [hb] at hd; cases hd
  | some b =>
    rw [hb] at hd hcode
    simp only at hd hcode
    refine calls_of_wp hf hb ?_
    have hav : ∀ s, s < pm.length → av ({ tmps := args ++ Array.replicate (fn.ntmps - args.size) undef, defers := [] } : Act) s = args.toList.getD s undef := fun s hs => by
      have h1 : s < args.size := by omega
      simp only [av, Array.getD_eq_getD_getElem?, List.getD_eq_getElem?_getD, Array.getElem?_toList]
      rw [Array.getElem?_append_left h1]
    have hinit : Inv c w.heap.size (fun b => ow b ≠ none) w F F (fun b => (ow b).map fun i => (i, 0)) { tmps := args ++ Array.replicate (fn.ntmps - args.size) undef, defers := [] } w (padTo fn.ntmps ds) := by
      refine ⟨by simp; omega, by rw [padTo_len, hlenK], rfl, fun s => ?_, fun b hb => ⟨(hF b hb).1, by simp [(hF b hb).2]⟩, fun b p hp => ?_, fun _ h => h, fun _ h => .inl h, Nat.le_refl _, rfl, rfl, rfl, fun _ _ _ => rfl, hgl⟩
      · unfold SlotOk
        rw [padTo_nth _ _ _ (by rw [hdl]; omega)]
        by_cases hs : s < pm.length
        · rw [hpn s hs, hav s hs]
          rcases hargs s hs with hbad | harg
          · exact .inl hbad
          refine .inr ?_
          have hlv : ∀ lv, lv ≠ 1 → ∀ b, FB F 0 lv b → FB F w.heap.size lv b := fun lv h1 b hb => by
            match lv, h1 with
            | 0, _ => exact hb
            | _ + 2, _ => exact hb
          rcases okPm_at hpm s hs with ⟨lv, hk, h1⟩ | ⟨z, lv, hk, h1⟩ | ⟨n, lv, hk, h1⟩
          · rw [hk] at harg ⊢
            exact .inr (RepV_mono (hlv lv h1) (fun _ _ => rfl) harg)
          · rw [hk] at harg ⊢
            exact .inr (OwnV_mono' (hlv lv h1) (fun _ _ => rfl) (fun g _ hg => ⟨⟨by simp only [Nat.zero_add] at hg; simp [hg], fun h => by cases h⟩, rfl⟩) harg)
          · rw [hk] at harg ⊢
            exact .inr (BoxV_mono' (hlv lv h1) (fun _ _ => rfl) (fun g _ hg => ⟨⟨by simp only [Nat.zero_add] at hg; simp [hg], fun h => by cases h⟩, rfl⟩) harg)
        · refine .inl ?_
          rw [nth_eq, List.getD_eq_getElem?_getD, List.getElem?_eq_none (by omega)]
          rfl
      · obtain ⟨i, hi, rfl⟩ := Option.map_eq_some_iff.1 hp
        exact ⟨hO b i hi, .inr (by rw [hi]; simp)⟩
    refine denJ_sound hT hS hm hJ b 1 0 hcode F _ _ w _ hinit (V := av { tmps := args ++ Array.replicate (fn.ntmps - args.size) undef, defers := [] }) (fun _ _ => rfl) _ _ hd _ (fun e a' w' hp => ?_)
    have fin : NextV c w.heap.size (fun b => ow b ≠ none) w F (av { tmps := args ++ Array.replicate (fn.ntmps - args.size) undef, defers := [] }) (fun δ => retK c δ some) (.ret rs us) a' w' → a'.defers = [] ∧ ∃ v, (results fn a'.tmps).run P w' = .ok v w' ∧ ∃ v', Ending.returned v = .returned v' ∧ ∃ F' R vs, v' = resV vs ∧ CallPost { pm := pm, rm := rm, f := denFJ c J fn } args rs us w F ow F' R vs w' := by
      rintro ⟨⟨F', O', δ', hI', hk⟩, hV'⟩
      obtain ⟨rs', h1, h2, h3⟩ := retK_is hk
      simp only [Option.some.injEq, Out.ret.injEq] at h3
      obtain ⟨rfl, rfl⟩ := h3
      obtain ⟨vs, g1, g2, g3, g4⟩ := res_run (P := P) hT hI' c.res rm rs' hokr h1
      refine ⟨hI'.df, resV vs, ?_, _, rfl, F', fun b => if w.heap.size ≤ b then (match O' b with
        | some (t, 0) => resIx c.res t 0
        | _ => none) else none, vs, rfl, ?_⟩
      · have hrun : (fn.results.mapM (getRes a'.tmps)).run P w' = .ok vs.toArray w' := by
          rw [Array.mapM_eq_mapM_toList, ← hres]
          simp [g1]
        have hrw : results fn a'.tmps = (do
            let vs ← fn.results.mapM (getRes a'.tmps)
            pure (if h : vs.size = 1 then vs[0] else .tuple vs)) := by
          unfold results
          congr 1
        rw [hrw]
        simp only [Sem.run_bind, hrun, Result.andThen_ok, Sem.run_pure]
        congr 1
        rcases vs with _ | ⟨y, _ | ⟨y', vs⟩⟩
        · simp [resV]
        · simp [resV]
        · simp [resV]
      · refine ⟨hI'.os, hI'.tape, hI'.output, hI'.bb, fun b hb ho => hI'.keep b hb (by simp [ho]), hI'.f0, fun b hb => ⟨hI'.fn b hb, (hI'.fl b hb).1, by simp only [(hI'.fl b hb).2]; split <;> rfl⟩, fun b j hj => ?_, g2, g3, fun j => ?_, ?_⟩
        · split at hj
          case isFalse => cases hj
          rename_i hB
          refine ⟨hB, ?_⟩
          split at hj
          · rename_i t he; exact (hI'.ol b _ he).1
          · cases hj
        · refine ResOk_mono (fun hk g hg => ?_) (g4 j)
          obtain ⟨z, lv, hk⟩ := hk
          obtain ⟨e1, t, e2, e3⟩ := hg
          rw [if_pos e1]
          simp only [e3]
          have := (resIx_own c.res rm hokr j t 0 z lv hk e2).1
          simpa using this
        · rw [hios]
          refine UsOk_of pm args.toList 0 hal (fun j hj hio => ?_)
          rw [Nat.zero_add]
          have hkj := hpn j hj
          have hbj : nth δ' j ≠ .bad := by
            refine h2 _ ?_
            rw [hios, getAll_map]
            exact List.mem_map_of_mem (by simpa using ioIdx_mem pm 0 j hj hio)
          have havj : av a' j = args.toList.getD j undef := (hV' j (by rw [hkj]; exact hio)).trans (hav j hj)
          have hlv : ∀ lv, lv ≠ 1 → ∀ b, FB F' w.heap.size lv b → FB F' 0 lv b := fun lv h1 b hb => by
            match lv, h1 with
            | 0, _ => exact hb
            | _ + 2, _ => exact hb
          refine ⟨hbj, .inr ?_⟩
          rcases okPm_at hpm j hj with ⟨lv, hk, h1⟩ | ⟨z, lv, hk, h1⟩ | ⟨n, lv, hk, h1⟩
          · rw [hk] at hio; cases hio
          · have h5 := hI'.own (hkj.trans hk) hbj
            rw [havj] at h5
            rw [hk]
            exact OwnV_mono' (hlv lv h1) (fun _ _ => rfl) (fun _ _ _ => ⟨trivial, rfl⟩) h5
          · have h5 := hI'.box (hkj.trans hk) hbj
            rw [havj] at h5
            rw [hk]
            exact BoxV_mono' (hlv lv h1) (fun _ _ => rfl) (fun _ _ _ => ⟨trivial, rfl⟩) h5
    cases e with
    | normal => exact fin hp
    | exit i =>
      obtain ⟨⟨_, _, _, _, h⟩, _⟩ := hp
      cases h
    | ret =>
      refine fin (NextV_mono hp fun δ F O _ h => ?_)
      obtain ⟨rs', h1, h2, h3⟩ := retK_is h
      exact retK_of h1 h2 h3
    | _ => exact hp.elim

theorem meets_ofJ (hT : okT P c.T = true) (hS : ∀ f S, look c.S f = some S → Meets c.G P f S) (hm : P.follows .mixedOrders = true) {J : List (Nat × List Nat)} (hJ : okJ c J = true) {f : FuncId} {fn : Func} (hf : P.funcs[f]? = some fn) (hname : (fn.name == "runtime.NumGoroutine") = false) {pm rm : List Kd} (hok : okFn c fn pm rm = true) (hres : c.res = fn.results.toList) :
    Meets c.G P f { pm := pm, rm := rm, f := denFJ c J fn } := by
  intro ds rs us hd args w F ow hgl ha hF hO o a next Q hn
  have hbody : ∃ b, fn.body = some b := by
    have hd' : denFJ c J fn ds = some (.ret rs us) := hd
    unfold denFJ at hd'
    cases hb : fn.body with
    | none => rw [hb] at hd'; cases hd'
    | some b => exact ⟨b, rfl⟩
  obtain ⟨b, hb⟩ := hbody
  have hrun : (callFunc f args).run P w = .ok (.enter f args) w := by
    have h1 : ¬ fn.name = "runtime.NumGoroutine" := by simpa using hname
    simp [callFunc, hf, h1, hb]
  rw [hrun, Oper.upon_enter]
  refine Calls.mono (fn_callsJ hT hS hm hJ hf hok hres hd hgl ha hF hO) (fun e w' he => ?_)
  obtain ⟨v, rfl, F', R, vs, h1, h2⟩ := he
  exact hn v w' ⟨F', R, vs, h1, h2⟩


end

/-- A join: what is so of all that comes to it is so of the whole. -/
theorem joinC_of {f : (List D → Option Out) → Option Out} {k : List D → Option Out} {r : Option Out} (p : List D → Prop) (hk : ∀ s, p s → k s = r) (hf : ∀ j : List D → Option Out, (∀ s, p s → j s = r) → f j = r) : joinC f k = r := hf k hk
end Go.V
/-
  impl.isDifferent: walked by hand, for it keeps a map.
-/
namespace Go.Proofs.YtecaabmaoaacnaaGreatDoor
open Go Go.V Go.RowKit Go.Maps
set_option linter.unusedSimpArgs false

/-- Are numbers different ones from 0 on, less than n? -/
def difG (n : Int) : List Int → List Int → Bool
  | [], _ => true
  | x :: l, seen => decide (0 ≤ x ∧ x ≤ n - 1) && !(decide (x ∈ seen)) && difG n l (x :: seen)
def inI (x : Int) : Prop := -9223372036854775808 ≤ x ∧ x ≤ 9223372036854775807
instance (x : Int) : Decidable (inI x) := by unfold inI; infer_instance
theorem e_within (a b c : Int) : F_impl_within [I a, I b, I c] = some (.ret [B (decide (b ≤ a ∧ a ≤ c))] []) := by
  rw [t_impl_within]
  by_cases h : b ≤ a <;> simp [h]

/-- A call of a function whose contract is said of data. -/
theorem calls_of_meets' {P : Program} {G : List (Nat × (Obj → Prop))} {f : FuncId} {S : FS} (he : ∀ args w, (callFunc f args).run P w = .ok (.enter f args) w) (hm : Meets G P f S) {ds rs us : List D} (hd : S.f ds = some (.ret rs us)) {args : Array Value} {w : World} {F : Nat → Prop} {ow : Nat → Option Nat}
    (hgl : gOk G w F) (ha : ArgsOk w F ow 0 S.pm ds args.toList) (hF : ∀ b, F b → b < w.heap.size ∧ ow b = none) (hO : ∀ b i, ow b = some i → b < w.heap.size) :
    Calls P f args w fun e w' => ∃ v, e = .returned v ∧ ∃ F' R vs, v = resV vs ∧ CallPost S args rs us w F ow F' R vs w' := by
  have h2 := hm ds rs us hd args w F ow hgl ha hF hO { (default : Oper) with dst := some 0 } { tmps := #[undef], defers := [] } (fun a w' => ∃ F' R vs, a.tmps.getD 0 undef = resV vs ∧ CallPost S args rs us w F ow F' R vs w') (fun _ _ _ => False) (fun v w' h => by
    obtain ⟨F', R, vs, rfl, h⟩ := h
    exact ⟨F', R, vs, by simp [Act.put], h⟩)
  rw [he, Oper.upon_enter] at h2
  refine Calls.mono h2 fun e w' he => ?_
  cases e with
  | returned v =>
    obtain ⟨F', R, vs, h3, h4⟩ := he
    exact ⟨v, rfl, F', R, vs, by simpa [Act.put] using h3, h4⟩
  | panicked c => exact he.elim
  | outgrown => obtain ⟨_, _, h⟩ := he; exact h.elim

/-- A call that hands one scalar back, of a function whose contract is said of data. -/
theorem calls_flat1 {P : Program} {G : List (Nat × (Obj → Prop))} {f : FuncId} {S : FS} (he : ∀ args w, (callFunc f args).run P w = .ok (.enter f args) w) (hm : Meets G P f S) {ds : List D} {y : Value} (f' : List D → Option Out) (hf' : S.f = f') (hd : f' ds = some (.ret [.v y] [])) (hrm : S.rm = [.dat 0]) {args : Array Value} {w : World} {F : Nat → Prop}
    (hgl : gOk G w F) (ha : ArgsOk w F (fun _ => none) 0 S.pm ds args.toList) (hF : ∀ b, F b → b < w.heap.size) : Calls P f args w fun e w' => e = .returned y ∧ Below w.heap.size w w' := by
  refine (calls_of_meets' he hm (hf' ▸ hd) hgl ha (fun b hb => ⟨hF b hb, rfl⟩) (fun b i h => by cases h)).mono ?_
  rintro e w' ⟨v, rfl, F', R, vs, rfl, hpost⟩
  have hl := hpost.len
  rw [hrm] at hl
  obtain ⟨u, rfl⟩ := List.length_eq_one_iff.1 hl
  have h0 := hpost.res 0
  rw [hrm] at h0
  simp only [nthK, nth, List.getD_cons_zero] at h0
  rcases h0 with h0 | h0
  · cases h0
  exact ⟨by rw [resV, (RepV_v.1 h0).1], ⟨hpost.os, hpost.tape, hpost.output, hpost.size, fun b hb => hpost.keep b hb rfl⟩⟩
set_option maxRecDepth 100000 in
theorem call_within (a b c : Int) (w : World) : Calls Tryz.prog 49 #[.int .i64 a, .int .i64 b, .int .i64 c] w fun e w' => e = .returned (.bool (decide (b ≤ a ∧ a ≤ c))) ∧ Below w.heap.size w w' :=
  calls_flat1 (Go.Proofs.enters_of Tryz.func49 (by kernel_rfl) rfl) M_impl_within F_impl_within rfl (e_within a b c) rfl (F := fun _ => False) gOk_nil
    (show ArgOk w _ _ (.dat 0) (I a) (.int .i64 a) ∧ ArgOk w _ _ (.dat 0) (I b) (.int .i64 b) ∧ ArgOk w _ _ (.dat 0) (I c) (.int .i64 c) ∧ True from ⟨.inr (RepV_v.2 ⟨rfl, rfl⟩), .inr (RepV_v.2 ⟨rfl, rfl⟩), .inr (RepV_v.2 ⟨rfl, rfl⟩), trivial⟩) (fun b h => h.elim)

/-! ### a set of numbers: map[int]bool -/
section
variable {H : Type} {P : Program} {k : TypeId} {w : World} {b n : Nat} {D : DataW H}
theorem plainElem_bool_inv {e : TypeId} (he : P.underlying e = some .bool) {v : Value} {z : DataW H × List MemPlace} (h : plainElem P e v = some z) : ∃ x, v = .bool x ∧ z = (.lit (.bool x), []) := by
  unfold plainElem at h
  rw [he] at h
  cases v <;> simp at h
  exact ⟨_, rfl, h.symm⟩
theorem lookup_bool {t e : TypeId} (h : w.ownsMap P k (plainElem P e) b n D) (K : Keyed P k) (ht : P.underlying t = some (.map k e)) (he : P.underlying e = some .bool) (hz : (zeroValue e).run P w = .ok (.bool false) w)
    {key : Value} {kl : Lit} (hkey : keyOf P k key = some kl) : ∃ c, (Instr.lookup t (.map (some b)) key false).run P w = .ok (.bool c) w ∧ D.atKey kl (.lit (.bool false)) = .lit (.bool c) := by
  obtain ⟨v, ps, hrun, hv⟩ := h.lookup K ht hz (plainElem_bool he false) hkey
  obtain ⟨c, rfl, hc⟩ := plainElem_bool_inv he hv
  simp only [Prod.mk.injEq] at hc
  exact ⟨c, hrun, hc.1⟩
theorem owns_kept {R : Value → Option (DataW H × List MemPlace)} {w' : World} (h : w.ownsMap P k R b n D) (hB : Below w.heap.size w w') : w'.ownsMap P k R b n D := by
  obtain ⟨es, clock, hb, r⟩ := h
  exact ⟨es, clock, (hB.block b (Array.getElem?_eq_some_iff.1 hb).1).trans hb, r⟩
end
/-- What a set holds. -/
def SetIs (D : DataW Unit) (seen : List Int) : Prop := IsMap D ∧ ∀ x : Int, D.atKey (.int .i64 x) (.lit (.bool false)) = .lit (.bool (decide (x ∈ seen)))
theorem set_nil : SetIs (.map []) [] := ⟨⟨_, rfl⟩, fun x => by simp [DataW.atKey]⟩
theorem set_put {D : DataW Unit} {seen : List Int} (h : SetIs D seen) (x : Int) : SetIs (D.put (.int .i64 x) (.lit (.bool true))) (x :: seen) := by
  refine ⟨?_, fun y => ?_⟩
  · obtain ⟨es, rfl⟩ := h.1
    exact ⟨_, rfl⟩
  · by_cases hy : y = x
    · subst hy
      rw [atKey_put_same h.1 (show WideAt.IsKeyLit (.int .i64 y) from trivial)]
      simp
    · rw [atKey_put_other (by intro e; exact hy (by injection e)), h.2 y]
      simp [hy]

theorem key_law : Keyed Tryz.prog 3 := int_keyed Tryz.underlying3
theorem key_ok {x : Int} (h : inI x) : keyOf Tryz.prog 3 (.int .i64 x) = some (.int .i64 x) := keyOf_int_mk Tryz.underlying3 (by
  simp only [Lit.wf, Bool.and_eq_true, decide_eq_true_eq]
  exact h)
theorem zero_bool (w : World) : (zeroValue 4).run Tryz.prog w = .ok (.bool false) w := by kernel_rfl

set_option maxHeartbeats 4000000 in
set_option maxRecDepth 1000000 in
theorem isDifferent_walk (l : List Int) (n : Int) (hin : ∀ x ∈ l, inI x) (hl : l.length ≤ 1048576) (h0 : 0 ≤ n) (hn : n ≤ 1048576) (A : Option Addr) (c : Nat) (w : World)
    (hA : l ≠ [] → ∃ b o, A = some ⟨b, o, none⟩ ∧ b < w.heap.size ∧ ∀ (i : Nat) (x : Int), l[i]? = some x → w.cell? ⟨b, o + i, none⟩ = some (.int .i64 x)) :
    Calls Tryz.prog 43 #[.slice A l.length c, .int .i64 n] w fun e w' => e = .returned (.bool (difG n l [])) ∧ Below w.heap.size w w' := by
  have hmm := @run_makeMap Tryz.prog
  go_enter Tryz.func43, Tryz.ntmps43
  go_wp2
  go_loopw [11] (fun i wr => ∃ (k : Nat) (seen : List Int) (D : DataW Unit), i = .int .i64 k ∧ k ≤ l.length ∧ difG n (l.drop k) seen = difG n l [] ∧ SetIs D seen ∧ wr.ownsMap Tryz.prog 3 (plainElem Tryz.prog 4) w.heap.size k D ∧ Below w.heap.size w wr)
    (fun i _ => l.length - (intOf i).toNat)
  case atStart => exact ⟨0, [], .map [], rfl, Nat.zero_le _, rfl, set_nil, World.ownsMap_made _ _ _ _, (Below.refl _ _).alloc (Nat.le_refl _) _⟩
  case round =>
    obtain ⟨k, seen, D, rfl, hk, hd, hS, hown, hbw⟩ := hrel
    by_cases hp : k < l.length
    · have hpi : (k : Int) < (l.length : Int) := by omega
      obtain ⟨b, o, rfl, hb, hcell⟩ := hA (fun h => by rw [h] at hp; exact absurd hp (Nat.not_lt_zero _))
      have c0 : wr.cell? ⟨b, o + k, none⟩ = some (.int .i64 l[k]) := (World.cell?_of_block (hbw.block b hb)).trans (hcell k _ (List.getElem?_eq_getElem hp))
      have hx := hin l[k] (List.getElem_mem hp)
      have hw1 : IntKind.i64.wrap (n - 1) = n - 1 := wrap_id (by omega) (by omega)
      have hcall := call_within l[k] 0 (n - 1) wr
      go_wp2_with (go_at_call 49; refine hcall.mono ?_)
      rintro e W1 ⟨rfl, b1⟩
      have hown1 := owns_kept hown b1
      have hb1 := hbw.trans (b1.mono hbw.size)
      obtain ⟨c, hrun, hat⟩ := lookup_bool hown1 key_law Tryz.underlying82 Tryz.underlying4 (zero_bool W1) (key_ok hx)
      rw [hS.2] at hat
      have hc : decide (l[k] ∈ seen) = c := by injection hat with hat; injection hat
      rw [List.drop_eq_getElem_cons hp] at hd
      simp only [difG] at hd
      by_cases hin : 0 ≤ l[k] ∧ l[k] ≤ n - 1
      · cases c
        · rw [hc] at hd
          simp only [hin, and_self, decide_true, Bool.not_false, Bool.true_and] at hd
          simp only [hin, and_self, decide_true]
          go_wp2_with (first
            | (at_mapUpdate; refine wpList_mapUpdate_own _ rfl _ _ _ 82 rfl 3 4 key_law Tryz.underlying82 _ w.heap.size k _ rfl hown1 (by unfold maxLen; omega) _ _ _ rfl rfl (key_ok hx) _ [] (plainElem_bool Tryz.underlying4 true) ?_; intro w2 hown2 hgrow2)
            | go_in)
          refine ⟨⟨k + 1, l[k] :: seen, _, congrArg (Value.int .i64) (by omega), by omega, hd, set_put hS l[k], hown2, hb1.grown hgrow2 hb1.size (fun j hj => by cases hj; exact Nat.le_refl _)⟩, ?_⟩
          show l.length - ((k : Int) + 1).toNat < l.length - (k : Int).toNat
          omega
        · rw [hc] at hd
          simp only [Bool.not_true, Bool.and_false, Bool.false_and] at hd
          have hd' := hd.symm
          clear hd
          simp only [hin, and_self, decide_true]
          go_wp2
          go_ret
          exact ⟨by rw [hd']; rfl, hb1⟩
      · simp only [hin, decide_false, Bool.false_and] at hd
        have hd' := hd.symm
        clear hd
        simp only [hin, decide_false]
        go_wp2
        go_ret
        exact ⟨by rw [hd']; rfl, hb1⟩
    · have hpi : ¬ (k : Int) < (l.length : Int) := by omega
      rw [List.drop_eq_nil_of_le (by omega)] at hd
      have hd' : difG n l [] = true := hd.symm
      clear hd
      go_wp2
      go_ret
      exact ⟨rfl, hbw⟩

theorem size2 {args : Array Value} {y y' : Value} (h : args.toList = [y, y']) : args = #[y, y'] := by
  apply Array.ext'
  rw [h]
/-- Numbers out of data. -/
def intsOf : List D → Option (List Int)
  | [] => some []
  | .v (.int .i64 a) :: l => if inI a then (intsOf l).map (a :: ·) else none
  | _ => none
theorem intsOf_some : ∀ (ds : List D) (l : List Int), intsOf ds = some l → ds = l.map (fun n => I n) ∧ ∀ x ∈ l, inI x := by
  intro ds
  induction ds with
  | nil => intro l h; cases h; simp
  | cons d ds ih =>
    intro l h
    unfold intsOf at h
    split at h
    · rename_i e; cases e
    · rename_i a m e
      cases e
      split at h
      · rename_i ha
        obtain ⟨m', h2, rfl⟩ := Option.map_eq_some_iff.1 h
        obtain ⟨g1, g2⟩ := ih m' h2
        rw [g1]
        refine ⟨rfl, fun x hx => ?_⟩
        rcases List.mem_cons.1 hx with rfl | hx
        · exact ha
        · exact g2 x hx
      · cases h
    · cases h
theorem intsOf_map : ∀ (l : List Int), (∀ x ∈ l, inI x) → intsOf (l.map fun n => I n) = some l
  | [], _ => rfl
  | x :: l, h => by
    simp only [List.map_cons, intsOf]
    rw [if_pos (h x (by simp)), intsOf_map l fun y hy => h y (by simp [hy])]
    rfl
theorem rep_ints {w : World} {F : Nat → Prop} : ∀ (l : List Int) (us : List Value), RepL w F (l.map fun n => I n) us → us = l.map fun n => .int .i64 n
  | [], us, h => RepL_nil.1 h
  | x :: l, us, h => by
    obtain ⟨v1, v2, rfl, h1, h2⟩ := RepL_cons.1 h
    simp only [RepC] at h1
    rw [rep_ints l v2 h2, h1.1]
    rfl
def fDif : List D → Option Out
  | [.arr _ ds, .v (.int .i64 n)] => (intsOf ds).bind fun l => if l.length ≤ 1048576 ∧ 0 ≤ n ∧ n ≤ 1048576 then some (.ret [B (difG n l [])] []) else none
  | _ => none
@[reducible] def S_impl_isDifferent : FS := { pm := [.dat 2, .dat 0], rm := [.dat 0], f := fDif }
set_option maxRecDepth 100000 in
theorem M_impl_isDifferent : Meets gl0 Tryz.prog 43 S_impl_isDifferent := by
  have he : ∀ args w, (callFunc 43 args).run Tryz.prog w = .ok (.enter 43 args) w := Go.Proofs.enters_of Tryz.func43 (by kernel_rfl) rfl
  refine meets_of_calls he fun ds rs us hd args w F ow hg ha hF _ => ?_
  obtain ⟨d, y, d', y', rfl, h2, h3, h4⟩ := args_two ha
  replace hd : fDif [d, d'] = some (.ret rs us) := hd
  unfold fDif at hd
  split at hd
  case h_2 => cases hd
  rename_i z ds n e
  cases e
  obtain ⟨l, hl, hd⟩ := Option.bind_eq_some_iff.1 hd
  split at hd
  case isFalse => cases hd
  rename_i hz
  cases hd
  obtain ⟨rfl, hin⟩ := intsOf_some _ _ hl
  obtain ⟨rfl, _⟩ := argD h4
  rcases h3 with h3 | h3
  · cases h3
  simp only [RepV, RepC] at h3
  obtain ⟨A, c, us, hy, hc, hr, _, hA⟩ := h3
  simp only [List.cons.injEq, and_true] at hy
  subst hy
  have hus := rep_ints l us hr
  subst hus
  rw [size2 h2]
  rw [List.length_map] at hc ⊢
  refine (isDifferent_walk l n hin hz.1 hz.2.1 hz.2.2 A c w (fun hne => ?_)).mono ?_
  · obtain ⟨b, o, rfl, h5, h6⟩ := hA (by simpa using hne)
    refine ⟨b, o, rfl, (hF b h5).1, fun i x hx => h6 i _ (by simp [hx])⟩
  · rintro e w' ⟨rfl, hB⟩
    refine ⟨_, rfl, F, _, [_], rfl, post_flat hB hF rfl rfl [_] [_] rfl rfl fun j d hj => ?_⟩
    match j, hj with
    | 0, hj =>
      simp only [List.getElem?_cons_zero, Option.some.injEq] at hj
      subst hj
      exact ⟨_, rfl, RepV_v.2 ⟨rfl, rfl⟩⟩
end Go.Proofs.YtecaabmaoaacnaaGreatDoor
/-
  The evaluator with recasts: from some place of a function on, slots that own a slice hold plain data (what is handed back, and read beside).
-/
namespace Go.V
open Go.RowKit
set_option linter.unusedSimpArgs false

@[reducible] def frz1 (K : List Kd) (fz : List Nat) (s : Nat) (k : Kd) : Kd :=
  match k with
  | .own z lv false => match memN s fz with
    | true => .dat (maxN 1 lv)
    | false => .own z lv false
  | .via r => match memN r fz with
    | true => .dat (maxN 1 (rootLv K r))
    | false => .via r
  | .ref r => match memN r fz with
    | true => .dat (maxN 1 (rootLv K r))
    | false => .ref r
  | k => k
@[reducible] def frzL (K : List Kd) (fz : List Nat) : List Kd → Nat → List Kd
  | [], _ => []
  | k :: l, s => frz1 K fz s k :: frzL K fz l (Nat.succ s)
@[reducible] def rcx (c : Cx) (fz : List Nat) : Cx := { c with K := frzL c.K fz c.K 0 }
@[reducible] def retO (k : Out → Option Out) (o : Out) : Option Out :=
  match o with
  | .nrm _ => none
  | .ext _ _ => none
  | .ret a b => k (.ret a b)
/-- What a copy of a slot holds, once that slot's slice is plain data. -/
def viaD (p x : D) : D :=
  match p with
  | .bad => .bad
  | _ => x
@[reducible] def viaC (K : List Kd) (δ : List D) : List Nat → (List D → Option Out) → Option Out
  | [], k => k []
  | s :: ss, k => match nthK K s with
    | .via r => nthC δ s fun p => nthC δ r fun x => viaC K δ ss fun l => k (viaD p x :: l)
    | _ => viaC K δ ss fun l => k (.bad :: l)
@[reducible] noncomputable def denR (c : Cx) (R : List (Nat × List Nat)) : Nat → Nat → Code → List D → (Out → Option Out) → Option Out
  | p, bid, .seq a b, δ, k => denR c R (Nat.mul 2 p) bid a δ fun o => seqK o (fun δ' => match look R p with
      | some fz => viaC c.K δ' (depsAll c.K fz) fun l => setManyC δ' (depsAll c.K fz) l fun δ'' => den (rcx c fz) bid b δ'' (retO k)
      | none => denR c R (Nat.add (Nat.mul 2 p) 1) bid b δ' k) k
  | p, bid, .cond x t e, δ, k => opC δ x fun q => ifD q (denR c R (Nat.mul 2 p) bid t δ k) (denR c R (Nat.add (Nat.mul 2 p) 1) bid e δ k)
  | p, _, .block id b, δ, k => denR c R (Nat.mul 2 p) id b δ fun o => blkK id o k
  | _, bid, x, δ, k => den c bid x δ k
@[reducible] noncomputable def denFR (c : Cx) (R : List (Nat × List Nat)) (fn : Func) (ds : List D) : Option Out :=
  match fn.body with
  | none => none
  | some b => denR c R 1 0 b (padTo fn.ntmps ds) fun o => match o with
    | .nrm δ => resC c δ c.res fun rs => getC δ c.ios fun us => usK us (some (.ret rs us))
    | .ext _ _ => none
    | .ret rs us => some (.ret rs us)
def resSl : List ResultVar → List Nat
  | [] => []
  | .tmp t :: l => t :: resSl l
  | .cell a _ :: l => a :: resSl l
def chgS (c : Cx) (fz : List Nat) : List Nat := fz ++ depsAll c.K fz
def okFz (c : Cx) (fz : List Nat) : Bool :=
  (fz.all fun s => match nthK c.K s with
    | .own _ _ false => true
    | _ => false) && ((resSl c.res).all fun s => !memN s (chgS c fz)) && (c.ios.all fun s => !memN s (chgS c fz))
def okCodeR (c : Cx) (R : List (Nat × List Nat)) : Nat → Nat → Code → Bool
  | p, bid, .seq a b => okCodeR c R (Nat.mul 2 p) bid a && (match look R p with
      | some fz => okFz c fz && okCode (rcx c fz) bid b
      | none => okCodeR c R (Nat.add (Nat.mul 2 p) 1) bid b)
  | p, bid, .cond x t e => Nat.ble (lvOf c.K x) 2 && okCodeR c R (Nat.mul 2 p) bid t && okCodeR c R (Nat.add (Nat.mul 2 p) 1) bid e
  | p, _, .block id b => okCodeR c R (Nat.mul 2 p) id b
  | _, bid, x => okCode c bid x
def okFnR (c : Cx) (R : List (Nat × List Nat)) (fn : Func) (pm rm : List Kd) : Bool :=
  (match fn.body with
    | some b => okCodeR c R 1 0 b
    | none => false) && Nat.beq (lenN c.K) fn.ntmps && prefK pm c.K && okPm pm && okRes c c.res rm && decide (c.ios = ioIdx 0 pm)

section
variable {P : Program} {c : Cx} {B : Nat} {X : Nat → Prop} {w0 : World} {F0 F : Nat → Prop} {O : Nat → Option (Nat × Nat)} {a : Act} {w : World} {δ : List D} {fz : List Nat}

theorem len_frzL (K : List Kd) (fz : List Nat) : ∀ (l : List Kd) (s : Nat), (frzL K fz l s).length = l.length
  | [], _ => rfl
  | _ :: l, s => by simp [frzL, len_frzL K fz l]
theorem nthK_frzL (K : List Kd) (fz : List Nat) : ∀ (l : List Kd) (s i : Nat), nthK (frzL K fz l s) i = frz1 K fz (s + i) (nthK l i)
  | [], s, i => by simp [frzL, nthK, frz1]
  | k :: l, s, 0 => by simp [frzL, nthK]
  | k :: l, s, i + 1 => by
    simp only [frzL, nthK]
    rw [nthK_frzL K fz l (Nat.succ s) i, show Nat.succ s + i = s + (i + 1) by omega]
theorem nthK_rcx (c : Cx) (fz : List Nat) (s : Nat) : nthK (rcx c fz).K s = frz1 c.K fz s (nthK c.K s) := by
  show nthK (frzL c.K fz c.K 0) s = _
  rw [nthK_frzL, Nat.zero_add]
theorem okFz_own (h : okFz c fz = true) {s : Nat} (hs : s ∈ fz) : ∃ z lv, nthK c.K s = .own z lv false := by
  unfold okFz at h
  simp only [Bool.and_eq_true, List.all_eq_true] at h
  have := h.1.1 s hs
  split at this
  · exact ⟨_, _, ‹_›⟩
  · cases this
theorem memN_t {s : Nat} {l : List Nat} (h : s ∈ l) : memN s l = true := by rw [memN_eq]; exact decide_eq_true h
theorem memN_f {s : Nat} {l : List Nat} (h : s ∉ l) : memN s l = false := by rw [memN_eq]; exact decide_eq_false h
theorem frz_root {r : Nat} (hr : r ∉ fz) (h : isRoot c.K r) : nthK (rcx c fz).K r = nthK c.K r := by
  rw [nthK_rcx]
  unfold isRoot at h
  generalize nthK c.K r = k at h
  cases k
  case own z lv io => cases io <;> simp [frz1, memN_f hr]
  case box n lv io => rfl
  all_goals exact h.elim
theorem frz_back {r : Nat} (h : isRoot (rcx c fz).K r) : isRoot c.K r ∧ nthK (rcx c fz).K r = nthK c.K r := by
  unfold isRoot at h ⊢
  rw [nthK_rcx] at h ⊢
  generalize nthK c.K r = k at h
  cases k
  case own z lv io =>
    refine ⟨trivial, ?_⟩
    cases io
    case true => rfl
    by_cases hr : r ∈ fz
    · simp [frz1, memN_t hr] at h
    · simp [frz1, memN_f hr]
  case box n lv io => exact ⟨trivial, rfl⟩
  case via r' => by_cases hr : r' ∈ fz <;> simp [frz1, memN_t, memN_f, hr] at h
  case ref r' => by_cases hr : r' ∈ fz <;> simp [frz1, memN_t, memN_f, hr] at h
  all_goals exact h.elim
theorem frz_io (s : Nat) : isIo (nthK (rcx c fz).K s) = isIo (nthK c.K s) := by
  rw [nthK_rcx]
  generalize nthK c.K s = k
  cases k
  case own z lv io =>
    cases io
    case true => rfl
    by_cases hr : s ∈ fz
    · simp [frz1, memN_t hr, isIo]
    · simp [frz1, memN_f hr]
  case via r' => by_cases hr : r' ∈ fz <;> simp [frz1, memN_t, memN_f, hr, isIo]
  case ref r' => by_cases hr : r' ∈ fz <;> simp [frz1, memN_t, memN_f, hr, isIo]
  all_goals rfl
theorem isOwn_of {K K' : List Kd} {r : Nat} (h : nthK K' r = nthK K r) : isOwn K' r = isOwn K r := by unfold isOwn; rw [h]
theorem FB_one {F' : Nat → Prop} {b lv : Nat} (h1 : F' b) (h2 : B ≤ b) : FB F' B (maxN 1 lv) b := by
  rw [maxN_eq]
  match lv with
  | 0 => exact ⟨h1, h2⟩
  | 1 => exact ⟨h1, h2⟩
  | n + 2 =>
    rw [Nat.max_eq_right (by omega)]
    exact h1

def viaF (K : List Kd) (δ : List D) (s : Nat) : D :=
  match nthK K s with
  | .via r => viaD (nth δ s) (nth δ r)
  | _ => .bad
theorem viaC_eq (K : List Kd) (δ : List D) : ∀ (ss : List Nat) (k : List D → Option Out), viaC K δ ss k = k (ss.map (viaF K δ))
  | [], _ => rfl
  | s :: ss, k => by
    simp only [viaC, List.map_cons, viaF]
    split
    · simp only [nthC_eq]
      exact viaC_eq K δ ss _
    · exact viaC_eq K δ ss _
theorem nth_setMany_map (f : Nat → D) : ∀ (ss : List Nat) (δ : List D) (s : Nat), s ∈ ss → nth (setMany δ ss (ss.map f)) s = if s < δ.length then f s else .bad
  | i :: ss, δ, s, h => by
    simp only [List.map_cons, setMany]
    by_cases hs : s ∈ ss
    · rw [nth_setMany_map f ss _ s hs, len_setAt]
    · rw [nth_setMany_notin _ _ _ _ hs]
      have : s = i := by simpa [hs] using h
      subst this
      exact nth_setAt_eq _ _ _

open Classical in
/-- What some slots own is from now on plain data. -/
theorem Inv.recast (h : Inv c B X w0 F0 F O a w δ) (hfz : okFz c fz = true) : ∃ F' O', Inv (rcx c fz) B X w0 F0 F' O' a w (setMany δ (depsAll c.K fz) ((depsAll c.K fz).map (viaF c.K δ))) := by
  let G : Nat → Prop := fun b => ∃ s ∈ fz, O b = some (s, 0) ∧ B ≤ b
  have hF : ∀ b, F b → F b ∨ G b := fun b hb => .inl hb
  have hG : ∀ (b s i : Nat), O b = some (s, i) → (i = 0 → s ∉ fz) → ¬ G b := by
    rintro b s i h1 h2 ⟨s', h3, h4, _⟩
    rw [h1] at h4
    cases h4
    exact h2 rfl h3
  refine ⟨fun b => F b ∨ G b, fun b => if G b then none else O b, ?_⟩
  have hO : ∀ (b s i : Nat), (i = 0 → s ∉ fz) → O b = some (s, i) → (if G b then none else O b) = some (s, i) := fun b s i h2 h1 => by rw [if_neg (hG b s i h1 h2), h1]
  have own : ∀ r ∈ fz, nth δ r ≠ .bad → RepV w (FB (fun b => F b ∨ G b) B (maxN 1 (rootLv c.K r))) (nth δ r) (av a r) := by
    intro r hr hb
    obtain ⟨z, lv, hk⟩ := okFz_own hfz hr
    have h0 := (h.slot r).resolve_left hb
    rw [hk] at h0
    have h1 := h0.resolve_left hb
    simp only [rootLv, hk]
    refine RepV_mono (fun b hb => ?_) (fun _ _ => rfl) (OwnV_rep h1)
    rcases hb with hb | hb
    · exact FB_le (by rw [maxN_eq]; exact Nat.le_max_right _ _) b (FB_mono hF b hb)
    · exact FB_one (.inr ⟨r, hr, hb.1, hb.2 rfl⟩) (hb.2 rfl)
  refine ⟨h.la.trans (len_frzL _ _ _ _).symm, (len_setMany _ _ _).trans (h.ld.trans (len_frzL _ _ _ _).symm), h.df, fun s => ?_, fun b hb => ?_, fun b p hp => ?_, fun b hb => .inl (h.f0 b hb), fun b hb => ?_, h.bb, h.os, h.tape, h.output, h.keep, gOk_mono (fun b hb => .inl hb) (fun _ _ => rfl) h.gl⟩
  · by_cases hd : s ∈ depsAll c.K fz
    · by_cases hlt : s < δ.length
      case neg =>
        refine .inl ?_
        rw [nth_setMany_map _ _ _ _ hd, if_neg hlt]
      have e : nth (setMany δ (depsAll c.K fz) ((depsAll c.K fz).map (viaF c.K δ))) s = viaF c.K δ s := by rw [nth_setMany_map _ _ _ _ hd, if_pos hlt]
      obtain ⟨r, hr, hk⟩ := depsAll_kind _ hd
      rcases hk with hk | hk
      case inr => exact .inl (e.trans (by simp only [viaF, hk]))
      have e2 : viaF c.K δ s = viaD (nth δ s) (nth δ r) := by simp only [viaF, hk]
      by_cases hb : nth δ s = .bad
      · refine .inl (e.trans (e2.trans ?_))
        rw [hb]
        rfl
      have e3 : viaD (nth δ s) (nth δ r) = nth δ r := by
        generalize nth δ s = q at hb
        cases q <;> first | rfl | exact absurd rfl hb
      have h0 := (h.slot s).resolve_left hb
      rw [hk] at h0
      obtain ⟨b1, b2, b3, b4⟩ := h0
      refine .inr ?_
      rw [nthK_rcx, hk, e, e2, e3]
      simp only [frz1, memN_t hr]
      exact .inr (by rw [b1]; exact own r hr b3)
    have e : nth (setMany δ (depsAll c.K fz) ((depsAll c.K fz).map (viaF c.K δ))) s = nth δ s := nth_setMany_notin _ _ _ _ hd
    by_cases hb : nth δ s = .bad
    · exact .inl (e.trans hb)
    have h0 := (h.slot s).resolve_left hb
    refine .inr ?_
    have hkeep : ∀ r, isRoot c.K r → nth (setMany δ (depsAll c.K fz) ((depsAll c.K fz).map (viaF c.K δ))) r = nth δ r := fun r hr => nth_setMany_notin _ _ _ _ (root_notinAll hr _)
    rw [nthK_rcx, e]
    generalize hk : nthK c.K s = k at h0
    cases k
    case dat lv => exact h0.imp id (RepV_mono (FB_mono hF) (fun _ _ => rfl))
    case own z lv io =>
      have h1 := h0.resolve_left hb
      by_cases hs : s ∈ fz
      · obtain ⟨z', lv', hk'⟩ := okFz_own hfz hs
        rw [hk] at hk'
        cases hk'
        simp only [frz1, memN_t hs]
        have ho := own s hs hb
        simp only [rootLv, hk] at ho
        exact .inr ho
      · have e2 : frz1 c.K fz s (.own z lv io) = .own z lv io := by cases io <;> simp [frz1, memN_f hs]
        rw [e2]
        exact .inr (OwnV_mono (FB_mono hF) (fun _ _ => rfl) (fun g hg => ⟨⟨hO g s 0 (fun _ => hs) hg.1, hg.2⟩, rfl⟩) h1)
    case box n lv io =>
      have h1 := h0.resolve_left hb
      have hs : s ∉ fz := fun hs => by
        obtain ⟨z', lv', hk'⟩ := okFz_own hfz hs
        rw [hk] at hk'
        cases hk'
      exact .inr (BoxV_mono (FB_mono hF) (fun _ _ => rfl) (fun g hg => ⟨⟨hO g s 0 (fun _ => hs) hg.1, hg.2⟩, rfl⟩) h1)
    case via r =>
      have hr : r ∉ fz := fun hr => hd (mem_depsAll (.inl hk) _ hr)
      obtain ⟨b1, b2, b3, b4⟩ := h0
      simp only [frz1, memN_f hr]
      exact ⟨b1, b2, by rw [hkeep r (isOwn_root b4)]; exact b3, by rw [isOwn_of (frz_root hr (isOwn_root b4))]; exact b4⟩
    case ref r =>
      have hr : r ∉ fz := fun hr => hd (mem_depsAll (.inr hk) _ hr)
      obtain ⟨i, f, b1, b2, b3⟩ := h0
      simp only [frz1, memN_f hr]
      exact ⟨i, f, b1, by rw [hkeep r (RefV_root b3)]; exact b2, by rw [frz_root hr (RefV_root b3)]; exact b3⟩
    case tup ms =>
      obtain ⟨l, vs, b1, b2, b3⟩ := h0
      exact ⟨l, vs, b1, b2, fun i => Lone_mono hF (fun _ _ => rfl) (fun g hg => ⟨hO g s (i + 1) (fun h => by omega) hg, rfl⟩) (b3 i)⟩
    case no => trivial
  · rcases hb with hb | hb
    · obtain ⟨h1, h2⟩ := h.fl b hb
      refine ⟨h1, ?_⟩
      simp only [h2]
      split <;> rfl
    · obtain ⟨s, h1, h2, h3⟩ := hb
      exact ⟨(h.ol b _ h2).1, if_pos ⟨s, h1, h2, h3⟩⟩
  · split at hp
    · cases hp
    · exact h.ol b p hp
  · rcases hb with hb | ⟨s, h1, h2, h3⟩
    · exact h.fn b hb
    · exact .inr h3
/-- Back to the function's own kinds: what was recast is void. -/
theorem Inv.uncast (h : Inv (rcx c fz) B X w0 F0 F O a w δ) : Inv c B X w0 F0 F O a w (setMany δ (chgS c fz) []) := by
  refine ⟨h.la.trans (len_frzL _ _ _ _), (len_setMany _ _ _).trans (h.ld.trans (len_frzL _ _ _ _)), h.df, fun s => ?_, h.fl, h.ol, h.f0, h.fn, h.bb, h.os, h.tape, h.output, h.keep, h.gl⟩
  by_cases hd : s ∈ chgS c fz
  · exact .inl (nth_kill _ _ _ hd)
  have e : nth (setMany δ (chgS c fz) []) s = nth δ s := nth_setMany_notin _ _ _ _ hd
  by_cases hb : nth δ s = .bad
  · exact .inl (e.trans hb)
  have h0 := (h.slot s).resolve_left hb
  refine .inr ?_
  have hs : s ∉ fz := fun hs => hd (List.mem_append_left _ hs)
  have hdp : s ∉ depsAll c.K fz := fun hs => hd (List.mem_append_right _ hs)
  have hkeep : ∀ r, r ∉ fz → isRoot c.K r → nth (setMany δ (chgS c fz) []) r = nth δ r := fun r h1 h2 => nth_setMany_notin _ _ _ _ fun hm => by
    rcases List.mem_append.1 hm with hm | hm
    · exact h1 hm
    · exact root_notinAll h2 _ hm
  rw [nthK_rcx] at h0
  rw [e]
  generalize hk : nthK c.K s = k at h0
  cases k
  case own z lv io =>
    have e2 : frz1 c.K fz s (.own z lv io) = .own z lv io := by cases io <;> simp [frz1, memN_f hs]
    rw [e2] at h0
    exact h0
  case via r =>
    have hr : r ∉ fz := fun hr => hdp (mem_depsAll (.inl hk) _ hr)
    simp only [frz1, memN_f hr] at h0
    obtain ⟨b1, b2, b3, b4⟩ := h0
    obtain ⟨g1, g2⟩ := frz_back (isOwn_root b4)
    exact ⟨b1, b2, by rw [hkeep r hr g1]; exact b3, by rw [← isOwn_of g2]; exact b4⟩
  case ref r =>
    have hr : r ∉ fz := fun hr => hdp (mem_depsAll (.inr hk) _ hr)
    simp only [frz1, memN_f hr] at h0
    obtain ⟨i, f, b1, b2, b3⟩ := h0
    obtain ⟨g1, g2⟩ := frz_back (RefV_root b3)
    exact ⟨i, f, b1, by rw [hkeep r hr g1]; exact b2, by rw [← g2]; exact b3⟩
  all_goals exact h0

theorem resC_recast : ∀ (l : List ResultVar) (δ δ' : List D) (k : List D → Option Out), (∀ t ∈ resSl l, nth δ t = nth δ' t) → resC (rcx c fz) δ l k = resC c δ' l k
  | [], _, _, _, _ => rfl
  | .tmp t :: l, δ, δ', k, h => by
    simp only [resC, nthC_eq]
    rw [h t (by simp [resSl])]
    exact resC_recast l δ δ' _ fun t ht => h t (by simp [resSl, ht])
  | .cell b t :: l, δ, δ', k, h => by
    simp only [resC, nthC_eq]
    rw [h b (by simp [resSl])]
    cases look c.T t with
    | none => rfl
    | some i =>
      simp only
      refine congrArg _ (funext fun y => ?_)
      exact resC_recast l δ δ' _ fun t ht => h t (by simp [resSl, ht])
theorem ret_recast {V : Nat → Value} {k : Out → Option Out} {r : Out} (hfz : okFz c fz = true) (h : NextV (rcx c fz) B X w0 F0 V (fun δ => retK (rcx c fz) δ (retO k)) r a w) : NextV c B X w0 F0 V (fun δ => retK c δ k) r a w := by
  obtain ⟨⟨F, O, δ, hI, hk⟩, hV⟩ := h
  obtain ⟨rs, h1, h2, h3⟩ := retK_is hk
  unfold okFz at hfz
  simp only [Bool.and_eq_true, List.all_eq_true, Bool.not_eq_true'] at hfz
  have out : ∀ s, memN s (chgS c fz) = false → nth (setMany δ (chgS c fz) []) s = nth δ s := fun s hs => nth_setMany_notin _ _ _ _ fun hm => by
    rw [memN_t hm] at hs
    cases hs
  have hg : getAll (setMany δ (chgS c fz) []) c.ios = getAll δ c.ios := by
    have : ∀ l : List Nat, (∀ s ∈ l, memN s (chgS c fz) = false) → getAll (setMany δ (chgS c fz) []) l = getAll δ l := by
      intro l
      induction l with
      | nil => intro _; rfl
      | cons s l ih =>
        intro hl
        simp only [getAll]
        rw [out s (hl s (by simp)), ih fun t ht => hl t (by simp [ht])]
    exact this _ hfz.2
  refine ⟨⟨F, O, _, hI.uncast, retK_of (rs := rs) ?_ ?_ ?_⟩, fun s hs => hV s (by rw [frz_io]; exact hs)⟩
  · rw [← resC_recast (fz := fz) c.res δ _ _ fun t ht => (out t (hfz.1.2 t ht)).symm]
    exact h1
  · rw [hg]
    exact h2
  · rw [hg]
    exact h3

theorem denR_sound (hT : okT P c.T = true) (hS : ∀ f S, look c.S f = some S → Meets c.G P f S) (hm : P.follows .mixedOrders = true) {V : Nat → Value} {R : List (Nat × List Nat)} : ∀ (b : Code) (p bid : Nat), okCodeR c R p bid b = true → ∀ (F : Nat → Prop) (O : Nat → Option (Nat × Nat)) (a : Act) (w : World) (δ : List D),
    Inv c B X w0 F0 F O a w δ → IoV c V a → ∀ (k : Out → Option Out) (r : Out), denR c R p bid b δ k = some r → ∀ Q, (∀ e a w, Post c B X w0 F0 V k r e a w → Q e a w) → b.wp P Q a w
  | .seq x y, p, bid, hok, F, O, a, w, δ, hI, hV, k, r, hg, Q, hQ => by
    simp only [okCodeR, Bool.and_eq_true] at hok
    simp only [denR] at hg
    refine wp_seq (denR_sound hT hS hm x _ bid hok.1 F O a w δ hI hV _ r hg _ (fun e a' w' hp => ?_))
    cases e with
    | normal =>
      obtain ⟨⟨F', O', δ', hI', hk'⟩, hV'⟩ := hp
      have hok2 := hok.2
      simp only [seqK] at hk'
      cases hH : look R p with
      | none =>
        rw [hH] at hk' hok2
        exact denR_sound hT hS hm y _ bid hok2 F' O' a' w' δ' hI' hV' k r hk' Q hQ
      | some fz =>
        rw [hH] at hk' hok2
        simp only [Bool.and_eq_true] at hok2
        simp only [viaC_eq, setManyC_eq] at hk'
        obtain ⟨F2, O2, hI2⟩ := hI'.recast hok2.1
        refine den_sound (c := rcx c fz) hT hS hm y bid hok2.2 F2 O2 a' w' _ hI2 (fun s hs => hV' s (by rw [← frz_io (fz := fz)]; exact hs)) (retO k) r hk' Q (fun e a w hp => ?_)
        cases e with
        | normal => obtain ⟨⟨_, _, _, _, h⟩, _⟩ := hp; cases h
        | exit i => obtain ⟨⟨_, _, _, _, h⟩, _⟩ := hp; cases h
        | ret => exact hQ .ret _ _ (ret_recast hok2.1 hp)
        | _ => exact hp.elim
    | exit id => exact hQ _ _ _ hp
    | ret => exact hQ _ _ _ hp
    | _ => exact hp.elim
  | .cond x t e, p, bid, hok, F, O, a, w, δ, hI, hV, k, r, hg, Q, hQ => by
    simp only [okCodeR, Bool.and_eq_true] at hok
    obtain ⟨⟨hlv, hok1⟩, hok2⟩ := hok
    have hop := hI.opd (ble_iff.1 hlv)
    have key : ifD (opD δ x) (denR c R (Nat.mul 2 p) bid t δ k) (denR c R (Nat.add (Nat.mul 2 p) 1) bid e δ k) = some r := by
      simp only [denR] at hg
      cases x with
      | tmp s => simpa only [opC, nthC_eq, opD] using hg
      | const v => simpa only [opC, opD] using hg
      | func f => simpa only [opC, opD] using hg
      | global g => simp [opC] at hg
    unfold ifD at key
    split at key
    · rename_i hd
      rw [hd] at hop
      exact wp_cond_true (RepB_v hop).1 (denR_sound hT hS hm t _ bid hok1 F O a w δ hI hV k r key Q hQ)
    · rename_i hd
      rw [hd] at hop
      exact wp_cond_false (RepB_v hop).1 (denR_sound hT hS hm e _ bid hok2 F O a w δ hI hV k r key Q hQ)
    · cases key
  | .block id b, p, bid, hok, F, O, a, w, δ, hI, hV, k, r, hg, Q, hQ => by
    simp only [okCodeR] at hok
    refine wp_block (denR_sound hT hS hm b _ id hok F O a w δ hI hV _ r hg _ (fun e a' w' hp => ?_))
    cases e with
    | normal => exact hQ .normal _ _ hp
    | exit i =>
      simp only [Exit.inBlock]
      have hp' : NextV c B X w0 F0 V (fun δ => blkK id (.ext i δ) k) r a' w' := hp
      split
      · rename_i hi
        refine hQ .normal _ _ (NextV_mono hp' fun δ F O _ h => ?_)
        simp only [blkK] at h
        rw [beq_iff.2 (by simpa using hi)] at h
        exact h
      · rename_i hi
        refine hQ (.exit i) _ _ (NextV_mono hp' fun δ F O _ h => ?_)
        simp only [blkK] at h
        cases hb : Nat.beq i id
        · rw [hb] at h; exact h
        · exact absurd (by simpa using beq_iff.1 hb) hi
    | ret => exact hQ .ret _ _ hp
    | _ => exact hp.elim
  | .skip, p, bid, hok, F, O, a, w, δ, hI, hV, k, r, hg, Q, hQ => den_sound hT hS hm .skip bid hok F O a w δ hI hV k r hg Q hQ
  | .region id ops d, p, bid, hok, F, O, a, w, δ, hI, hV, k, r, hg, Q, hQ => den_sound hT hS hm (.region id ops d) bid hok F O a w δ hI hV k r hg Q hQ
  | .loop b, p, bid, hok, F, O, a, w, δ, hI, hV, k, r, hg, Q, hQ => den_sound hT hS hm (.loop b) bid hok F O a w δ hI hV k r hg Q hQ
  | .exit id, p, bid, hok, F, O, a, w, δ, hI, hV, k, r, hg, Q, hQ => den_sound hT hS hm (.exit id) bid hok F O a w δ hI hV k r hg Q hQ
  | .ret, p, bid, hok, F, O, a, w, δ, hI, hV, k, r, hg, Q, hQ => den_sound hT hS hm .ret bid hok F O a w δ hI hV k r hg Q hQ
  | .label _, _, _, hok, _, _, _, _, _, _, _, _, _, _, _, _ => by simp [okCodeR, okCode] at hok
  | .goto _, _, _, hok, _, _, _, _, _, _, _, _, _, _, _, _ => by simp [okCodeR, okCode] at hok
  | .scope _, _, _, hok, _, _, _, _, _, _, _, _, _, _, _, _ => by simp [okCodeR, okCode] at hok

theorem fn_callsR (hT : okT P c.T = true) (hS : ∀ f S, look c.S f = some S → Meets c.G P f S) (hm : P.follows .mixedOrders = true) {R : List (Nat × List Nat)} {f : FuncId} {fn : Func} (hf : P.funcs[f]? = some fn) {pm rm : List Kd} (hok : okFnR c R fn pm rm = true) (hres : c.res = fn.results.toList)
    {ds rs us : List D} (hd : denFR c R fn ds = some (.ret rs us)) {args : Array Value} {w : World} {F : Nat → Prop} {ow : Nat → Option Nat} (hgl : gOk c.G w F) (ha : ArgsOk w F ow 0 pm ds args.toList) (hF : ∀ b, F b → b < w.heap.size ∧ ow b = none) (hO : ∀ b i, ow b = some i → b < w.heap.size) :
    Calls P f args w fun e w' => ∃ v, e = .returned v ∧ ∃ F' R' vs, v = resV vs ∧ CallPost { pm := pm, rm := rm, f := denFR c R fn } args rs us w F ow F' R' vs w' := by
  unfold okFnR at hok
  simp only [Bool.and_eq_true, decide_eq_true_eq] at hok
  obtain ⟨⟨⟨⟨⟨hcode, hlenK⟩, hpre⟩, hpm⟩, hokr⟩, hios⟩ := hok
  rw [beq_iff, lenN_eq] at hlenK
  obtain ⟨hpl, hpn⟩ := prefK_nth hpre
  obtain ⟨hdl, hal, hargs⟩ := ArgsOk_at pm ds args.toList 0 ha
  have hasz : args.size = pm.length := by simpa using hal
  unfold denFR at hd
  cases hb : fn.body with
  | none => rw [hb] at hd; cases hd
  | some b =>
    rw [hb] at hd hcode
    simp only at hd hcode
    refine calls_of_wp hf hb ?_
    have hav : ∀ s, s < pm.length → av ({ tmps := args ++ Array.replicate (fn.ntmps - args.size) undef, defers := [] } : Act) s = args.toList.getD s undef := fun s hs => by
      have h1 : s < args.size := by omega
      simp only [av, Array.getD_eq_getD_getElem?, List.getD_eq_getElem?_getD, Array.getElem?_toList]
      rw [Array.getElem?_append_left h1]
    have hinit : Inv c w.heap.size (fun b => ow b ≠ none) w F F (fun b => (ow b).map fun i => (i, 0)) { tmps := args ++ Array.replicate (fn.ntmps - args.size) undef, defers := [] } w (padTo fn.ntmps ds) := by
      refine ⟨by simp; omega, by rw [padTo_len, hlenK], rfl, fun s => ?_, fun b hb => ⟨(hF b hb).1, by simp [(hF b hb).2]⟩, fun b p hp => ?_, fun _ h => h, fun _ h => .inl h, Nat.le_refl _, rfl, rfl, rfl, fun _ _ _ => rfl, hgl⟩
      · unfold SlotOk
        rw [padTo_nth _ _ _ (by rw [hdl]; omega)]
        by_cases hs : s < pm.length
        · rw [hpn s hs, hav s hs]
          rcases hargs s hs with hbad | harg
          · exact .inl hbad
          refine .inr ?_
          have hlv : ∀ lv, lv ≠ 1 → ∀ b, FB F 0 lv b → FB F w.heap.size lv b := fun lv h1 b hb => by
            match lv, h1 with
            | 0, _ => exact hb
            | _ + 2, _ => exact hb
          rcases okPm_at hpm s hs with ⟨lv, hk, h1⟩ | ⟨z, lv, hk, h1⟩ | ⟨n, lv, hk, h1⟩
          · rw [hk] at harg ⊢
            exact .inr (RepV_mono (hlv lv h1) (fun _ _ => rfl) harg)
          · rw [hk] at harg ⊢
            exact .inr (OwnV_mono' (hlv lv h1) (fun _ _ => rfl) (fun g _ hg => ⟨⟨by simp only [Nat.zero_add] at hg; simp [hg], fun h => by cases h⟩, rfl⟩) harg)
          · rw [hk] at harg ⊢
            exact .inr (BoxV_mono' (hlv lv h1) (fun _ _ => rfl) (fun g _ hg => ⟨⟨by simp only [Nat.zero_add] at hg; simp [hg], fun h => by cases h⟩, rfl⟩) harg)
        · refine .inl ?_
          rw [nth_eq, List.getD_eq_getElem?_getD, List.getElem?_eq_none (by omega)]
          rfl
      · obtain ⟨i, hi, rfl⟩ := Option.map_eq_some_iff.1 hp
        exact ⟨hO b i hi, .inr (by rw [hi]; simp)⟩
    refine denR_sound hT hS hm b 1 0 hcode F _ _ w _ hinit (V := av { tmps := args ++ Array.replicate (fn.ntmps - args.size) undef, defers := [] }) (fun _ _ => rfl) _ _ hd _ (fun e a' w' hp => ?_)
    have fin : NextV c w.heap.size (fun b => ow b ≠ none) w F (av { tmps := args ++ Array.replicate (fn.ntmps - args.size) undef, defers := [] }) (fun δ => retK c δ some) (.ret rs us) a' w' → a'.defers = [] ∧ ∃ v, (results fn a'.tmps).run P w' = .ok v w' ∧ ∃ v', Ending.returned v = .returned v' ∧ ∃ F' R' vs, v' = resV vs ∧ CallPost { pm := pm, rm := rm, f := denFR c R fn } args rs us w F ow F' R' vs w' := by
      rintro ⟨⟨F', O', δ', hI', hk⟩, hV'⟩
      obtain ⟨rs', h1, h2, h3⟩ := retK_is hk
      simp only [Option.some.injEq, Out.ret.injEq] at h3
      obtain ⟨rfl, rfl⟩ := h3
      obtain ⟨vs, g1, g2, g3, g4⟩ := res_run (P := P) hT hI' c.res rm rs' hokr h1
      refine ⟨hI'.df, resV vs, ?_, _, rfl, F', fun b => if w.heap.size ≤ b then (match O' b with
        | some (t, 0) => resIx c.res t 0
        | _ => none) else none, vs, rfl, ?_⟩
      · have hrun : (fn.results.mapM (getRes a'.tmps)).run P w' = .ok vs.toArray w' := by
          rw [Array.mapM_eq_mapM_toList, ← hres]
          simp [g1]
        have hrw : results fn a'.tmps = (do
            let vs ← fn.results.mapM (getRes a'.tmps)
            pure (if h : vs.size = 1 then vs[0] else .tuple vs)) := by
          unfold results
          congr 1
        rw [hrw]
        simp only [Sem.run_bind, hrun, Result.andThen_ok, Sem.run_pure]
        congr 1
        rcases vs with _ | ⟨y, _ | ⟨y', vs⟩⟩
        · simp [resV]
        · simp [resV]
        · simp [resV]
      · refine ⟨hI'.os, hI'.tape, hI'.output, hI'.bb, fun b hb ho => hI'.keep b hb (by simp [ho]), hI'.f0, fun b hb => ⟨hI'.fn b hb, (hI'.fl b hb).1, by simp only [(hI'.fl b hb).2]; split <;> rfl⟩, fun b j hj => ?_, g2, g3, fun j => ?_, ?_⟩
        · split at hj
          case isFalse => cases hj
          rename_i hB
          refine ⟨hB, ?_⟩
          split at hj
          · rename_i t he; exact (hI'.ol b _ he).1
          · cases hj
        · refine ResOk_mono (fun hk g hg => ?_) (g4 j)
          obtain ⟨z, lv, hk⟩ := hk
          obtain ⟨e1, t, e2, e3⟩ := hg
          rw [if_pos e1]
          simp only [e3]
          have := (resIx_own c.res rm hokr j t 0 z lv hk e2).1
          simpa using this
        · rw [hios]
          refine UsOk_of pm args.toList 0 hal (fun j hj hio => ?_)
          rw [Nat.zero_add]
          have hkj := hpn j hj
          have hbj : nth δ' j ≠ .bad := by
            refine h2 _ ?_
            rw [hios, getAll_map]
            exact List.mem_map_of_mem (by simpa using ioIdx_mem pm 0 j hj hio)
          have havj : av a' j = args.toList.getD j undef := (hV' j (by rw [hkj]; exact hio)).trans (hav j hj)
          have hlv : ∀ lv, lv ≠ 1 → ∀ b, FB F' w.heap.size lv b → FB F' 0 lv b := fun lv h1 b hb => by
            match lv, h1 with
            | 0, _ => exact hb
            | _ + 2, _ => exact hb
          refine ⟨hbj, .inr ?_⟩
          rcases okPm_at hpm j hj with ⟨lv, hk, h1⟩ | ⟨z, lv, hk, h1⟩ | ⟨n, lv, hk, h1⟩
          · rw [hk] at hio; cases hio
          · have h5 := hI'.own (hkj.trans hk) hbj
            rw [havj] at h5
            rw [hk]
            exact OwnV_mono' (hlv lv h1) (fun _ _ => rfl) (fun _ _ _ => ⟨trivial, rfl⟩) h5
          · have h5 := hI'.box (hkj.trans hk) hbj
            rw [havj] at h5
            rw [hk]
            exact BoxV_mono' (hlv lv h1) (fun _ _ => rfl) (fun _ _ _ => ⟨trivial, rfl⟩) h5
    cases e with
    | normal => exact fin hp
    | exit i =>
      obtain ⟨⟨_, _, _, _, h⟩, _⟩ := hp
      cases h
    | ret =>
      refine fin (NextV_mono hp fun δ F O _ h => ?_)
      obtain ⟨rs', h1, h2, h3⟩ := retK_is h
      exact retK_of h1 h2 h3
    | _ => exact hp.elim

theorem meets_ofR (hT : okT P c.T = true) (hS : ∀ f S, look c.S f = some S → Meets c.G P f S) (hm : P.follows .mixedOrders = true) {R : List (Nat × List Nat)} {f : FuncId} {fn : Func} (hf : P.funcs[f]? = some fn) (hname : (fn.name == "runtime.NumGoroutine") = false) {pm rm : List Kd} (hok : okFnR c R fn pm rm = true) (hres : c.res = fn.results.toList) :
    Meets c.G P f { pm := pm, rm := rm, f := denFR c R fn } := by
  intro ds rs us hd args w F ow hgl ha hF hO o a next Q hn
  have hbody : ∃ b, fn.body = some b := by
    have hd' : denFR c R fn ds = some (.ret rs us) := hd
    unfold denFR at hd'
    cases hb : fn.body with
    | none => rw [hb] at hd'; cases hd'
    | some b => exact ⟨b, rfl⟩
  obtain ⟨b, hb⟩ := hbody
  have hrun : (callFunc f args).run P w = .ok (.enter f args) w := by
    have h1 : ¬ fn.name = "runtime.NumGoroutine" := by simpa using hname
    simp [callFunc, hf, h1, hb]
  rw [hrun, Oper.upon_enter]
  refine Calls.mono (fn_callsR hT hS hm hf hok hres hd hgl ha hF hO) (fun e w' he => ?_)
  obtain ⟨v, rfl, F', R', vs, h1, h2⟩ := he
  exact hn v w' ⟨F', R', vs, h1, h2⟩


end
end Go.V
/-
  The evaluator with recasts of single regions: in them, slots that own a slice hold plain data (what is put into another slice, or handed back); after them these slots are void.
-/
namespace Go.V
open Go.RowKit
set_option linter.unusedSimpArgs false

@[reducible] noncomputable def denQ (c : Cx) (Z : List (Nat × List Nat)) : Nat → Code → List D → (Out → Option Out) → Option Out
  | _, .skip, δ, k => k (.nrm δ)
  | _, .region id ops _, δ, k => match look Z id with
    | some fz => viaC c.K δ (depsAll c.K fz) fun l => setManyC δ (depsAll c.K fz) l fun δ' => runOps (rcx c fz) ops.toList ops.toList δ' fun δ2 => setManyC δ2 fz [] fun δ3 => setManyC δ3 (depsAll c.K fz) [] fun δ4 => k (.nrm δ4)
    | none => runOps c ops.toList ops.toList δ fun δ' => k (.nrm δ')
  | bid, .seq a b, δ, k => denQ c Z bid a δ fun o => seqK o (fun δ' => denQ c Z bid b δ' k) k
  | bid, .cond x t e, δ, k => opC δ x fun q => ifD q (denQ c Z bid t δ k) (denQ c Z bid e δ k)
  | _, .block id b, δ, k => denQ c Z id b δ fun o => blkK id o k
  | bid, .loop b, δ, k => match look c.H bid with
    | none => none
    | some (hl, xl) =>
      getC δ hl fun s => (loopC (fun s => expandC (lenN c.K) hl s fun δ => denQ c Z bid b δ (shrinkK hl xl)) s).bind fun o =>
        outK o (fun i s => expandC (lenN c.K) xl s fun δ => k (.ext i δ)) (fun a b => k (.ret a b))
  | _, .exit id, δ, k => k (.ext id δ)
  | _, .ret, δ, k => resC c δ c.res fun rs => getC δ c.ios fun us => usK us (k (.ret rs us))
  | _, _, _, _ => none
@[reducible] noncomputable def denFQ (c : Cx) (Z : List (Nat × List Nat)) (fn : Func) (ds : List D) : Option Out :=
  match fn.body with
  | none => none
  | some b => denQ c Z 0 b (padTo fn.ntmps ds) fun o => match o with
    | .nrm δ => resC c δ c.res fun rs => getC δ c.ios fun us => usK us (some (.ret rs us))
    | .ext _ _ => none
    | .ret rs us => some (.ret rs us)
def okCodeQ (c : Cx) (Z : List (Nat × List Nat)) : Nat → Code → Bool
  | _, .skip => true
  | bid, .region id ops d => match look Z id with
    | some fz => okFz c fz && okCode (rcx c fz) bid (.region id ops d)
    | none => okCode c bid (.region id ops d)
  | b, .seq x y => okCodeQ c Z b x && okCodeQ c Z b y
  | b, .cond x t e => Nat.ble (lvOf c.K x) 2 && okCodeQ c Z b t && okCodeQ c Z b e
  | _, .block id x => okCodeQ c Z id x
  | b, .loop x => okCodeQ c Z b x && (match look c.H b with
    | some (hl, xl) => okLive c.K hl && okLive c.K xl
    | none => false)
  | _, .exit _ => true
  | _, .ret => true
  | _, _ => false
def okFnQ (c : Cx) (Z : List (Nat × List Nat)) (fn : Func) (pm rm : List Kd) : Bool :=
  (match fn.body with
    | some b => okCodeQ c Z 0 b
    | none => false) && Nat.beq (lenN c.K) fn.ntmps && prefK pm c.K && okPm pm && okRes c c.res rm && decide (c.ios = ioIdx 0 pm)

section
variable {P : Program} {c : Cx} {B : Nat} {X : Nat → Prop} {w0 : World} {F0 F : Nat → Prop} {O : Nat → Option (Nat × Nat)} {a : Act} {w : World} {δ : List D} {fz : List Nat}

theorem setMany_two : ∀ (ss ts : List Nat) (δ : List D), setMany (setMany δ ss []) ts [] = setMany δ (ss ++ ts) []
  | [], _, _ => rfl
  | i :: ss, ts, δ => by
    simp only [List.cons_append, setMany]
    exact setMany_two ss ts _
def unK (c : Cx) (fz : List Nat) (k : Out → Option Out) (o : Out) : Option Out :=
  match o with
  | .nrm δ => k (.nrm (setMany δ (chgS c fz) []))
  | _ => none
theorem loop_roundsQ {V : Nat → Value} {b : Code} {bid : Nat} {Z : List (Nat × List Nat)} {hl xl : List Nat} (h1 : okLive c.K hl = true) (h2 : okLive c.K xl = true)
    (ih : ∀ (F : Nat → Prop) (O : Nat → Option (Nat × Nat)) (a : Act) (w : World) (δ : List D), Inv c B X w0 F0 F O a w δ → IoV c V a → ∀ (k : Out → Option Out) (r : Out), denQ c Z bid b δ k = some r → ∀ Q, (∀ e a w, Post c B X w0 F0 V k r e a w → Q e a w) → b.wp P Q a w)
    {k : Out → Option Out} {r : Out} {Q : Exit → Act → World → Prop} (hQ : ∀ e a w, Post c B X w0 F0 V k r e a w → Q e a w) {o : Out}
    (ho : outK o (fun i s => expandC (lenN c.K) xl s fun δ => k (.ext i δ)) (fun x y => k (.ret x y)) = some r) : ∀ (n : Nat) (F : Nat → Prop) (O : Nat → Option (Nat × Nat)) (a : Act) (w : World) (δ : List D), Inv c B X w0 F0 F O a w δ → IoV c V a →
    iter (fun s => expandC (lenN c.K) hl s fun δ => denQ c Z bid b δ (shrinkK hl xl)) n (getAll δ hl) = some o → Code.rounds P b Q n a w
  | 0, _, _, _, _, _, _, _, h => by cases h
  | n + 1, F, O, a, w, δ, hI, hV, h => by
    simp only [iter, expandC_eq] at h
    rw [rounds_succ]
    have hI' := hI.carry h1
    cases hb : denQ c Z bid b (carry (lenN c.K) hl δ) (shrinkK hl xl) with
    | none => rw [hb] at h; cases h
    | some ob =>
      rw [hb] at h
      refine ih F O a w _ hI' hV _ ob hb _ (fun e a' w' hp => ?_)
      cases ob with
      | nrm s' =>
        simp only at h
        cases e with
        | normal =>
          obtain ⟨⟨F', O', δ', g1, g2⟩, g3⟩ := hp
          simp only [shrinkK, getC_eq, Option.some.injEq, Out.nrm.injEq] at g2
          rw [← g2] at h
          exact loop_roundsQ h1 h2 ih hQ ho n F' O' a' w' δ' g1 g3 h
        | exit i =>
          obtain ⟨⟨F', O', δ', g1, g2⟩, g3⟩ := hp
          simp [shrinkK, getC_eq] at g2
        | ret =>
          obtain ⟨⟨F', O', δ', g1, g2⟩, g3⟩ := hp
          obtain ⟨rs, _, _, g4⟩ := retK_is g2
          simp [shrinkK] at g4
        | _ => exact hp.elim
      | ext i l =>
        simp only [Option.some.injEq] at h
        subst h
        cases e with
        | normal =>
          obtain ⟨⟨F', O', δ', g1, g2⟩, g3⟩ := hp
          simp [shrinkK, getC_eq] at g2
        | exit j =>
          obtain ⟨⟨F', O', δ', g1, g2⟩, g3⟩ := hp
          simp only [shrinkK, getC_eq, Option.some.injEq, Out.ext.injEq] at g2
          obtain ⟨rfl, rfl⟩ := g2
          simp only [outK, expandC_eq] at ho
          exact hQ (.exit j) _ _ ⟨⟨F', O', _, g1.carry h2, ho⟩, g3⟩
        | ret =>
          obtain ⟨⟨F', O', δ', g1, g2⟩, g3⟩ := hp
          obtain ⟨rs, _, _, g4⟩ := retK_is g2
          simp [shrinkK] at g4
        | _ => exact hp.elim
      | ret x y =>
        simp only [Option.some.injEq] at h
        subst h
        cases e with
        | normal =>
          obtain ⟨⟨F', O', δ', g1, g2⟩, g3⟩ := hp
          simp [shrinkK, getC_eq] at g2
        | exit j =>
          obtain ⟨⟨F', O', δ', g1, g2⟩, g3⟩ := hp
          simp [shrinkK, getC_eq] at g2
        | ret =>
          obtain ⟨⟨F', O', δ', g1, g2⟩, g3⟩ := hp
          obtain ⟨rs, g5, g6, g4⟩ := retK_is g2
          simp only [shrinkK, Option.some.injEq, Out.ret.injEq] at g4
          obtain ⟨rfl, rfl⟩ := g4
          exact hQ .ret _ _ ⟨⟨F', O', δ', g1, retK_of g5 g6 ho⟩, g3⟩
        | _ => exact hp.elim

theorem denQ_sound (hT : okT P c.T = true) (hS : ∀ f S, look c.S f = some S → Meets c.G P f S) (hm : P.follows .mixedOrders = true) {V : Nat → Value} {Z : List (Nat × List Nat)} : ∀ (b : Code) (bid : Nat), okCodeQ c Z bid b = true → ∀ (F : Nat → Prop) (O : Nat → Option (Nat × Nat)) (a : Act) (w : World) (δ : List D),
    Inv c B X w0 F0 F O a w δ → IoV c V a → ∀ (k : Out → Option Out) (r : Out), denQ c Z bid b δ k = some r → ∀ Q, (∀ e a w, Post c B X w0 F0 V k r e a w → Q e a w) → b.wp P Q a w
  | .skip, bid, _, F, O, a, w, δ, hI, hV, k, r, hg, Q, hQ => wp_skip (hQ _ _ _ ⟨⟨F, O, δ, hI, hg⟩, hV⟩)
  | .region id ops d, bid, hok, F, O, a, w, δ, hI, hV, k, r, hg, Q, hQ => by
    simp only [okCodeQ] at hok
    simp only [denQ] at hg
    cases hH : look Z id with
    | none =>
      rw [hH] at hok hg
      exact den_sound hT hS hm (.region id ops d) bid hok F O a w δ hI hV k r hg Q hQ
    | some fz =>
      rw [hH] at hok hg
      simp only [Bool.and_eq_true] at hok
      simp only [viaC_eq, setManyC_eq, setMany_two] at hg
      obtain ⟨F2, O2, hI2⟩ := hI.recast hok.1
      refine den_sound (c := rcx c fz) hT hS hm (.region id ops d) bid hok.2 F2 O2 a w _ hI2 (fun s hs => hV s (by rw [← frz_io (fz := fz)]; exact hs)) (unK c fz k) r hg Q (fun e a w hp => ?_)
      cases e with
      | normal =>
        obtain ⟨⟨F', O', δ', hI', hk'⟩, hV'⟩ := hp
        exact hQ .normal _ _ ⟨⟨F', O', _, hI'.uncast, hk'⟩, fun s hs => hV' s (by rw [frz_io]; exact hs)⟩
      | exit i => obtain ⟨⟨_, _, _, _, h⟩, _⟩ := hp; cases h
      | ret =>
        obtain ⟨⟨_, _, _, _, h⟩, _⟩ := hp
        obtain ⟨rs, h1, h2, h3⟩ := retK_is h
        cases h3
      | _ => exact hp.elim
  | .seq x y, bid, hok, F, O, a, w, δ, hI, hV, k, r, hg, Q, hQ => by
    simp only [okCodeQ, Bool.and_eq_true] at hok
    refine wp_seq (denQ_sound hT hS hm x bid hok.1 F O a w δ hI hV _ r hg _ (fun e a' w' hp => ?_))
    cases e with
    | normal =>
      obtain ⟨⟨F', O', δ', hI', hk'⟩, hV'⟩ := hp
      exact denQ_sound hT hS hm y bid hok.2 F' O' a' w' δ' hI' hV' k r hk' Q hQ
    | exit id => exact hQ _ _ _ hp
    | ret => exact hQ _ _ _ hp
    | _ => exact hp.elim
  | .cond x t e, bid, hok, F, O, a, w, δ, hI, hV, k, r, hg, Q, hQ => by
    simp only [okCodeQ, Bool.and_eq_true] at hok
    obtain ⟨⟨hlv, hok1⟩, hok2⟩ := hok
    have hop := hI.opd (ble_iff.1 hlv)
    have key : ifD (opD δ x) (denQ c Z bid t δ k) (denQ c Z bid e δ k) = some r := by
      simp only [denQ] at hg
      cases x with
      | tmp s => simpa only [opC, nthC_eq, opD] using hg
      | const v => simpa only [opC, opD] using hg
      | func f => simpa only [opC, opD] using hg
      | global g => simp [opC] at hg
    unfold ifD at key
    split at key
    · rename_i hd
      rw [hd] at hop
      exact wp_cond_true (RepB_v hop).1 (denQ_sound hT hS hm t bid hok1 F O a w δ hI hV k r key Q hQ)
    · rename_i hd
      rw [hd] at hop
      exact wp_cond_false (RepB_v hop).1 (denQ_sound hT hS hm e bid hok2 F O a w δ hI hV k r key Q hQ)
    · cases key
  | .block id b, bid, hok, F, O, a, w, δ, hI, hV, k, r, hg, Q, hQ => by
    simp only [okCodeQ] at hok
    refine wp_block (denQ_sound hT hS hm b id hok F O a w δ hI hV _ r hg _ (fun e a' w' hp => ?_))
    cases e with
    | normal => exact hQ .normal _ _ hp
    | exit i =>
      simp only [Exit.inBlock]
      have hp' : NextV c B X w0 F0 V (fun δ => blkK id (.ext i δ) k) r a' w' := hp
      split
      · rename_i hi
        refine hQ .normal _ _ (NextV_mono hp' fun δ F O _ h => ?_)
        simp only [blkK] at h
        rw [beq_iff.2 (by simpa using hi)] at h
        exact h
      · rename_i hi
        refine hQ (.exit i) _ _ (NextV_mono hp' fun δ F O _ h => ?_)
        simp only [blkK] at h
        cases hb : Nat.beq i id
        · rw [hb] at h; exact h
        · exact absurd (by simpa using beq_iff.1 hb) hi
    | ret => exact hQ .ret _ _ hp
    | _ => exact hp.elim
  | .loop b, bid, hok, F, O, a, w, δ, hI, hV, k, r, hg, Q, hQ => by
    simp only [okCodeQ, Bool.and_eq_true] at hok
    obtain ⟨hok1, hok2⟩ := hok
    simp only [denQ] at hg
    cases hH : look c.H bid with
    | none => rw [hH] at hg; cases hg
    | some hx =>
      obtain ⟨hl, xl⟩ := hx
      rw [hH] at hg hok2
      simp only [Bool.and_eq_true] at hok2
      simp only [getC_eq] at hg
      obtain ⟨o', h1, h2⟩ := Option.bind_eq_some_iff.1 hg
      unfold loopC at h1
      split at h1
      case isFalse => cases h1
      rename_i hex
      refine wp_loop_rounds (Classical.choose hex) ?_
      refine loop_roundsQ (hl := hl) (xl := xl) hok2.1 hok2.2 (fun F O a w δ hI hV k r hg Q hQ => denQ_sound hT hS hm b bid hok1 F O a w δ hI hV k r hg Q hQ) hQ h2 _ F O a w δ hI hV h1
  | .exit id, bid, _, F, O, a, w, δ, hI, hV, k, r, hg, Q, hQ => wp_exit (hQ _ _ _ ⟨⟨F, O, δ, hI, hg⟩, hV⟩)
  | .ret, bid, _, F, O, a, w, δ, hI, hV, k, r, hg, Q, hQ => wp_ret (hQ _ _ _ ⟨⟨F, O, δ, hI, hg⟩, hV⟩)
  | .label _, _, hok, _, _, _, _, _, _, _, _, _, _, _, _ => by simp [okCodeQ] at hok
  | .goto _, _, hok, _, _, _, _, _, _, _, _, _, _, _, _ => by simp [okCodeQ] at hok
  | .scope _, _, hok, _, _, _, _, _, _, _, _, _, _, _, _ => by simp [okCodeQ] at hok

theorem fn_callsQ (hT : okT P c.T = true) (hS : ∀ f S, look c.S f = some S → Meets c.G P f S) (hm : P.follows .mixedOrders = true) {Z : List (Nat × List Nat)} {f : FuncId} {fn : Func} (hf : P.funcs[f]? = some fn) {pm rm : List Kd} (hok : okFnQ c Z fn pm rm = true) (hres : c.res = fn.results.toList)
    {ds rs us : List D} (hd : denFQ c Z fn ds = some (.ret rs us)) {args : Array Value} {w : World} {F : Nat → Prop} {ow : Nat → Option Nat} (hgl : gOk c.G w F) (ha : ArgsOk w F ow 0 pm ds args.toList) (hF : ∀ b, F b → b < w.heap.size ∧ ow b = none) (hO : ∀ b i, ow b = some i → b < w.heap.size) :
    Calls P f args w fun e w' => ∃ v, e = .returned v ∧ ∃ F' R' vs, v = resV vs ∧ CallPost { pm := pm, rm := rm, f := denFQ c Z fn } args rs us w F ow F' R' vs w' := by
  unfold okFnQ at hok
  simp only [Bool.and_eq_true, decide_eq_true_eq] at hok
  obtain ⟨⟨⟨⟨⟨hcode, hlenK⟩, hpre⟩, hpm⟩, hokr⟩, hios⟩ := hok
  rw [beq_iff, lenN_eq] at hlenK
  obtain ⟨hpl, hpn⟩ := prefK_nth hpre
  obtain ⟨hdl, hal, hargs⟩ := ArgsOk_at pm ds args.toList 0 ha
  have hasz : args.size = pm.length := by simpa using hal
  unfold denFQ at hd
  cases hb : fn.body with
  | none => rw [hb] at hd; cases hd
  | some b =>
    rw [hb] at hd hcode
    simp only at hd hcode
    refine calls_of_wp hf hb ?_
    have hav : ∀ s, s < pm.length → av ({ tmps := args ++ Array.replicate (fn.ntmps - args.size) undef, defers := [] } : Act) s = args.toList.getD s undef := fun s hs => by
      have h1 : s < args.size := by omega
      simp only [av, Array.getD_eq_getD_getElem?, List.getD_eq_getElem?_getD, Array.getElem?_toList]
      rw [Array.getElem?_append_left h1]
    have hinit : Inv c w.heap.size (fun b => ow b ≠ none) w F F (fun b => (ow b).map fun i => (i, 0)) { tmps := args ++ Array.replicate (fn.ntmps - args.size) undef, defers := [] } w (padTo fn.ntmps ds) := by
      refine ⟨by simp; omega, by rw [padTo_len, hlenK], rfl, fun s => ?_, fun b hb => ⟨(hF b hb).1, by simp [(hF b hb).2]⟩, fun b p hp => ?_, fun _ h => h, fun _ h => .inl h, Nat.le_refl _, rfl, rfl, rfl, fun _ _ _ => rfl, hgl⟩
      · unfold SlotOk
        rw [padTo_nth _ _ _ (by rw [hdl]; omega)]
        by_cases hs : s < pm.length
        · rw [hpn s hs, hav s hs]
          rcases hargs s hs with hbad | harg
          · exact .inl hbad
          refine .inr ?_
          have hlv : ∀ lv, lv ≠ 1 → ∀ b, FB F 0 lv b → FB F w.heap.size lv b := fun lv h1 b hb => by
            match lv, h1 with
            | 0, _ => exact hb
            | _ + 2, _ => exact hb
          rcases okPm_at hpm s hs with ⟨lv, hk, h1⟩ | ⟨z, lv, hk, h1⟩ | ⟨n, lv, hk, h1⟩
          · rw [hk] at harg ⊢
            exact .inr (RepV_mono (hlv lv h1) (fun _ _ => rfl) harg)
          · rw [hk] at harg ⊢
            exact .inr (OwnV_mono' (hlv lv h1) (fun _ _ => rfl) (fun g _ hg => ⟨⟨by simp only [Nat.zero_add] at hg; simp [hg], fun h => by cases h⟩, rfl⟩) harg)
          · rw [hk] at harg ⊢
            exact .inr (BoxV_mono' (hlv lv h1) (fun _ _ => rfl) (fun g _ hg => ⟨⟨by simp only [Nat.zero_add] at hg; simp [hg], fun h => by cases h⟩, rfl⟩) harg)
        · refine .inl ?_
          rw [nth_eq, List.getD_eq_getElem?_getD, List.getElem?_eq_none (by omega)]
          rfl
      · obtain ⟨i, hi, rfl⟩ := Option.map_eq_some_iff.1 hp
        exact ⟨hO b i hi, .inr (by rw [hi]; simp)⟩
    refine denQ_sound hT hS hm b 0 hcode F _ _ w _ hinit (V := av { tmps := args ++ Array.replicate (fn.ntmps - args.size) undef, defers := [] }) (fun _ _ => rfl) _ _ hd _ (fun e a' w' hp => ?_)
    have fin : NextV c w.heap.size (fun b => ow b ≠ none) w F (av { tmps := args ++ Array.replicate (fn.ntmps - args.size) undef, defers := [] }) (fun δ => retK c δ some) (.ret rs us) a' w' → a'.defers = [] ∧ ∃ v, (results fn a'.tmps).run P w' = .ok v w' ∧ ∃ v', Ending.returned v = .returned v' ∧ ∃ F' R' vs, v' = resV vs ∧ CallPost { pm := pm, rm := rm, f := denFQ c Z fn } args rs us w F ow F' R' vs w' := by
      rintro ⟨⟨F', O', δ', hI', hk⟩, hV'⟩
      obtain ⟨rs', h1, h2, h3⟩ := retK_is hk
      simp only [Option.some.injEq, Out.ret.injEq] at h3
      obtain ⟨rfl, rfl⟩ := h3
      obtain ⟨vs, g1, g2, g3, g4⟩ := res_run (P := P) hT hI' c.res rm rs' hokr h1
      refine ⟨hI'.df, resV vs, ?_, _, rfl, F', fun b => if w.heap.size ≤ b then (match O' b with
        | some (t, 0) => resIx c.res t 0
        | _ => none) else none, vs, rfl, ?_⟩
      · have hrun : (fn.results.mapM (getRes a'.tmps)).run P w' = .ok vs.toArray w' := by
          rw [Array.mapM_eq_mapM_toList, ← hres]
          simp [g1]
        have hrw : results fn a'.tmps = (do
            let vs ← fn.results.mapM (getRes a'.tmps)
            pure (if h : vs.size = 1 then vs[0] else .tuple vs)) := by
          unfold results
          congr 1
        rw [hrw]
        simp only [Sem.run_bind, hrun, Result.andThen_ok, Sem.run_pure]
        congr 1
        rcases vs with _ | ⟨y, _ | ⟨y', vs⟩⟩
        · simp [resV]
        · simp [resV]
        · simp [resV]
      · refine ⟨hI'.os, hI'.tape, hI'.output, hI'.bb, fun b hb ho => hI'.keep b hb (by simp [ho]), hI'.f0, fun b hb => ⟨hI'.fn b hb, (hI'.fl b hb).1, by simp only [(hI'.fl b hb).2]; split <;> rfl⟩, fun b j hj => ?_, g2, g3, fun j => ?_, ?_⟩
        · split at hj
          case isFalse => cases hj
          rename_i hB
          refine ⟨hB, ?_⟩
          split at hj
          · rename_i t he; exact (hI'.ol b _ he).1
          · cases hj
        · refine ResOk_mono (fun hk g hg => ?_) (g4 j)
          obtain ⟨z, lv, hk⟩ := hk
          obtain ⟨e1, t, e2, e3⟩ := hg
          rw [if_pos e1]
          simp only [e3]
          have := (resIx_own c.res rm hokr j t 0 z lv hk e2).1
          simpa using this
        · rw [hios]
          refine UsOk_of pm args.toList 0 hal (fun j hj hio => ?_)
          rw [Nat.zero_add]
          have hkj := hpn j hj
          have hbj : nth δ' j ≠ .bad := by
            refine h2 _ ?_
            rw [hios, getAll_map]
            exact List.mem_map_of_mem (by simpa using ioIdx_mem pm 0 j hj hio)
          have havj : av a' j = args.toList.getD j undef := (hV' j (by rw [hkj]; exact hio)).trans (hav j hj)
          have hlv : ∀ lv, lv ≠ 1 → ∀ b, FB F' w.heap.size lv b → FB F' 0 lv b := fun lv h1 b hb => by
            match lv, h1 with
            | 0, _ => exact hb
            | _ + 2, _ => exact hb
          refine ⟨hbj, .inr ?_⟩
          rcases okPm_at hpm j hj with ⟨lv, hk, h1⟩ | ⟨z, lv, hk, h1⟩ | ⟨n, lv, hk, h1⟩
          · rw [hk] at hio; cases hio
          · have h5 := hI'.own (hkj.trans hk) hbj
            rw [havj] at h5
            rw [hk]
            exact OwnV_mono' (hlv lv h1) (fun _ _ => rfl) (fun _ _ _ => ⟨trivial, rfl⟩) h5
          · have h5 := hI'.box (hkj.trans hk) hbj
            rw [havj] at h5
            rw [hk]
            exact BoxV_mono' (hlv lv h1) (fun _ _ => rfl) (fun _ _ _ => ⟨trivial, rfl⟩) h5
    cases e with
    | normal => exact fin hp
    | exit i =>
      obtain ⟨⟨_, _, _, _, h⟩, _⟩ := hp
      cases h
    | ret =>
      refine fin (NextV_mono hp fun δ F O _ h => ?_)
      obtain ⟨rs', h1, h2, h3⟩ := retK_is h
      exact retK_of h1 h2 h3
    | _ => exact hp.elim

theorem meets_ofQ (hT : okT P c.T = true) (hS : ∀ f S, look c.S f = some S → Meets c.G P f S) (hm : P.follows .mixedOrders = true) {Z : List (Nat × List Nat)} {f : FuncId} {fn : Func} (hf : P.funcs[f]? = some fn) (hname : (fn.name == "runtime.NumGoroutine") = false) {pm rm : List Kd} (hok : okFnQ c Z fn pm rm = true) (hres : c.res = fn.results.toList) :
    Meets c.G P f { pm := pm, rm := rm, f := denFQ c Z fn } := by
  intro ds rs us hd args w F ow hgl ha hF hO o a next Q hn
  have hbody : ∃ b, fn.body = some b := by
    have hd' : denFQ c Z fn ds = some (.ret rs us) := hd
    unfold denFQ at hd'
    cases hb : fn.body with
    | none => rw [hb] at hd'; cases hd'
    | some b => exact ⟨b, rfl⟩
  obtain ⟨b, hb⟩ := hbody
  have hrun : (callFunc f args).run P w = .ok (.enter f args) w := by
    have h1 : ¬ fn.name = "runtime.NumGoroutine" := by simpa using hname
    simp [callFunc, hf, h1, hb]
  rw [hrun, Oper.upon_enter]
  refine Calls.mono (fn_callsQ hT hS hm hf hok hres hd hgl ha hF hO) (fun e w' he => ?_)
  obtain ⟨v, rfl, F', R', vs, h1, h2⟩ := he
  exact hn v w' ⟨F', R', vs, h1, h2⟩


end
end Go.V
/-
  The evaluator with recasts of single regions, as VQ; where the list of slots begins with 1000000, the region's last operation is carried out behind it, with the slots' own kinds.
-/
namespace Go.V
open Go.RowKit
set_option linter.unusedSimpArgs false

@[reducible] def initL : List Oper → List Oper
  | [] => []
  | [_] => []
  | a :: b :: l => a :: initL (b :: l)
@[reducible] def lastL : List Oper → List Oper
  | [] => []
  | [a] => [a]
  | _ :: b :: l => lastL (b :: l)
theorem init_last : ∀ (l : List Oper), l ≠ [] → ∃ o, lastL l = [o] ∧ l = initL l ++ [o]
  | [], h => absurd rfl h
  | [a], _ => ⟨a, rfl, rfl⟩
  | a :: b :: l, _ => by
    obtain ⟨o, h1, h2⟩ := init_last (b :: l) (by simp)
    exact ⟨o, h1, by simp only [initL, List.cons_append]; rw [← h2]⟩
/-- The last operation comes behind all others, whatever the order; no guard leads to what is not there. -/
def splitOk (ops : List Oper) : Bool :=
  match lastL ops with
  | [o] => (match o.guard with
    | none => true
    | some _ => false) && ((List.range (initL ops).length).all fun i => o.after.toList.any fun e => e.on == i && Region.binds .any e) && (o.after.toList.all fun e => decide (e.on < (initL ops).length)) &&
    (initL ops).zipIdx.all fun p => (p.1.after.toList.all fun e => !Region.binds .any e || decide (e.on < p.2)) && (match p.1.guard with
      | none => true
      | some (j, _) => decide (j < (initL ops).length))
  | _ => false

theorem wp_weak {P : Program} {o : Oper} {a : Act} {w : World} {K K' : Act → World → Prop} {Q Q' : Exit → Act → World → Prop} (hK : ∀ a w, K a w → K' a w) (hQ : ∀ e a w, e ≠ .normal → Q e a w → Q' e a w) (h : o.wp P a w K Q) : o.wp P a w K' Q' := by
  unfold Oper.wp at *
  generalize (execOp a.eval o).run P w = r at *
  cases r with
  | ok n w' =>
    cases n <;> simp only [Oper.upon] at h ⊢ <;> first
      | exact hK _ _ h
      | exact Calls.mono h (fun e w'' he => by
          cases e <;> first
            | exact hK _ _ he
            | exact hQ _ _ _ (by simp) he
            | (obtain ⟨x, y, hx⟩ := he; exact ⟨x, y, hQ _ _ _ (by simp) hx⟩))
      | exact Rows.mono h (fun _ _ he => hK _ _ he)
  | halt x w' => cases x <;> simp only [Oper.upon] at h ⊢ <;> first
      | exact hQ _ _ _ (by simp) h
      | exact h

theorem yield_push {init : Array Oper} {o : Oper} {t : Array Value} {j : Nat} (h : j < init.size) : yielded (init.push o) t j = yielded init t j := by
  unfold yielded
  rw [Array.getElem?_push_lt h, Array.getElem?_eq_getElem h]
theorem getD_push {l : Array Bool} {i : Nat} {d : Bool} (h : i < l.size) : (l.push false).getD i d = l.getD i d := by
  simp [Array.getD_eq_getD_getElem?, Array.getElem?_push_lt h, h]
theorem set_push {l : Array Bool} {i : Nat} (h : i < l.size) : (l.push false).setIfInBounds i true = (l.setIfInBounds i true).push false := by
  apply Array.ext_getElem?
  intro j
  simp only [Array.getElem?_setIfInBounds, Array.getElem?_push, Array.size_push, Array.size_setIfInBounds]
  by_cases hj : i = j
  · subst hj
    simp [h, Nat.lt_succ_of_lt h, Nat.ne_of_lt h]
  · simp [hj]

section
variable {P : Program} {init : Array Oper} {o : Oper} {Q : Exit → Act → World → Prop} {Wl : Act → World → Prop}
theorem all_listed (hac : ∀ (i : Nat) (q : Oper), init[i]? = some q → ∀ e ∈ q.after, Region.binds .any e = true → e.on < i) {listed : Array Bool} (hsz : listed.size = init.size) (hr : Region.ready .any init listed = []) : ∀ i, i < init.size → listed.getD i false = true := by
  intro i
  induction i using Nat.strongRecOn with
  | _ i ih =>
    intro hi
    have hb : i < listed.size := by omega
    cases hl : listed.getD i false with
    | true => rfl
    | false =>
      exfalso
      have hl' : listed.getD i true = false := by
        rw [Array.getD_eq_getD_getElem?, Array.getElem?_eq_getElem hb] at hl ⊢
        exact hl
      have ho : init[i]? = some init[i] := Array.getElem?_eq_getElem hi
      have hmem : i ∈ Region.ready .any init listed := by
        unfold Region.ready
        rw [List.mem_filter]
        refine ⟨List.mem_range.2 hi, ?_⟩
        rw [hl', ho]
        simp only [Bool.not_false, Bool.true_and, Option.map_some, Option.getD_some, Array.all_eq_true_iff_forall_mem, Bool.or_eq_true]
        intro e he
        cases hb : Region.binds .any e
        · exact .inl rfl
        right
        have h1 := hac i _ ho e he hb
        exact ih e.on h1 (by omega)
      rw [hr] at hmem
      cases hmem
theorem ready_full (hg : ∀ e ∈ o.after, e.on < init.size) {listed : Array Bool} (hsz : listed.size = init.size) (hall : ∀ i, i < init.size → listed.getD i false = true) : ∀ i, i ∈ Region.ready .any (init.push o) (listed.push false) ↔ i = init.size := by
  intro i
  unfold Region.ready
  rw [List.mem_filter, List.mem_range, Array.size_push]
  constructor
  · rintro ⟨h1, h2⟩
    by_cases hi : i < init.size
    · exfalso
      rw [getD_push (by omega)] at h2
      have h3 := hall i hi
      rw [Array.getD_eq_getD_getElem?, Array.getElem?_eq_getElem (by omega)] at h2 h3
      simp only [Option.getD_some] at h2 h3
      rw [h3] at h2
      simp at h2
    · omega
  · rintro rfl
    refine ⟨by omega, ?_⟩
    have e1 : (listed.push false).getD init.size true = false := by
      rw [← hsz, Array.getD_eq_getD_getElem?]
      simp
    rw [e1, Array.getElem?_push_size]
    simp only [Bool.not_false, Bool.true_and, Option.map_some, Option.getD_some, Array.all_eq_true_iff_forall_mem, Bool.or_eq_true]
    intro e he
    right
    rw [getD_push (by have := hg e he; omega)]
    exact hall _ (hg e he)
theorem wpAny_push (hl : ∀ i, i < init.size → ∃ e ∈ o.after, e.on = i ∧ Region.binds .any e = true) (hg : ∀ e ∈ o.after, e.on < init.size) (hac : ∀ (i : Nat) (q : Oper), init[i]? = some q → ∀ e ∈ q.after, Region.binds .any e = true → e.on < i)
    (hgd : ∀ (i : Nat) (q : Oper), init[i]? = some q → ∀ j p, q.guard = some (j, p) → j < init.size) (hng : o.guard = none) (hW : ∀ a w, Wl a w → o.wp P a w (fun a w => Q .normal a w) Q) :
    ∀ (fuel : Nat) (listed : Array Bool) (a : Act) (w : World), listed.size = init.size → wpAny P .any init (fun e a w => e = .normal ∧ Wl a w) fuel listed a w → wpAny P .any (init.push o) Q (fuel + 1) (listed.push false) a w := by
  have full : ∀ (fuel : Nat) (listed : Array Bool) (a : Act) (w : World), listed.size = init.size → (∀ i, i < init.size → listed.getD i false = true) → Wl a w → wpAny P .any (init.push o) Q (fuel + 1) (listed.push false) a w := by
    intro fuel listed a w hsz hall hw
    have hr := ready_full (o := o) hg hsz hall
    refine ⟨fun h => ?_, fun i hi => ?_⟩
    · have := (hr init.size).2 rfl
      rw [h] at this
      cases this
    · have e := (hr i).1 hi
      subst e
      have hdone : ∀ a w, Q .normal a w → wpAny P .any (init.push o) Q fuel ((listed.push false).setIfInBounds init.size true) a w := by
        intro a w hq
        have hn : Region.ready .any (init.push o) ((listed.push false).setIfInBounds init.size true) = [] := by
          unfold Region.ready
          rw [List.filter_eq_nil_iff]
          intro i hi
          rw [List.mem_range, Array.size_push] at hi
          have : ((listed.push false).setIfInBounds init.size true).getD i true = true := by
            rw [Array.getD_eq_getD_getElem?, Array.getElem?_setIfInBounds]
            by_cases hi2 : init.size = i
            · subst hi2
              simp [hsz]
            · rw [if_neg hi2, Array.getElem?_push_lt (by omega), Option.getD_some]
              have h3 := hall i (by omega)
              rw [Array.getD_eq_getD_getElem?, Array.getElem?_eq_getElem (by omega)] at h3
              simpa using h3
          rw [this]
          simp
        cases fuel with
        | zero => exact ⟨hn, hq⟩
        | succ n => exact ⟨fun _ => hq, fun i hi => by rw [hn] at hi; cases hi⟩
      unfold wpOp
      rw [Array.getElem?_push_size]
      have hw1 : Region.wanted o (yielded (init.push o) a.tmps) = true := by
        unfold Region.wanted
        rw [hng]
      simp only [hw1, if_true]
      exact .inl (wp_weak hdone (fun _ _ _ _ h => h) (hW a w hw))
  intro fuel
  induction fuel with
  | zero =>
    intro listed a w hsz h
    exact full 0 listed a w hsz (all_listed hac hsz h.1) h.2.2
  | succ fuel ih =>
    intro listed a w hsz h
    by_cases hr : Region.ready .any init listed = []
    · exact full _ listed a w hsz (all_listed hac hsz hr) (h.1 hr).2
    · have hex : ∃ m, m < init.size ∧ listed.getD m false = false := by
        cases hc : Region.ready .any init listed with
        | nil => exact absurd hc hr
        | cons m l =>
          have hm : m ∈ Region.ready .any init listed := by rw [hc]; simp
          unfold Region.ready at hm
          rw [List.mem_filter, List.mem_range] at hm
          obtain ⟨h1, h2⟩ := hm
          simp only [Bool.and_eq_true, Bool.not_eq_true'] at h2
          refine ⟨m, h1, ?_⟩
          have h3 := h2.1
          rw [Array.getD_eq_getD_getElem?, Array.getElem?_eq_getElem (by omega)] at h3 ⊢
          exact h3
      obtain ⟨m, hm1, hm2⟩ := hex
      have hsub : ∀ i, i ∈ Region.ready .any (init.push o) (listed.push false) → i < init.size ∧ i ∈ Region.ready .any init listed := by
        intro i hi
        unfold Region.ready at hi
        rw [List.mem_filter, List.mem_range, Array.size_push] at hi
        obtain ⟨h1, h2⟩ := hi
        by_cases hi2 : i < init.size
        · refine ⟨hi2, ?_⟩
          unfold Region.ready
          rw [List.mem_filter, List.mem_range]
          refine ⟨hi2, ?_⟩
          rw [getD_push (by omega), Array.getElem?_push_lt hi2, Option.map_some, Option.getD_some] at h2
          rw [Array.getElem?_eq_getElem hi2, Option.map_some, Option.getD_some]
          simp only [Bool.and_eq_true, Array.all_eq_true_iff_forall_mem, Bool.or_eq_true] at h2 ⊢
          refine ⟨h2.1, fun e he => ?_⟩
          rcases h2.2 e he with h3 | h3
          · exact .inl h3
          · right
            cases hb : Region.binds .any e
            · by_cases he2 : e.on < listed.size
              · rw [getD_push he2] at h3
                exact h3
              · exfalso
                rw [Array.getD_eq_getD_getElem?] at h3
                rw [Array.getElem?_push] at h3
                split at h3
                · simp at h3
                · rw [Array.getElem?_eq_none (by omega)] at h3
                  simp at h3
            · have := hac i _ (Array.getElem?_eq_getElem hi2) e he hb
              rw [getD_push (by omega)] at h3
              exact h3
        · exfalso
          have e : i = init.size := by omega
          subst e
          rw [Array.getElem?_push_size] at h2
          simp only [Option.map_some, Option.getD_some, Bool.and_eq_true, Array.all_eq_true_iff_forall_mem, Bool.or_eq_true, Bool.not_eq_true'] at h2
          obtain ⟨e, he, h3, h4⟩ := hl m hm1
          rcases h2.2 e he with h5 | h5
          · rw [h4] at h5; cases h5
          · rw [h3, getD_push (by omega), hm2] at h5
            cases h5
      refine ⟨fun hn => ?_, fun i hi => ?_⟩
      · exfalso
        cases hc : Region.ready .any init listed with
        | nil => exact hr hc
        | cons q l =>
          have hq : q ∈ Region.ready .any init listed := by rw [hc]; simp
          have : q ∈ Region.ready .any (init.push o) (listed.push false) := by
            unfold Region.ready at hq ⊢
            rw [List.mem_filter, List.mem_range] at hq ⊢
            obtain ⟨h1, h2⟩ := hq
            rw [Array.size_push]
            refine ⟨by omega, ?_⟩
            rw [Array.getElem?_eq_getElem h1, Option.map_some, Option.getD_some] at h2
            rw [getD_push (by omega), Array.getElem?_push_lt h1, Option.map_some, Option.getD_some]
            simp only [Bool.and_eq_true, Array.all_eq_true_iff_forall_mem, Bool.or_eq_true] at h2 ⊢
            refine ⟨h2.1, fun e he => ?_⟩
            rcases h2.2 e he with h3 | h3
            · exact .inl h3
            · right
              have he2 : e.on < listed.size := by
                rcases Nat.lt_or_ge e.on listed.size with h | h
                · exact h
                · rw [Array.getD_eq_getD_getElem?, Array.getElem?_eq_none h] at h3
                  simp at h3
              rw [getD_push he2]
              exact h3
          rw [hn] at this
          cases this
      · obtain ⟨hi1, hi2⟩ := hsub i hi
        have h3 := h.2 i hi2
        unfold wpOp at h3 ⊢
        rw [Array.getElem?_push_lt hi1]
        rw [Array.getElem?_eq_getElem hi1] at h3
        simp only at h3 ⊢
        have hy : Region.wanted init[i] (yielded (init.push o) a.tmps) = Region.wanted init[i] (yielded init a.tmps) := by
          unfold Region.wanted
          cases hgq : init[i].guard with
          | none => rfl
          | some jp =>
            obtain ⟨j, p⟩ := jp
            simp only
            rw [yield_push (hgd i _ (Array.getElem?_eq_getElem hi1) j p hgq)]
        rw [hy, set_push (by omega)]
        have hK : ∀ a w, wpAny P .any init (fun e a w => e = .normal ∧ Wl a w) fuel (listed.setIfInBounds i true) a w → wpAny P .any (init.push o) Q (fuel + 1) ((listed.setIfInBounds i true).push false) a w := fun a w hh => ih _ a w (by simpa using hsz) hh
        split
        · rename_i hw
          rw [if_pos hw] at h3
          rcases h3 with h3 | ⟨_, x, y, hx, _⟩
          · exact .inl (wp_weak hK (fun e a w hne hq => absurd hq.1 hne) h3)
          · cases hx
        · rename_i hw
          rw [if_neg hw] at h3
          exact hK _ _ h3
end
end Go.V
