/-
  The contract of sort.Ints: numbers sorted where they lie.
-/
import Derived.Test.YtdgenchlghojlaaRows
import Derived.Test.YtdgenchlghojlaaM5
import Derived.Shelf.Slices.In.SortNone2
namespace Go.Proofs.Ytdgenchlghojlaa
open Go Go.Proofs Go.V Go.RowKit Go.Sort
set_option linter.unusedSimpArgs false

theorem size1 {args : Array Value} {y : Value} (h : args.toList = [y]) : args = #[y] := by
  apply Array.ext'
  rw [h]
/-- Numbers sorted. -/
def srtI (l : List Int) : List Int := l.mergeSort fun x y => decide (x ≤ y)
theorem srtI_length (l : List Int) : (srtI l).length = l.length := List.length_mergeSort l
/-- A row stored anew. -/
theorem row_block {w : World} {g off n : Nat} {os : Array Obj} {dk : Array Int} {cur : Array Value} {t : Nat} (hg : w.heap[g]? = some (.cells cur t (0, 0))) (hs : off + dk.size ≤ cur.size) :
    ∃ cur', (grow (putRow (Value.int .i64) (Go.Sort.ahead w n) g off dk) os).heap[g]? = some (.cells cur' t (0, 0)) ∧ cur'.size = cur.size ∧ ∀ (i : Nat) (u : Value), (dk.toList.map (Value.int .i64))[i]? = some u → cur'[off + i]? = some u := by
  have hb : g < w.heap.size := (Array.getElem?_eq_some_iff.1 hg).1
  refine ⟨Go.Sort.putCells (Value.int .i64) off dk cur, ?_, by simp [Go.Sort.putCells], fun i u hu => ?_⟩
  · rw [heap_grow_old _ _ (by rw [size_putRow]; exact hb)]
    unfold putRow mapBlock
    show (w.heap.modify g _)[g]? = _
    rw [Array.getElem?_modify, if_pos rfl, hg]
    rfl
  · simp only [List.getElem?_map, Option.map_eq_some_iff] at hu
    obtain ⟨x, hx, rfl⟩ := hu
    rw [Array.getElem?_toList] at hx
    obtain ⟨hi, hx⟩ := Array.getElem?_eq_some_iff.1 hx
    have hic : off + i < cur.size := by omega
    unfold Go.Sort.putCells
    rw [Array.getElem?_mapIdx, Array.getElem?_eq_getElem hic]
    simp [hi, hx]
theorem row_other {w : World} {g off n : Nat} {os : Array Obj} {dk : Array Int} {k : Nat} (hk : k < w.heap.size) (hne : k ≠ g) : (grow (putRow (Value.int .i64) (Go.Sort.ahead w n) g off dk) os).heap[k]? = w.heap[k]? := by
  rw [heap_grow_old _ _ (by rw [size_putRow]; exact hk)]
  unfold putRow mapBlock
  show (w.heap.modify g _)[k]? = _
  rw [Array.getElem?_modify, if_neg (fun e => hne e.symm)]
def fSortI : List D → Option Out
  | [.arr z ds] => if z = 1 then (intsOf ds).bind fun l => if l.length ≤ 1048576 then some (.ret [] [ints (srtI l)]) else none else none
  | _ => none
@[reducible] def S_sort_Ints : FS := { pm := [.own 1 0 true], rm := [], f := fSortI }
set_option maxRecDepth 100000 in
theorem M_sort_Ints : Meets gl0 Try.prog 67 S_sort_Ints := by
  have he : ∀ args w, (callFunc 67 args).run Try.prog w = .ok (.enter 67 args) w := Go.Proofs.enters_of Try.func67 (by kernel_rfl) rfl
  refine meets_of_calls he fun ds rs us hd args w F ow hg ha hF hO => ?_
  obtain ⟨d, y, rfl, h2, h3⟩ := args_one ha
  replace hd : fSortI [d] = some (.ret rs us) := hd
  unfold fSortI at hd
  split at hd
  case h_2 => cases hd
  rename_i z ds e
  cases e
  split at hd
  case isFalse => cases hd
  rename_i hz1
  subst hz1
  obtain ⟨l, hl, hd'⟩ := Option.bind_eq_some_iff.1 hd
  clear hd
  split at hd'
  case isFalse => cases hd'
  rename_i hz
  cases hd'
  obtain ⟨rfl, hin⟩ := intsOf_some _ _ hl
  rcases h3 with h3 | h3
  · cases h3
  replace h3 : OwnV w (FB F 0 0) (fun g => ow g = some 0) 1 (.arr 1 (l.map fun n => I n)) y := h3
  obtain ⟨l', e, hw, h3⟩ := h3
  cases e
  rw [size1 h2]
  have hfl : ∀ x ∈ l.map (fun n => I n), x.width = 1 := fun x hx => by
    obtain ⟨s, _, rfl⟩ := List.mem_map.1 hx
    rfl
  have hfl2 : ∀ x ∈ (srtI l).map (fun n => I n), x.width = 1 := fun x hx => by
    obtain ⟨s, _, rfl⟩ := List.mem_map.1 hx
    rfl
  rcases h3 with ⟨rfl, hnil⟩ | ⟨g, o, c, us', cs, e, rfl, h4, h5, h6, h7, h8, h9⟩
  · have hl0 : l = [] := by simpa using hnil
    subst hl0
    refine (Any.sort_Ints_none Try.lays191 none 0 w).mono ?_
    rintro e w' ⟨rfl, rfl⟩
    refine ⟨_, rfl, F, fun _ => none, [], rfl, ⟨rfl, rfl, rfl, Nat.le_refl _, fun _ _ _ => rfl, fun _ h => h, fun b hb => ⟨.inl hb, (hF b hb).1, rfl⟩, fun b j h => (by cases h), rfl, rfl, fun j => .inl rfl, ?_⟩⟩
    exact ⟨by simp, .inr ⟨[], by simp [srtI], fun x hx => (by cases hx), .inl ⟨rfl, rfl⟩⟩, trivial⟩
  · have hgl : g < w.heap.size := (Array.getElem?_eq_some_iff.1 h5).1
    have hus := rep_ints l us' h7
    subst hus
    rw [List.length_map] at h4
    have hH : Holds (Value.int .i64) w g o l.toArray := fun j hj => by
      have hj' : j < l.length := by simpa using hj
      refine ⟨?_, Lib.frozen_of_heap h5 _⟩
      rw [Lib.cell_of_heap h5]
      refine (h8 j (.int .i64 l[j]) (by simp [hj'])).trans ?_
      simp [hj']
    have hc := Any.sort_Ints Try.lays191 g o c l w hH hgl (by omega)
    rw [List.length_map]
    refine Calls.mono hc ?_
    rintro e w' ⟨rfl, n, os, rfl⟩
    have hlen := srtI_length l
    obtain ⟨cur', c1, c2, c3⟩ := row_block (off := o) (n := n) (os := os) (dk := (srtI l).toArray) h5 (by simp; omega)
    refine ⟨_, rfl, F, fun _ => none, [], rfl, ⟨rfl, rfl, rfl, by rw [size_grow, size_putRow]; show w.heap.size ≤ w.heap.size + _; omega, fun b hb hob => row_other hb (fun e => by rw [e, h9] at hob; cases hob), fun _ h => h, fun b hb => ⟨.inl hb, ?_, rfl⟩, fun b j h => (by cases h), rfl, rfl, fun j => .inl rfl, ?_⟩⟩
    · have := (hF b hb).1
      rw [size_grow, size_putRow]
      show b < w.heap.size + _
      omega
    · refine ⟨by simp, .inr ⟨(srtI l).map (fun n => I n), rfl, hfl2, .inr ⟨g, o, c, (srtI l).map (Value.int .i64), cur', e, by rw [List.length_map, hlen], by rw [List.length_map, hlen]; exact h4, c1, by omega, RepL_ints _, fun i u hu => c3 i u (by simpa using hu), trivial⟩⟩, trivial⟩
end Go.Proofs.Ytdgenchlghojlaa
/-
  Contexts and contracts of functions, printed by gen.py.
-/
namespace Go.Proofs.Ytdgenchlghojlaa
open Go.V
set_option maxRecDepth 100000
/-- loop.example/g01054/spec.l1Put -/
@[reducible] noncomputable def c_spec_l1Put : Cx := { K := [.dat 2, .dat 0, .no, .no, .dat 2, .dat 0, .own 1 0 false, .dat 0, .dat 2, .dat 0, .dat 0, .dat 0, .dat 2, .dat 0, .dat 2, .dat 0, .dat 0, .dat 0, .dat 0, .dat 0, .dat 0, .dat 0, .dat 2, .dat 0, .dat 0, .dat 0, .dat 2, .dat 0, .dat 2, .dat 0, .dat 0, .dat 0, .dat 0, .dat 2, .own 1 0 false, .dat 2, .dat 0, .dat 2, .own 1 0 false, .own 1 0 false, .dat 0, .dat 1, .own 1 0 false, .own 1 0 false, .dat 2, .dat 0, .dat 2, .dat 2], T := [(3, ty3), (23, ty23)], S := [], H := [(0, ([0, 1, 5], [0, 1, 5]))], res := [.tmp 4], ios := [], G := gl0 }
noncomputable def F_spec_l1Put : List D → Option Out := denF c_spec_l1Put Try.f46
@[reducible] noncomputable def S_spec_l1Put : FS := { pm := [.dat 2, .dat 0], rm := [.dat 2], f := F_spec_l1Put }
theorem M_spec_l1Put : Meets gl0 Try.prog 46 S_spec_l1Put := meets_of (P := Try.prog) (c := c_spec_l1Put) (fn := Try.f46) (pm := S_spec_l1Put.pm) (rm := S_spec_l1Put.rm) (by kernel_rfl) lookNil follows_mixed Try.func46 (by kernel_rfl) (by kernel_rfl) rfl
/-- loop.example/g01054/spec.LateOrders -/
@[reducible] noncomputable def c_spec_LateOrders : Cx := { K := [.dat 2, .dat 2, .no, .no, .dat 2, .dat 0, .dat 2, .dat 0, .dat 0, .dat 2, .dat 2, .dat 0, .dat 0, .dat 2, .dat 2, .dat 1, .dat 0, .dat 0, .dat 0, .dat 0, .dat 1, .dat 0, .dat 0, .dat 0, .dat 2, .dat 2, .dat 2, .dat 0, .dat 2, .dat 0, .dat 2, .dat 2, .dat 0, .dat 2, .dat 0, .dat 2], T := [(3, ty3), (23, ty23), (27, ty27), (45, ty45)], S := [(35, S_spec_orAsked), (43, S_spec_orLate), (46, S_spec_l1Put)], H := [(0, ([0, 1, 6, 15, 16, 17], [6]))], res := [.tmp 4, .tmp 5], ios := [], G := gl0 }
noncomputable def F_spec_LateOrders : List D → Option Out := denF c_spec_LateOrders Try.f25
@[reducible] noncomputable def S_spec_LateOrders : FS := { pm := [.dat 2, .dat 2], rm := [.dat 2, .dat 0], f := F_spec_LateOrders }
theorem M_spec_LateOrders : Meets gl0 Try.prog 25 S_spec_LateOrders := meets_of (P := Try.prog) (c := c_spec_LateOrders) (fn := Try.f25) (pm := S_spec_LateOrders.pm) (rm := S_spec_LateOrders.rm) (by kernel_rfl) (lookCons M_spec_orAsked (lookCons M_spec_orLate (lookCons M_spec_l1Put lookNil))) follows_mixed Try.func25 (by kernel_rfl) (by kernel_rfl) rfl
/-- loop.example/g01054/impl.sorted -/
@[reducible] noncomputable def c_impl_sorted : Cx := { K := [.dat 2, .no, .own 1 0 false, .own 1 0 false, .own 1 0 false, .dat 2, .own 1 0 false, .via 3, .no, .own 1 0 false], T := [(3, ty3), (23, ty23)], S := [(67, S_sort_Ints)], H := [], res := [.tmp 2], ios := [], G := gl0 }
noncomputable def F_impl_sorted : List D → Option Out := denF c_impl_sorted Try.f47
@[reducible] noncomputable def S_impl_sorted : FS := { pm := [.dat 2], rm := [.own 1 0 false], f := F_impl_sorted }
theorem M_impl_sorted : Meets gl0 Try.prog 47 S_impl_sorted := meets_of (P := Try.prog) (c := c_impl_sorted) (fn := Try.f47) (pm := S_impl_sorted.pm) (rm := S_impl_sorted.rm) (by kernel_rfl) (lookCons M_sort_Ints lookNil) follows_mixed Try.func47 (by kernel_rfl) (by kernel_rfl) rfl
/-- loop.example/g01054/impl.LateOrders -/
@[reducible] noncomputable def c_impl_LateOrders : Cx := { K := [.dat 2, .dat 2, .no, .no, .own 1 0 false, .dat 0, .own 1 0 false, .dat 0, .dat 0, .dat 2, .dat 2, .dat 0, .dat 0, .own 1 0 false, .own 1 0 false, .dat 2, .dat 2, .dat 1, .dat 0, .dat 0, .dat 0, .dat 0, .dat 1, .dat 0, .dat 0, .dat 0, .own 1 0 false, .dat 2, .dat 2, .dat 0, .dat 2, .dat 0, .dat 2, .dat 2, .dat 0, .dat 1, .own 1 0 false, .dat 0, .via 6, .own 1 0 false], T := [(3, ty3), (23, ty23), (27, ty27), (45, ty45)], S := [(38, S_impl_isSequence), (45, S_impl_lateness), (47, S_impl_sorted)], H := [(0, ([0, 1, 6, 17, 18, 19], [6]))], res := [.tmp 4, .tmp 5], ios := [], G := gl0 }
noncomputable def F_impl_LateOrders : List D → Option Out := denF c_impl_LateOrders Try.f26
@[reducible] noncomputable def S_impl_LateOrders : FS := { pm := [.dat 2, .dat 2], rm := [.own 1 0 false, .dat 0], f := F_impl_LateOrders }
theorem M_impl_LateOrders : Meets gl0 Try.prog 26 S_impl_LateOrders := meets_of (P := Try.prog) (c := c_impl_LateOrders) (fn := Try.f26) (pm := S_impl_LateOrders.pm) (rm := S_impl_LateOrders.rm) (by kernel_rfl) (lookCons M_impl_isSequence (lookCons M_impl_lateness (lookCons M_impl_sorted lookNil))) follows_mixed Try.func26 (by kernel_rfl) (by kernel_rfl) rfl
/-- loop.example/g01054/laws.FnExactLateOrders -/
@[reducible] noncomputable def c_laws_FnExactLateOrders : Cx := { K := [.dat 2, .dat 2, .no, .no, .dat 0, .dat 0, .dat 2, .dat 0, .via 34, .via 36, .via 41, .dat 0, .dat 0, .dat 0, .dat 0, .dat 1, .dat 0, .dat 2, .dat 0, .dat 0, .dat 2, .dat 0, .dat 0, .dat 0, .dat 0, .tup [.dat 2, .dat 0], .dat 2, .dat 1, .dat 2, .dat 1, .tup [.dat 2, .dat 0], .dat 2, .dat 0, .dat 2, .own 4 0 false, .dat 2, .own 1 0 false, .tup [.own 1 0 false, .dat 0], .via 34, .via 36, .tup [.own 1 0 false, .dat 0], .own 1 0 false, .dat 0, .via 41, .dat 2, .dat 0, .dat 0, .dat 0, .dat 0, .dat 0, .dat 0, .dat 0, .via 34, .dat 2, .dat 1, .dat 0, .dat 0, .via 36, .dat 2, .dat 1, .dat 0, .dat 0, .via 34, .dat 0, .dat 0, .via 36, .dat 0, .dat 0, .dat 0, .dat 0, .dat 0, .via 41, .dat 2, .dat 0, .dat 0, .dat 0, .dat 0, .dat 0, .dat 0, .dat 0, .dat 0, .via 41, .dat 0, .dat 0, .via 41, .dat 0, .dat 0, .dat 0, .dat 0, .dat 0, .dat 0, .dat 0, .tup [.own 1 0 false, .dat 0], .dat 2, .dat 1, .dat 2, .dat 1, .tup [.own 1 0 false, .dat 0], .dat 1, .dat 0, .dat 1, .dat 2, .dat 0, .dat 0, .dat 0, .dat 0, .dat 0, .dat 0, .dat 0, .via 41, .dat 0, .dat 0, .dat 0, .dat 0, .dat 0, .dat 0, .dat 0], T := [(3, ty3), (4, ty4), (23, ty23)], S := [(11, S_laws_szOrderS), (13, S_laws_toOrderS), (14, S_laws_toIntS), (16, S_laws_eqOrderS), (17, S_laws_eqIntS), (22, S_laws_markOrderS), (23, S_laws_markIntS), (24, S_laws_heldIntS), (25, S_spec_LateOrders), (26, S_impl_LateOrders)], H := [], res := [.tmp 4], ios := [], G := gl0 }
noncomputable def F_laws_FnExactLateOrders : List D → Option Out := denF c_laws_FnExactLateOrders Try.f6
@[reducible] noncomputable def S_laws_FnExactLateOrders : FS := { pm := [.dat 2, .dat 2], rm := [.dat 0], f := F_laws_FnExactLateOrders }
theorem M_laws_FnExactLateOrders : Meets gl0 Try.prog 6 S_laws_FnExactLateOrders := meets_of (P := Try.prog) (c := c_laws_FnExactLateOrders) (fn := Try.f6) (pm := S_laws_FnExactLateOrders.pm) (rm := S_laws_FnExactLateOrders.rm) (by kernel_rfl) (lookCons M_laws_szOrderS (lookCons M_laws_toOrderS (lookCons M_laws_toIntS (lookCons M_laws_eqOrderS (lookCons M_laws_eqIntS (lookCons M_laws_markOrderS (lookCons M_laws_markIntS (lookCons M_laws_heldIntS (lookCons M_spec_LateOrders (lookCons M_impl_LateOrders lookNil)))))))))) follows_mixed Try.func6 (by kernel_rfl) (by kernel_rfl) rfl
end Go.Proofs.Ytdgenchlghojlaa
/-
  What the functions compute: their evaluated texts, printed.
-/
namespace Go.Proofs.Ytdgenchlghojlaa
open Go Go.V
theorem t_spec_l1Put (x0 x1 : D) : F_spec_l1Put [x0, x1] =
  ((loopC (fun s => (lenD false (sl s 0)).bind fun z => (bin BinOp.lss false [] (sl s 2) z).bind fun z => (gate (D.tup []) z true (some (sl s 0))).bind fun z_1 => (gate (D.tup []) z true (some (sl s 2))).bind fun z_2 =>
 (gate (D.tup []) z true (Option.map D.ptr (elemD 1 z_1 z_2))).bind fun z_3 => (gate (D.tup []) z true ((ldD false 1 z_3).bind chkV)).bind fun z_4 => (gate (D.tup []) z true (some (sl s 1))).bind fun z_5 =>
 (gate (D.tup []) z true (bin BinOp.lss false [] z_4 z_5)).bind fun z_6 => (pickD z z_6 (D.v (Value.bool false))).bind fun z => ifD z ((bin BinOp.add false [] (sl s 2) (D.v (Value.int IntKind.i64 1))).bind fun z =>
 some (Out.nrm [sl s 0, sl s 1, z])) (some (Out.ext 0 [sl s 0, sl s 1, sl s 2]))) [x0, x1, D.v (Value.int IntKind.i64 0)]).bind fun o => outK o (fun i s => ifN (i.beq 0) ((lenD false (sl s 0)).bind fun z =>
 (bin BinOp.lss false [] (sl s 2) z).bind fun z => (gate (D.tup []) z true (some (sl s 0))).bind fun z_1 => (gate (D.tup []) z true (some (sl s 2))).bind fun z_2 =>
 (gate (D.tup []) z true (Option.map D.ptr (elemD 1 z_1 z_2))).bind fun z_3 => (gate (D.tup []) z true ((ldD false 1 z_3).bind chkV)).bind fun z_4 => (gate (D.tup []) z true (some (sl s 1))).bind fun z_5 =>
 (gate (D.tup []) z true (bin BinOp.eql false [] z_4 z_5)).bind fun z_6 => (pickD z z_6 (D.v (Value.bool false))).bind fun z => ifD z (some (Out.ret [sl s 0] [])) ((mkArr 1 []).bind fun a =>
 (sliceD false 1 (sl s 0) (D.v (Value.int IntKind.i64 0)) (sl s 2)).bind fun z => (chkA z).bind fun b => (appD 1 8 a b).bind fun y => (mkArr 1 [sl s 1]).bind fun a => (chkA a).bind fun b => (appD 1 8 y b).bind fun y =>
 (sliceHi false 1 (sl s 0) (sl s 2)).bind fun z => (appD 1 8 y z).bind fun y => some (Out.ret [y] []))) none) fun a b => some (Out.ret a b)) := by kernel_rfl
theorem t_spec_LateOrders (x0 x1 : D) : F_spec_LateOrders [x0, x1] =
  (callK (F_spec_orAsked [x0, x1]) fun rs _u => (un UnOp.not (sl rs 0)).bind fun z => ifD z (some (Out.ret [D.arr 1 [], D.v (Value.bool false)] [])) (callK (F_spec_orLate [x0, x1]) fun rs _u =>
 (lenD false (sl rs 0)).bind fun z => (loopC (fun s => (bin BinOp.lss false [] (sl s 5) (sl s 4)).bind fun z => ifD z ((Option.map D.ptr (elemD 1 (sl s 3) (sl s 5))).bind fun z => ((ldD false 1 z).bind chkV).bind fun z =>
 (bin BinOp.gtr false [] z (D.v (Value.int IntKind.i64 0))).bind fun z => ifD z ((Option.map D.ptr (elemD 1 (sl s 1) (sl s 5))).bind fun z => ((ldD false 1 z).bind chkV).bind fun z =>
 (Option.map D.ptr (elemD 4 (sl s 0) z)).bind fun z => (offD 0 z).bind fun z => ((ldD false 1 z).bind chkV).bind fun z => callK (F_spec_l1Put [sl s 2, z]) fun rs _u =>
 (bin BinOp.add false [] (sl s 5) (D.v (Value.int IntKind.i64 1))).bind fun z => some (Out.nrm [sl s 0, sl s 1, sl rs 0, sl s 3, sl s 4, z])) ((bin BinOp.add false [] (sl s 5) (D.v (Value.int IntKind.i64 1))).bind fun z =>
 some (Out.nrm [sl s 0, sl s 1, sl s 2, sl s 3, sl s 4, z]))) (some (Out.ext 0 [sl s 2]))) [x0, x1, D.arr 1 [], sl rs 0, z, D.v (Value.int IntKind.i64 0)]).bind fun o =>
 outK o (fun i s => ifN (i.beq 0) (some (Out.ret [sl s 0, D.v (Value.bool true)] [])) none) fun a b => some (Out.ret a b))) := by kernel_rfl
theorem t_impl_sorted (x0 : D) : F_impl_sorted [x0] =
  ((mkArr 1 []).bind fun a => (chkA x0).bind fun b => (appD 1 8 a b).bind fun y => (liveD y (D.ref 0 0)).bind fun z =>
 (ref0 z y).bind fun i => (liveD i i).bind fun i => callK (fSortI [i]) fun _u us => some (Out.ret [sl us 0] [])) := by kernel_rfl
theorem t_impl_LateOrders (x0 x1 : D) : F_impl_LateOrders [x0, x1] =
  (callK (F_impl_isSequence [x0, x1]) fun rs _u => (un UnOp.not (sl rs 0)).bind fun z => ifD z ((mkArr 1 []).bind fun a => some (Out.ret [a, D.v (Value.bool false)] [])) ((mkArr 1 []).bind fun a =>
 callK (F_impl_lateness [x0, x1]) fun rs _u => (lenD false (sl rs 0)).bind fun z => (loopC (fun s => (bin BinOp.lss false [] (sl s 5) (sl s 4)).bind fun z => ifD z
 ((Option.map D.ptr (elemD 1 (sl s 3) (sl s 5))).bind fun z => ((ldD false 1 z).bind chkV).bind fun z => (bin BinOp.gtr false [] z (D.v (Value.int IntKind.i64 0))).bind fun z => ifD z
 ((Option.map D.ptr (elemD 1 (sl s 1) (sl s 5))).bind fun z => ((ldD false 1 z).bind chkV).bind fun z => (Option.map D.ptr (elemD 4 (sl s 0) z)).bind fun z => (offD 0 z).bind fun z =>
 ((ldD false 1 z).bind chkV).bind fun z => (mkArr 1 [z]).bind fun a => (chkA a).bind fun b => (appD 1 8 (sl s 2) b).bind fun y => (bin BinOp.add false [] (sl s 5) (D.v (Value.int IntKind.i64 1))).bind
 fun z => some (Out.nrm [sl s 0, sl s 1, y, sl s 3, sl s 4, z])) ((bin BinOp.add false [] (sl s 5) (D.v (Value.int IntKind.i64 1))).bind fun z => some (Out.nrm [sl s 0, sl s 1, sl s 2, sl s 3, sl s 4, z])))
 (some (Out.ext 0 [sl s 2]))) [x0, x1, a, sl rs 0, z, D.v (Value.int IntKind.i64 0)]).bind fun o => outK o (fun i s => ifN (i.beq 0) ((liveD (sl s 0) (D.ref 0 0)).bind fun z => (liveD z (sl s 0)).bind fun i =>
 callK (F_impl_sorted [i]) fun rs _u => some (Out.ret [sl rs 0, D.v (Value.bool true)] [])) none) fun a b => some (Out.ret a b))) := by kernel_rfl
theorem t_laws_FnExactLateOrders (x0 x1 : D) : F_laws_FnExactLateOrders [x0, x1] =
  ((lenD false x1).bind fun z => (bin BinOp.gtr false [] z (D.v (Value.int IntKind.i64 1048576))).bind fun z => ifD z (some (Out.ret [D.v (Value.bool true)] []))
 (callK (F_laws_szOrderS [x0, D.v (Value.int IntKind.i64 1048576)]) fun rs _u => (bin BinOp.lss false [] (sl rs 0) (D.v (Value.int IntKind.i64 0))).bind fun z => ifD z (some (Out.ret [D.v (Value.bool true)] []))
 (callK (F_laws_toOrderS [x0]) fun rs _u => callK (F_laws_toIntS [x1]) fun rs_1 _u => callK (F_spec_LateOrders [sl rs 0, sl rs_1 0]) fun rs _u => (tupAt (D.tup rs) 0).bind fun z => (tupAt (D.tup rs) 1).bind fun z_1 =>
 callK (F_laws_toOrderS [x0]) fun rs _u => (liveD (sl rs 0) (D.ref 0 0)).bind fun z_2 => callK (F_laws_toIntS [x1]) fun rs_2 _u => (liveD (sl rs_2 0) (D.ref 0 0)).bind fun z_3 => (liveD z_2 (D.ref 0 0)).bind fun z_4 =>
 (liveD z_3 (D.ref 0 0)).bind fun z_5 => (liveD z_4 (sl rs 0)).bind fun i => (liveD z_5 (sl rs_2 0)).bind fun i_1 => callK (F_impl_LateOrders [i, i_1]) fun rs_3 _u => (tupAt (D.tup rs_3) 0).bind fun y =>
 (tupAt (tupCut (D.tup rs_3) 0) 1).bind fun z_6 => (liveD y (D.ref 0 0)).bind fun z_7 => (liveD z_7 (D.ref 0 0)).bind fun z_8 => (liveD z_8 y).bind fun i => callK (F_laws_eqIntS [i, z]) fun rs_4 _u =>
 (un UnOp.not (sl rs_4 0)).bind fun z_9 => (gate (D.tup []) z_9 false (some z_6)).bind fun z_10 => (gate (D.tup []) z_9 false (some z_1)).bind fun z_11 => (gate (D.tup []) z_9 false (bin BinOp.neq true [] z_10 z_11)).bind
 fun z_12 => (pickD z_9 (D.v (Value.bool true)) z_12).bind fun z_13 => ifD z_13 (some (Out.ret [D.v (Value.bool false)] [])) ((liveD z_2 (D.ref 0 0)).bind fun z_14 => callK (F_laws_toOrderS [x0]) fun rs_5 _u =>
 (liveD z_14 (sl rs 0)).bind fun i => callK (F_laws_eqOrderS [i, sl rs_5 0]) fun rs_6 _u => (un UnOp.not (sl rs_6 0)).bind fun z_15 => ifD z_15 (some (Out.ret [D.v (Value.bool false)] []))
 ((liveD z_3 (D.ref 0 0)).bind fun z_16 => callK (F_laws_toIntS [x1]) fun rs_7 _u => (liveD z_16 (sl rs_2 0)).bind fun i => callK (F_laws_eqIntS [i, sl rs_7 0]) fun rs_8 _u => (un UnOp.not (sl rs_8 0)).bind fun z_17 =>
 ifD z_17 (some (Out.ret [D.v (Value.bool false)] [])) ((liveD z_2 (D.ref 0 0)).bind fun z_18 => (ref0 z_18 (sl rs 0)).bind fun i => (liveD i i).bind fun i => callK (F_laws_markOrderS [i, D.v (Value.int IntKind.i64 1)])
 fun rs _u => (liveD z_3 (D.ref 0 0)).bind fun z_19 => (ref0 z_19 (sl rs_2 0)).bind fun i => (liveD i i).bind fun i => callK (F_laws_markIntS [i, sl rs 0]) fun rs _u => (bin BinOp.lss false [] (sl rs 0) (D.v (Value.int
 IntKind.i64 0))).bind fun z_20 => (gate D.bad z_20 false (liveD z_7 (D.ref 0 0))).bind fun z_21 => (gate (D.tup []) z_20 false (some z)).bind fun z_22 => gateC z_20 false ((liveD z_21 y).bind fun i => callK (F_laws_eqIntS
 [i, z_22]) fun rs _u => some (Out.nrm [sl rs 0])) [D.tup []] fun outs => (gate (D.tup []) z_20 false (un UnOp.not (sl outs 0))).bind fun z_23 => (pickD z_20 (D.v (Value.bool true)) z_23).bind fun z_24 => (gate (D.tup [])
 z_24 false (some z_6)).bind fun z_25 => (gate (D.tup []) z_24 false (some z_1)).bind fun z_26 => (gate (D.tup []) z_24 false (bin BinOp.neq true [] z_25 z_26)).bind fun z_27 => (pickD z_24 (D.v (Value.bool true))
 z_27).bind fun z_28 => ifD z_28 (some (Out.ret [D.v (Value.bool false)] [])) ((liveD z_7 (D.ref 0 0)).bind fun z_29 => (ref0 z_29 y).bind fun i => (liveD i i).bind fun i => callK (F_laws_markIntS [i, D.v (Value.int
 IntKind.i64 1)]) fun rs us => (liveD z_7 (D.ref 0 0)).bind fun z_30 => (liveD z_30 (sl us 0)).bind fun i => callK (F_laws_heldIntS [i, D.v (Value.int IntKind.i64 1)]) fun rs_9 _u => (bin BinOp.lss false [] (sl rs_9 0)
 (D.v (Value.int IntKind.i64 0))).bind fun z_31 => ifD z_31 (some (Out.ret [D.v (Value.bool false)] [])) ((bin BinOp.neq false [] (sl rs_9 0) (sl rs 0)).bind fun z_32 => ifD z_32 (some (Out.ret [D.v (Value.bool false)]
 [])) (callK (F_laws_toOrderS [x0]) fun rs_10 _u => callK (F_laws_toIntS [x1]) fun rs_11 _u => callK (F_impl_LateOrders [sl rs_10 0, sl rs_11 0]) fun rs_12 _u => (tupAt (D.tup rs_12) 0).bind fun y => (tupAt (tupCut (D.tup
 rs_12) 0) 1).bind fun z_33 => callK (F_laws_eqIntS [y, z]) fun rs_13 _u => (un UnOp.not (sl rs_13 0)).bind fun z => (gate (D.tup []) z false (some z_33)).bind fun z_34 => (gate (D.tup []) z false (some z_1)).bind fun
 z_35 => (gate (D.tup []) z false (bin BinOp.neq true [] z_34 z_35)).bind fun z_36 => (pickD z (D.v (Value.bool true)) z_36).bind fun z => ifD z (some (Out.ret [D.v (Value.bool false)] [])) ((liveD z_7 (D.ref 0 0)).bind
 fun z => (liveD z (sl us 0)).bind fun i => callK (F_laws_heldIntS [i, D.v (Value.int IntKind.i64 1)]) fun rs_14 _u => (bin BinOp.lss false [] (sl rs_14 0) (D.v (Value.int IntKind.i64 0))).bind fun z => ifD z (some
 (Out.ret [D.v (Value.bool false)] [])) ((bin BinOp.neq false [] (sl rs_14 0) (sl rs 0)).bind fun z => ifD z (some (Out.ret [D.v (Value.bool false)] [])) (some (Out.ret [D.v (Value.bool true)] []))))))))))))) := by kernel_rfl
end Go.Proofs.Ytdgenchlghojlaa
/-
  Late orders: what the functions compute.
-/
namespace Go.Proofs.Ytdgenchlghojlaa
open Go Go.Proofs Go.V
set_option linter.unusedSimpArgs false

/-- A number put into an increasing list. -/
def putI : List Int → Int → List Int
  | [], n => [n]
  | x :: l, n => if x < n then x :: putI l n else if x = n then x :: l else n :: x :: l
def lead (n : Int) : List Int → Nat
  | [] => 0
  | x :: l => if x < n then lead n l + 1 else 0
theorem lead_le (n : Int) : ∀ l, lead n l ≤ l.length
  | [] => Nat.le_refl _
  | x :: l => by
    unfold lead
    split
    · exact Nat.succ_le_succ (lead_le n l)
    · exact Nat.zero_le _
theorem lead_lt (n : Int) : ∀ (l : List Int) (i : Nat) (h : i < l.length), i < lead n l → l[i] < n
  | [], i, h, _ => by cases h
  | x :: l, i, h, hi => by
    unfold lead at hi
    split at hi
    · rename_i hx
      cases i with
      | zero => exact hx
      | succ i => exact lead_lt n l i (by simpa using h) (by omega)
    · omega
theorem lead_at (n : Int) : ∀ (l : List Int) (h : lead n l < l.length), ¬ l[lead n l] < n
  | [], h => by cases h
  | x :: l, h => by
    by_cases hx : x < n
    · have e : lead n (x :: l) = lead n l + 1 := by simp [lead, hx]
      simp only [e, List.getElem_cons_succ]
      exact lead_at n l (by rw [e] at h; simpa using h)
    · have e : lead n (x :: l) = 0 := by simp [lead, hx]
      simp only [e, List.getElem_cons_zero]
      exact hx
theorem put_lead (n : Int) : ∀ (l : List Int), putI l n = if l[lead n l]? = some n then l else l.take (lead n l) ++ n :: l.drop (lead n l)
  | [] => by simp [putI, lead]
  | x :: l => by
    by_cases hx : x < n
    · have e : lead n (x :: l) = lead n l + 1 := by simp [lead, hx]
      rw [e]
      simp only [putI, hx, if_true, List.getElem?_cons_succ, List.take_succ_cons, List.drop_succ_cons]
      rw [put_lead n l]
      split <;> rfl
    · have e : lead n (x :: l) = 0 := by simp [lead, hx]
      rw [e]
      by_cases h2 : x = n
      · simp [putI, h2]
      · simp [putI, hx, h2]
theorem e_spec_l1Put (l : List Int) (n : Int) (h : l.length ≤ 1000) : F_spec_l1Put [ints l, I n] = some (.ret [ints (putI l n)] []) := by
  rw [t_spec_l1Put]
  have hle := lead_le n l
  refine loop_bind (.ext 0 [ints l, I n, I (lead n l : Nat)]) (loop_for (lead n l) (fun i => [ints l, I n, I i]) _ (fun i hi => ?_) ?_ rfl rfl) ?_
  · have hil : i < l.length := by omega
    have hlt := lead_lt n l i hil hi
    have hw : IntKind.i64.wrap ((i : Int) + 1) = (i : Int) + 1 := wrap_id (by omega) (by omega)
    simp -implicitDefEqProofs [hil, hlt, hw]
  · by_cases hl : lead n l < l.length
    · have := lead_at n l hl
      simp -implicitDefEqProofs [hl, this]
    · simp -implicitDefEqProofs [hl]
  · rw [put_lead]
    generalize lead n l = p at hle
    have s1 : sliceD false 1 (ints l) (I ((0 : Nat) : Int)) (I (p : Int)) = some (ints (l.take p)) := by
      have := sliceD_nat (z := 1) (l := l.map I) (i := 0) (j := p) (k := .i64) (k' := .i64) (Nat.zero_le _) (by simp; omega)
      rw [this]
      simp [List.map_take]
    have s2 : sliceHi false 1 (ints l) (I (p : Int)) = some (ints (l.drop p)) := by
      have := sliceHi_nat (z := 1) (l := l.map I) (i := p) (k := .i64) (by simp; omega)
      rw [this]
      simp [List.map_drop]
    have a1 : appD 1 8 (ints []) (ints (l.take p)) = some (ints (l.take p)) := app_ints (l := []) (by simp; omega)
    have a2 : appD 1 8 (ints (l.take p)) (ints [n]) = some (ints (l.take p ++ [n])) := app_ints (by simp; omega)
    have a3 : appD 1 8 (ints (l.take p ++ [n])) (ints (l.drop p)) = some (ints (l.take p ++ [n] ++ l.drop p)) := app_ints (by simp; omega)
    have c1 : ∀ l, chkA (ints l) = some (ints l) := fun l => chkA_map fun _ => rfl
    have m1 : mkArr 1 [] = some (ints []) := rfl
    have hb : (Nat.beq 0 0) = true := rfl
    have rest : ∀ q : Bool, q = false → (ifD (B q) (some (Out.ret [ints l] [])) ((mkArr 1 []).bind fun a => (sliceD false 1 (ints l) (D.v (Value.int IntKind.i64 0)) (I (p : Int))).bind fun z => (chkA z).bind fun b => (appD 1 8 a b).bind fun y => (mkArr 1 [I n]).bind fun a => (chkA a).bind fun b => (appD 1 8 y b).bind fun y =>
        (sliceHi false 1 (ints l) (I (p : Int))).bind fun z => (appD 1 8 y z).bind fun y => some (Out.ret [y] []))) = some (.ret [ints (l.take p ++ n :: l.drop p)] []) := by
      rintro q rfl
      rw [ifD_B, if_neg (by simp), show (D.v (Value.int IntKind.i64 0)) = I ((0 : Nat) : Int) from rfl, s1]
      simp -implicitDefEqProofs only [m1, one_int, Option.bind_some, c1, a1, a2, s2, a3]
      simp
    by_cases hp : p < l.length
    · by_cases hq : l[p] = n
      · simp -implicitDefEqProofs [hp, hq]
      · rw [if_neg (by simp [hp, hq])]
        refine Eq.trans ?_ (rest false rfl)
        simp -implicitDefEqProofs [hp, hq, -appD_eq]
    · rw [if_neg (by simp [hp])]
      refine Eq.trans ?_ (rest false rfl)
      simp -implicitDefEqProofs [hp, -appD_eq]

/-! ### an increasing list is made -/
theorem mem_putI {n y : Int} : ∀ {l : List Int}, y ∈ putI l n → y = n ∨ y ∈ l
  | [], h => by simp [putI] at h; exact .inl h
  | x :: l, h => by
    unfold putI at h
    split at h
    · rcases List.mem_cons.1 h with rfl | h
      · simp
      · rcases mem_putI h with h | h
        · exact .inl h
        · simp [h]
    · split at h
      · exact .inr h
      · simpa using h
theorem put_sorted {n : Int} : ∀ {l : List Int}, l.Pairwise (· ≤ ·) → (putI l n).Pairwise (· ≤ ·)
  | [], _ => by simp [putI]
  | x :: l, h => by
    have h' := List.pairwise_cons.1 h
    unfold putI
    split
    · rename_i hx
      refine List.pairwise_cons.2 ⟨fun y hy => ?_, put_sorted h'.2⟩
      rcases mem_putI hy with rfl | hy
      · omega
      · exact h'.1 y hy
    · split
      · exact h
      · refine List.pairwise_cons.2 ⟨fun y hy => ?_, h⟩
        rcases List.mem_cons.1 hy with rfl | hy
        · omega
        · have := h'.1 y hy
          omega
theorem put_perm {n : Int} : ∀ {l : List Int}, n ∉ l → (putI l n).Perm (l ++ [n])
  | [], _ => by simp [putI]
  | x :: l, h => by
    simp only [List.mem_cons, not_or] at h
    unfold putI
    split
    · exact (put_perm h.2).cons x
    · rw [if_neg (fun e => h.1 e.symm)]
      exact (List.perm_append_comm (l₁ := [n]) (l₂ := x :: l))
theorem putAll : ∀ (r : List Int) (a : List Int) (o : List Int), o.Pairwise (· ≤ ·) → o.Perm a → (a ++ r).Nodup → (r.foldl putI o).Pairwise (· ≤ ·) ∧ (r.foldl putI o).Perm (a ++ r)
  | [], a, o, h1, h2, _ => ⟨h1, by simpa using h2⟩
  | n :: r, a, o, h1, h2, h3 => by
    have hn : n ∉ o := fun hm => by
      have := (List.nodup_append.1 h3).2.2 n (h2.mem_iff.1 hm) n (by simp)
      exact this rfl
    have := putAll r (a ++ [n]) (putI o n) (put_sorted h1) ((put_perm hn).trans (h2.append_right [n])) (by simpa using h3)
    simpa using this
theorem putAll_srt (ids : List Int) (h : ids.Nodup) : ids.foldl putI [] = srtI ids := by
  obtain ⟨h1, h2⟩ := putAll ids [] [] List.Pairwise.nil (List.Perm.refl _) (by simpa using h)
  refine List.Perm.eq_of_pairwise (le := (· ≤ ·)) (fun a b _ _ h1 h2 => by omega) h1 ?_ ((by simpa using h2 : (ids.foldl putI []).Perm ids).trans (List.mergeSort_perm _ _).symm)
  have := List.pairwise_mergeSort (le := fun x y : Int => decide (x ≤ y)) (fun a b c h1 h2 => by simp at *; omega) (fun a b => by simp; omega) ids
  exact this.imp (fun h => by simpa using h)
end Go.Proofs.Ytdgenchlghojlaa
/-
  Late orders: the law.
-/
namespace Go.Proofs.Ytdgenchlghojlaa
open Go Go.Proofs Go.V
set_option linter.unusedSimpArgs false

theorem allI_at {β : Type} (p : Nat → β → Bool) : ∀ (m : List β) (k : Nat), allI p k m = true → ∀ (i : Nat) (hi : i < m.length), p (k + i) m[i] = true
  | [], _, _, i, hi => by cases hi
  | x :: m, k, h, i, hi => by
    simp only [allI, Bool.and_eq_true] at h
    cases i with
    | zero => exact h.1
    | succ i =>
      have := allI_at p m (k + 1) h.2 i (by simpa using hi)
      rw [show k + (i + 1) = k + 1 + i by omega]
      exact this
theorem ids_inc {l : List Od} (h : goodO l = true) (i : Nat) : ∀ (j : Nat) (hj : j < l.length) (hi : i < l.length), i < j → l[i].1 < l[j].1
  | 0, _, _, hij => by omega
  | j + 1, hj, hi, hij => by
    simp only [goodO, Bool.and_eq_true] at h
    have hp := allI_at (pOd l) l 0 h.1 (j + 1) hj
    rw [Nat.zero_add] at hp
    have hjl : j < l.length := by omega
    have hstep : l[j].1 < l[j + 1].1 := by
      simp [pOd, hjl] at hp
      exact hp.2
    by_cases he : i = j
    · subst he
      exact hstep
    · exact Int.lt_trans (ids_inc (by simp only [goodO, Bool.and_eq_true]; exact h) i j hjl hi (by omega)) hstep
def lateIds (l : List Od) (s : List Int) (n : Nat) : List Int := ((List.range n).filter fun j => decide (0 < lateF l s j)).map fun j => (oAt l (s.getD j 0)).1
theorem lateIds_succ (l : List Od) (s : List Int) (n : Nat) : lateIds l s (n + 1) = if 0 < lateF l s n then lateIds l s n ++ [(oAt l (s.getD n 0)).1] else lateIds l s n := by
  unfold lateIds
  rw [List.range_succ, List.filter_append, List.map_append]
  by_cases h : 0 < lateF l s n <;> simp [h]
theorem lateIds_len (l : List Od) (s : List Int) : ∀ n, (lateIds l s n).length ≤ n
  | 0 => Nat.le_refl _
  | n + 1 => by
    have := lateIds_len l s n
    rw [lateIds_succ]
    split
    · simp only [List.length_append, List.length_singleton]
      omega
    · omega
theorem lateIds_nodup {l : List Od} {s : List Int} (h : goodO l = true) (hs : ∀ k ∈ s, 0 ≤ k ∧ k < l.length) (hd : s.Nodup) : (lateIds l s s.length).Nodup := by
  unfold lateIds
  refine List.pairwise_map.2 (List.Pairwise.filter _ ((List.pairwise_lt_range (n := s.length)).imp_of_mem fun {a b} ha hb hab => ?_))
  have ha' : a < s.length := List.mem_range.1 ha
  have hb' : b < s.length := List.mem_range.1 hb
  have e1 : s.getD a 0 = s[a] := by simp [ha']
  have e2 : s.getD b 0 = s[b] := by simp [hb']
  rw [e1, e2]
  have k1 := hs s[a] (List.getElem_mem ha')
  have k2 := hs s[b] (List.getElem_mem hb')
  have hne : s[a] ≠ s[b] := List.pairwise_iff_getElem.1 hd a b ha' hb' hab
  have n1 : s[a].toNat < l.length := by omega
  have n2 : s[b].toNat < l.length := by omega
  have o1 : oAt l s[a] = l[s[a].toNat] := by simp [oAt, n1]
  have o2 : oAt l s[b] = l[s[b].toNat] := by simp [oAt, n2]
  rw [o1, o2]
  by_cases hc : s[a].toNat < s[b].toNat
  · have := ids_inc h _ _ n2 n1 hc
    omega
  · have := ids_inc h _ _ n1 n2 (by omega)
    omega
theorem putI_len (n : Int) : ∀ l, (putI l n).length ≤ l.length + 1
  | [] => by simp [putI]
  | x :: l => by
    have := putI_len n l
    unfold putI
    split
    · simp only [List.length_cons]
      omega
    · split
      · simp
      · simp
theorem fold_len : ∀ (r o : List Int), (r.foldl putI o).length ≤ o.length + r.length
  | [], o => by simp
  | n :: r, o => by
    have h1 := fold_len r (putI o n)
    have h2 := putI_len n o
    simp only [List.foldl_cons, List.length_cons]
    omega
/-- The late orders' Ids. -/
def latR (l : List Od) (s : List Int) : List Int := if askO l s = true then srtI (lateIds l s s.length) else []
theorem e_spec_LateOrders (l : List Od) (s : List Int) (hl : l.length ≤ 1048576) : F_spec_LateOrders [ods l, ints s] = some (.ret [ints (latR l s), B (askO l s)] []) := by
  rw [t_spec_LateOrders]
  cases ha : askO l s
  · simp -implicitDefEqProofs [e_spec_orAsked l s hl, ha, latR]
  · obtain ⟨h1, h2, h3, h4, h5⟩ := askO_facts ha
    have hgo : goodO l = true := by simp only [askO, Bool.and_eq_true] at ha; exact ha.1.1
    have hlr : latR l s = (lateIds l s s.length).foldl putI [] := by rw [putAll_srt _ (lateIds_nodup hgo h5 (difG_facts s [] h4).2.1)]; simp [latR, ha]
    rw [hlr]
    have hlen := lateO_len l s s.length
    simp only [e_spec_orAsked l s hl, ha, callK_ret, sl_zero, un_not, Bool.not_true, Option.bind_some, ifD_B, Bool.false_eq_true, if_false, e_spec_orLate l s h1 h5 (by omega), lenD_arr, List.length_map, hlen]
    refine loop_bind _ (loop_for s.length (fun i => [ods l, ints s, ints ((lateIds l s i).foldl putI []), ints (lateO l s s.length), I s.length, I i]) (.ext 0 [ints ((lateIds l s s.length).foldl putI [])]) (fun i hi => ?_) ?_ rfl rfl) ?_
    · have hi' : (i : Int) < (s.length : Int) := by omega
      have hk := h5 s[i] (List.getElem_mem hi)
      have hel : elemD 1 (ints s) (I (i : Int)) = some [I s[i]] := by simp [hi]
      have hel2 : elemD 1 (ints (lateO l s s.length)) (I (i : Int)) = some [I (lateF l s i)] := by simp [hi, lateO]
      have hw : IntKind.i64.wrap ((i : Int) + 1) = ((i + 1 : Nat) : Int) := by rw [wrap_id (by omega) (by omega)]; omega
      have e2 : s.getD i 0 = s[i] := by simp [hi]
      have hll := lateIds_len l s i
      have hfl := fold_len (lateIds l s i) []
      have hput := e_spec_l1Put ((lateIds l s i).foldl putI []) (oAt l s[i]).1 (by simp at hfl; omega)
      rw [lateIds_succ, e2]
      by_cases hc : 0 < lateF l s i
      · rw [if_pos hc, List.foldl_append]
        simp -implicitDefEqProofs only [sl_zero, sl_succ, bin_lss, bin_gtr, hi', hc, decide_true, Option.bind_some, ifD_B, if_true, hel, hel2, Option.map_some, ldD_ptr, takeD_f, chkV_v, ord_at hk, offD_ptr, List.drop_succ_cons, List.drop_zero, hput, callK_ret, bin_add, hw, List.foldl_cons, List.foldl_nil]
      · rw [if_neg hc]
        simp -implicitDefEqProofs only [sl_zero, sl_succ, bin_lss, bin_gtr, hi', hc, decide_true, decide_false, Option.bind_some, ifD_B, if_true, if_false, Bool.false_eq_true, hel, hel2, Option.map_some, ldD_ptr, takeD_f, chkV_v, bin_add, hw]
    · simp
    · simp
theorem e_impl_sorted (l : List Int) (h : l.length ≤ 1000) (hin : ∀ x ∈ l, inI x) : F_impl_sorted [ints l] = some (.ret [ints (srtI l)] []) := by
  rw [t_impl_sorted]
  have a1 : appD 1 8 (ints []) (ints l) = some (ints l) := app_ints (l := []) (by simp; omega)
  have m1 : mkArr 1 [] = some (ints []) := rfl
  have c1 : chkA (ints l) = some (ints l) := chkA_map fun _ => rfl
  have hf : fSortI [ints l] = some (.ret [] [ints (srtI l)]) := by simp [fSortI, intsOf_map l hin, show l.length ≤ 1048576 by omega]
  simp -implicitDefEqProofs only [m1, Option.bind_some, c1, a1]
  simp -implicitDefEqProofs [hf]
theorem e_impl_LateOrders (l : List Od) (s : List Int) (hl : l.length ≤ 1048576) (hs : s.length ≤ 1048576) (hin : ∀ x ∈ s, inI x) : F_impl_LateOrders [ods l, ints s] = some (.ret [ints (latR l s), B (askO l s)] []) := by
  rw [t_impl_LateOrders]
  cases ha : askO l s
  · simp -implicitDefEqProofs [e_impl_isSequence l s hl hs hin, ha, latR, mkArr_nil]
  · obtain ⟨h1, h2, h3, h4, h5⟩ := askO_facts ha
    have hlr : latR l s = srtI (lateIds l s s.length) := by simp [latR, ha]
    rw [hlr]
    have hlen := lateO_len l s s.length
    have m1 : mkArr 1 [] = some (ints []) := rfl
    simp only [e_impl_isSequence l s hl hs hin, ha, callK_ret, sl_zero, un_not, Bool.not_true, Option.bind_some, ifD_B, Bool.false_eq_true, if_false, e_impl_lateness l s h1 h5 (by omega), lenD_arr, List.length_map, hlen, m1]
    refine loop_bind _ (loop_for s.length (fun i => [ods l, ints s, ints (lateIds l s i), ints (lateO l s s.length), I s.length, I i]) (.ext 0 [ints (lateIds l s s.length)]) (fun i hi => ?_) ?_ rfl rfl) ?_
    · have hi' : (i : Int) < (s.length : Int) := by omega
      have hk := h5 s[i] (List.getElem_mem hi)
      have hel : elemD 1 (ints s) (I (i : Int)) = some [I s[i]] := by simp [hi]
      have hel2 : elemD 1 (ints (lateO l s s.length)) (I (i : Int)) = some [I (lateF l s i)] := by simp [hi, lateO]
      have hw : IntKind.i64.wrap ((i : Int) + 1) = ((i + 1 : Nat) : Int) := by rw [wrap_id (by omega) (by omega)]; omega
      have e2 : s.getD i 0 = s[i] := by simp [hi]
      have hll := lateIds_len l s i
      have hap := app_ints (l := lateIds l s i) (m := [(oAt l s[i]).1]) (by simp only [List.length_singleton]; omega)
      rw [lateIds_succ, e2]
      by_cases hc : 0 < lateF l s i
      · rw [if_pos hc]
        simp -implicitDefEqProofs only [sl_zero, sl_succ, bin_lss, bin_gtr, hi', hc, decide_true, Option.bind_some, ifD_B, if_true, hel, hel2, Option.map_some, ldD_ptr, takeD_f, chkV_v, ord_at hk, offD_ptr, List.drop_succ_cons, List.drop_zero, one_int, chk_int, hap, bin_add, hw]
      · rw [if_neg hc]
        simp -implicitDefEqProofs only [sl_zero, sl_succ, bin_lss, bin_gtr, hi', hc, decide_true, decide_false, Option.bind_some, ifD_B, if_true, if_false, Bool.false_eq_true, hel, hel2, Option.map_some, ldD_ptr, takeD_f, chkV_v, bin_add, hw]
    · simp
    · have hll := lateIds_len l s s.length
      have hso := e_impl_sorted (lateIds l s s.length) (by omega) (fun x hx => by
        obtain ⟨j, hj, rfl⟩ := List.mem_map.1 hx
        have hj' : j < s.length := List.mem_range.1 (List.mem_filter.1 hj).1
        have e2 : s.getD j 0 = s[j] := by simp [hj']
        rw [e2]
        have k1 := h5 s[j] (List.getElem_mem hj')
        have n1 : s[j].toNat < l.length := by omega
        have o1 : oAt l s[j] = l[s[j].toNat] := by simp [oAt, n1]
        rw [o1]
        have ho := h1 _ (List.getElem_mem n1)
        simp only [isOd, Bool.and_eq_true, decide_eq_true_eq] at ho
        unfold inI
        omega)
      simp -implicitDefEqProofs [hso]
theorem latR_len (l : List Od) (s : List Int) : (latR l s).length ≤ s.length := by
  unfold latR
  split
  · rw [srtI_length]
    exact lateIds_len l s s.length
  · exact Nat.zero_le _
theorem law_LateOrders (l : List Od) (s : List Int) (_h : l.length ≤ 9223372036854775807) (hin : ∀ x ∈ s, inI x) : F_laws_FnExactLateOrders [ods l, ints s] = some (.ret [B true] []) := by
  rw [t_laws_FnExactLateOrders]
  by_cases hs : 1048576 < (s.length : Int)
  · simp -implicitDefEqProofs [hs]
  obtain ⟨m, h1, h2⟩ := e_laws_szOrderS l 1048576
  by_cases hm : m < 0
  · simp -implicitDefEqProofs [hs, h1, hm]
  have h3 := h2 (by omega)
  rw [wrap_id (by omega) (by omega)] at h3
  have hl : l.length ≤ 1048576 := by omega
  have hs' : s.length ≤ 1048576 := by omega
  have hn := latR_len l s
  have k1 := e_laws_markOrderS l 1 (by omega) (by omega) (by omega)
  have k2 := e_laws_markIntS s (1 + 4 * (l.length : Int)) (by omega) (by omega) (by omega)
  have k3 := e_laws_markIntS (latR l s) 1 (by omega) (by omega) (by omega)
  have k4 := e_laws_heldIntS 1 (latR l s).length (by omega) (by omega) (by omega)
  have p1 : ¬ (1 + 4 * (l.length : Int) + (s.length : Int) < 0) := by omega
  have p2 : ¬ (1 + ((latR l s).length : Int) < 0) := by omega
  simp -implicitDefEqProofs [hs, h1, hm, e_laws_toOrderS l hl, e_laws_toIntS s hs', e_spec_LateOrders l s hl, e_impl_LateOrders l s hl hs' hin, e_laws_eqOrderS l (by omega), e_laws_eqIntS s (by omega), e_laws_eqIntS (latR l s) (by omega), k1, k2, k3, k4, p1, p2]
end Go.Proofs.Ytdgenchlghojlaa
