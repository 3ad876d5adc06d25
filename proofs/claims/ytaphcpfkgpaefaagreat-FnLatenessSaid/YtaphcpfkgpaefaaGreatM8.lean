/-
  The contract of sort.Ints: numbers sorted where they lie.
-/
import Derived.Test.YtaphcpfkgpaefaaGreatRows
import Derived.Test.YtaphcpfkgpaefaaGreatM7
import Derived.Shelf.Slices.In.SortNone2
import Derived.Laws.Bits64b
namespace Go.Proofs.YtaphcpfkgpaefaaGreat
open Go Go.Proofs Go.V Go.RowKit Go.Sort
set_option linter.unusedSimpArgs false

/-- Numbers sorted. -/
def srtI (l : List Int) : List Int := l.mergeSort fun x y => decide (x ≤ y)
theorem srtI_length (l : List Int) : (srtI l).length = l.length := List.length_mergeSort l
/-- A row stored anew. -/
theorem row_block {w : World} {g off n : Nat} {os : Array Obj} {dk : Array Int} {cur : Array Value} {t : Nat} (hg : w.heap[g]? = some (.cells cur t (0, 0))) (hs : off + dk.size ≤ cur.size) :
    ∃ cur', (grow (putRow (Value.int .i64) (Go.Sort.ahead w n) g off dk) os).heap[g]? = some (.cells cur' t (0, 0)) ∧ cur'.size = cur.size ∧ ∀ (i : Nat) (u : Value), (dk.toList.map (Value.int .i64))[i]? = some u → cur'[off + i]? = some u := by
  have hb : g < w.heap.size := (Array.getElem?_eq_some_iff.1 hg).1
  refine ⟨Go.Sort.putCells (Value.int .i64) off dk cur, ?_, by simp [Go.Sort.putCells], fun i u hu => ?_⟩
  · rw [heap_grow_old _ _ (by rw [size_putRow]; exact hb)]
    unfold putRow mapBlock
    show (w.heap.modify g _)[g]? = _
    rw [Array.getElem?_modify, if_pos rfl, hg]
    rfl
  · simp only [List.getElem?_map, Option.map_eq_some_iff] at hu
    obtain ⟨x, hx, rfl⟩ := hu
    rw [Array.getElem?_toList] at hx
    obtain ⟨hi, hx⟩ := Array.getElem?_eq_some_iff.1 hx
    have hic : off + i < cur.size := by omega
    unfold Go.Sort.putCells
    rw [Array.getElem?_mapIdx, Array.getElem?_eq_getElem hic]
    simp [hi, hx]
theorem row_other {w : World} {g off n : Nat} {os : Array Obj} {dk : Array Int} {k : Nat} (hk : k < w.heap.size) (hne : k ≠ g) : (grow (putRow (Value.int .i64) (Go.Sort.ahead w n) g off dk) os).heap[k]? = w.heap[k]? := by
  rw [heap_grow_old _ _ (by rw [size_putRow]; exact hk)]
  unfold putRow mapBlock
  show (w.heap.modify g _)[k]? = _
  rw [Array.getElem?_modify, if_neg (fun e => hne e.symm)]
def fSortI : List D → Option Out
  | [.arr z ds] => if z = 1 then (intsOf ds).bind fun l => if l.length ≤ 1048576 then some (.ret [] [ints (srtI l)]) else none else none
  | _ => none
@[reducible] def S_sort_Ints : FS := { pm := [.own 1 0 true], rm := [], f := fSortI }
set_option maxRecDepth 100000 in
theorem M_sort_Ints : Meets gl0 Tryz.prog 45 S_sort_Ints := by
  have he : ∀ args w, (callFunc 45 args).run Tryz.prog w = .ok (.enter 45 args) w := Go.Proofs.enters_of Tryz.func45 (by kernel_rfl) rfl
  refine meets_of_calls he fun ds rs us hd args w F ow hg ha hF hO => ?_
  obtain ⟨d, y, rfl, h2, h3⟩ := args_one ha
  replace hd : fSortI [d] = some (.ret rs us) := hd
  unfold fSortI at hd
  split at hd
  case h_2 => cases hd
  rename_i z ds e
  cases e
  split at hd
  case isFalse => cases hd
  rename_i hz1
  subst hz1
  obtain ⟨l, hl, hd'⟩ := Option.bind_eq_some_iff.1 hd
  clear hd
  split at hd'
  case isFalse => cases hd'
  rename_i hz
  cases hd'
  obtain ⟨rfl, hin⟩ := intsOf_some _ _ hl
  rcases h3 with h3 | h3
  · cases h3
  replace h3 : OwnV w (FB F 0 0) (fun g => ow g = some 0) 1 (.arr 1 (l.map fun n => I n)) y := h3
  obtain ⟨l', e, hw, h3⟩ := h3
  cases e
  rw [size1 h2]
  have hfl : ∀ x ∈ l.map (fun n => I n), x.width = 1 := fun x hx => by
    obtain ⟨s, _, rfl⟩ := List.mem_map.1 hx
    rfl
  have hfl2 : ∀ x ∈ (srtI l).map (fun n => I n), x.width = 1 := fun x hx => by
    obtain ⟨s, _, rfl⟩ := List.mem_map.1 hx
    rfl
  rcases h3 with ⟨rfl, hnil⟩ | ⟨g, o, c, us', cs, e, rfl, h4, h5, h6, h7, h8, h9⟩
  · have hl0 : l = [] := by simpa using hnil
    subst hl0
    refine (Any.sort_Ints_none Tryz.lays191 none 0 w).mono ?_
    rintro e w' ⟨rfl, rfl⟩
    refine ⟨_, rfl, F, fun _ => none, [], rfl, ⟨rfl, rfl, rfl, Nat.le_refl _, fun _ _ _ => rfl, fun _ h => h, fun b hb => ⟨.inl hb, (hF b hb).1, rfl⟩, fun b j h => (by cases h), rfl, rfl, fun j => .inl rfl, ?_⟩⟩
    exact ⟨by simp, .inr ⟨[], by simp [srtI], fun x hx => (by cases hx), .inl ⟨rfl, rfl⟩⟩, trivial⟩
  · have hgl : g < w.heap.size := (Array.getElem?_eq_some_iff.1 h5).1
    have hus := rep_ints l us' h7
    subst hus
    rw [List.length_map] at h4
    have hH : Holds (Value.int .i64) w g o l.toArray := fun j hj => by
      have hj' : j < l.length := by simpa using hj
      refine ⟨?_, Lib.frozen_of_heap h5 _⟩
      rw [Lib.cell_of_heap h5]
      refine (h8 j (.int .i64 l[j]) (by simp [hj'])).trans ?_
      simp [hj']
    have hc := Any.sort_Ints Tryz.lays191 g o c l w hH hgl (by omega)
    rw [List.length_map]
    refine Calls.mono hc ?_
    rintro e w' ⟨rfl, n, os, rfl⟩
    have hlen := srtI_length l
    obtain ⟨cur', c1, c2, c3⟩ := row_block (off := o) (n := n) (os := os) (dk := (srtI l).toArray) h5 (by simp; omega)
    refine ⟨_, rfl, F, fun _ => none, [], rfl, ⟨rfl, rfl, rfl, by rw [size_grow, size_putRow]; show w.heap.size ≤ w.heap.size + _; omega, fun b hb hob => row_other hb (fun e => by rw [e, h9] at hob; cases hob), fun _ h => h, fun b hb => ⟨.inl hb, ?_, rfl⟩, fun b j h => (by cases h), rfl, rfl, fun j => .inl rfl, ?_⟩⟩
    · have := (hF b hb).1
      rw [size_grow, size_putRow]
      show b < w.heap.size + _
      omega
    · refine ⟨by simp, .inr ⟨(srtI l).map (fun n => I n), rfl, hfl2, .inr ⟨g, o, c, (srtI l).map (Value.int .i64), cur', e, by rw [List.length_map, hlen], by rw [List.length_map, hlen]; exact h4, c1, by omega, RepL_ints _, fun i u hu => c3 i u (by simpa using hu), trivial⟩⟩, trivial⟩
end Go.Proofs.YtaphcpfkgpaefaaGreat
/-
  Contexts and contracts of functions, printed by gen.py.
-/
namespace Go.Proofs.YtaphcpfkgpaefaaGreat
open Go.V
set_option maxRecDepth 100000
/-- loop.example/g01054/impl.sorted -/
@[reducible] noncomputable def c_impl_sorted : Cx := { K := [.dat 2, .no, .own 1 0 false, .own 1 0 false, .own 1 0 false, .dat 2, .own 1 0 false, .via 3, .no, .own 1 0 false], T := [(3, ty3), (24, ty24)], S := [(45, S_sort_Ints)], H := [], res := [.tmp 2], ios := [], G := gl0 }
noncomputable def F_impl_sorted : List D → Option Out := denF c_impl_sorted Tryz.f22
@[reducible] noncomputable def S_impl_sorted : FS := { pm := [.dat 2], rm := [.own 1 0 false], f := F_impl_sorted }
theorem M_impl_sorted : Meets gl0 Tryz.prog 22 S_impl_sorted := meets_of (P := Tryz.prog) (c := c_impl_sorted) (fn := Tryz.f22) (pm := S_impl_sorted.pm) (rm := S_impl_sorted.rm) (by kernel_rfl) (lookCons M_sort_Ints lookNil) follows_mixed Tryz.func22 (by kernel_rfl) (by kernel_rfl) rfl
/-- loop.example/g01054/impl.LateOrders -/
@[reducible] noncomputable def c_impl_LateOrders : Cx := { K := [.dat 2, .dat 2, .no, .no, .own 1 0 false, .dat 0, .own 1 0 false, .dat 0, .dat 0, .dat 2, .dat 2, .dat 0, .dat 0, .own 1 0 false, .own 1 0 false, .dat 2, .dat 2, .dat 1, .dat 0, .dat 0, .dat 0, .dat 0, .dat 1, .dat 0, .dat 0, .dat 0, .own 1 0 false, .dat 2, .dat 2, .dat 0, .dat 2, .dat 0, .dat 2, .dat 2, .dat 0, .dat 1, .own 1 0 false, .dat 0, .via 6, .own 1 0 false], T := [(3, ty3), (23, ty23), (24, ty24), (34, ty34)], S := [(20, S_impl_isSequence), (21, S_impl_lateness), (22, S_impl_sorted)], H := [(0, ([0, 1, 6, 17, 18, 19], [6]))], res := [.tmp 4, .tmp 5], ios := [], G := gl0 }
noncomputable def F_impl_LateOrders : List D → Option Out := denF c_impl_LateOrders Tryz.f5
@[reducible] noncomputable def S_impl_LateOrders : FS := { pm := [.dat 2, .dat 2], rm := [.own 1 0 false, .dat 0], f := F_impl_LateOrders }
theorem M_impl_LateOrders : Meets gl0 Tryz.prog 5 S_impl_LateOrders := meets_of (P := Tryz.prog) (c := c_impl_LateOrders) (fn := Tryz.f5) (pm := S_impl_LateOrders.pm) (rm := S_impl_LateOrders.rm) (by kernel_rfl) (lookCons M_impl_isSequence (lookCons M_impl_lateness (lookCons M_impl_sorted lookNil))) follows_mixed Tryz.func5 (by kernel_rfl) (by kernel_rfl) rfl
/-- loop.example/g01054/impl.byDue -/
@[reducible] noncomputable def c_impl_byDue : Cx := { K := [.dat 2, .no, .own 1 0 false, .dat 2, .own 1 0 false], T := [(24, ty24)], S := [(51, S_impl_sequenceOf)], H := [], res := [.tmp 2], ios := [], G := gl0 }
noncomputable def F_impl_byDue : List D → Option Out := denF c_impl_byDue Tryz.f29
@[reducible] noncomputable def S_impl_byDue : FS := { pm := [.dat 2], rm := [.own 1 0 false], f := F_impl_byDue }
theorem M_impl_byDue : Meets gl0 Tryz.prog 29 S_impl_byDue := meets_of (P := Tryz.prog) (c := c_impl_byDue) (fn := Tryz.f29) (pm := S_impl_byDue.pm) (rm := S_impl_byDue.rm) (by kernel_rfl) (lookCons M_impl_sequenceOf lookNil) follows_mixed Tryz.func29 (by kernel_rfl) (by kernel_rfl) rfl
/-- loop.example/g01054/impl.SequenceByDue -/
@[reducible] noncomputable def c_impl_SequenceByDue : Cx := { K := [.dat 2, .no, .own 1 0 false, .dat 0, .dat 2, .dat 0, .dat 0, .own 1 0 false, .dat 2, .own 1 0 false], T := [(3, ty3), (24, ty24)], S := [(28, S_impl_AreOrders), (29, S_impl_byDue)], H := [], res := [.tmp 2, .tmp 3], ios := [], G := gl0 }
noncomputable def F_impl_SequenceByDue : List D → Option Out := denF c_impl_SequenceByDue Tryz.f9
@[reducible] noncomputable def S_impl_SequenceByDue : FS := { pm := [.dat 2], rm := [.own 1 0 false, .dat 0], f := F_impl_SequenceByDue }
theorem M_impl_SequenceByDue : Meets gl0 Tryz.prog 9 S_impl_SequenceByDue := meets_of (P := Tryz.prog) (c := c_impl_SequenceByDue) (fn := Tryz.f9) (pm := S_impl_SequenceByDue.pm) (rm := S_impl_SequenceByDue.rm) (by kernel_rfl) (lookCons M_impl_AreOrders (lookCons M_impl_byDue lookNil)) follows_mixed Tryz.func9 (by kernel_rfl) (by kernel_rfl) rfl
end Go.Proofs.YtaphcpfkgpaefaaGreat
/-
  What the functions compute: their evaluated texts, printed.
-/
namespace Go.Proofs.YtaphcpfkgpaefaaGreat
open Go Go.V
theorem t_impl_sorted (x0 : D) : F_impl_sorted [x0] =
  ((mkArr 1 []).bind fun a => (chkA x0).bind fun b => (appD 1 8 a b).bind fun y => (liveD y (D.ref 0 0)).bind fun z =>
 (ref0 z y).bind fun i => (liveD i i).bind fun i => callK (fSortI [i]) fun _u us => some (Out.ret [sl us 0] [])) := by kernel_rfl
theorem t_impl_LateOrders (x0 x1 : D) : F_impl_LateOrders [x0, x1] =
  (callK (F_impl_isSequence [x0, x1]) fun rs _u => (un UnOp.not (sl rs 0)).bind fun z => ifD z ((mkArr 1 []).bind fun a => some (Out.ret [a, D.v (Value.bool false)] [])) ((mkArr 1 []).bind fun a =>
 callK (F_impl_lateness [x0, x1]) fun rs _u => (lenD false (sl rs 0)).bind fun z => (loopC (fun s => (bin BinOp.lss false [] (sl s 5) (sl s 4)).bind fun z => ifD z
 ((Option.map D.ptr (elemD 1 (sl s 3) (sl s 5))).bind fun z => ((ldD false 1 z).bind chkV).bind fun z => (bin BinOp.gtr false [] z (D.v (Value.int IntKind.i64 0))).bind fun z => ifD z
 ((Option.map D.ptr (elemD 1 (sl s 1) (sl s 5))).bind fun z => ((ldD false 1 z).bind chkV).bind fun z => (Option.map D.ptr (elemD 4 (sl s 0) z)).bind fun z => (offD 0 z).bind fun z =>
 ((ldD false 1 z).bind chkV).bind fun z => (mkArr 1 [z]).bind fun a => (chkA a).bind fun b => (appD 1 8 (sl s 2) b).bind fun y => (bin BinOp.add false [] (sl s 5) (D.v (Value.int IntKind.i64 1))).bind
 fun z => some (Out.nrm [sl s 0, sl s 1, y, sl s 3, sl s 4, z])) ((bin BinOp.add false [] (sl s 5) (D.v (Value.int IntKind.i64 1))).bind fun z => some (Out.nrm [sl s 0, sl s 1, sl s 2, sl s 3, sl s 4, z])))
 (some (Out.ext 0 [sl s 2]))) [x0, x1, a, sl rs 0, z, D.v (Value.int IntKind.i64 0)]).bind fun o => outK o (fun i s => ifN (i.beq 0) ((liveD (sl s 0) (D.ref 0 0)).bind fun z => (liveD z (sl s 0)).bind fun i =>
 callK (F_impl_sorted [i]) fun rs _u => some (Out.ret [sl rs 0, D.v (Value.bool true)] [])) none) fun a b => some (Out.ret a b))) := by kernel_rfl
theorem t_impl_byDue (x0 : D) : F_impl_byDue [x0] =
  (callK (fSeq [x0, D.clo 52 []]) fun rs _u => some (Out.ret [sl rs 0] [])) := by kernel_rfl
theorem t_impl_SequenceByDue (x0 : D) : F_impl_SequenceByDue [x0] =
  (callK (F_impl_AreOrders [x0]) fun rs _u => (un UnOp.not (sl rs 0)).bind fun z => ifD z ((mkArr 1 []).bind fun a => some (Out.ret [a, D.v (Value.bool false)] []))
 (callK (F_impl_byDue [x0]) fun rs _u => some (Out.ret [sl rs 0, D.v (Value.bool true)] []))) := by kernel_rfl
end Go.Proofs.YtaphcpfkgpaefaaGreat
/-
  Orders by their keys: what the functions compute.
-/
namespace Go.Proofs.YtaphcpfkgpaefaaGreat
open Go Go.Proofs Go.V
set_option linter.unusedSimpArgs false

theorem e_impl_byDue (l : List Od) (h : l.length ≤ 8) : F_impl_byDue [ods l] = some (.ret [ints (nInts (srtK (l.map fun x => x.2.2.2) l.length))] []) := by
  rw [t_impl_byDue, ← seqL_key l dueLt (fun x => x.2.2.2) (fun _ _ _ _ => rfl)]
  simp -implicitDefEqProofs [fSeq, odsOf_map, h]
theorem e_spec_SequenceByDue (l : List Od) (hl : l.length ≤ 1048576) : F_spec_SequenceByDue [ods l] = some (.ret [ints (dueR l), B (goodO l)] []) := by
  rw [t_spec_SequenceByDue]
  unfold dueR
  cases ha : goodO l
  · simp -implicitDefEqProofs [e_spec_orGood l hl, ha]
  · simp -implicitDefEqProofs [e_spec_orGood l hl, ha, e_spec_orByDue l (goodO_len ha)]
theorem e_impl_SequenceByDue (l : List Od) (hl : l.length ≤ 1048576) : F_impl_SequenceByDue [ods l] = some (.ret [ints (dueR l), B (goodO l)] []) := by
  rw [t_impl_SequenceByDue]
  unfold dueR
  cases ha : goodO l
  · simp -implicitDefEqProofs [e_impl_AreOrders l hl, ha, mkArr_nil]
  · simp -implicitDefEqProofs [e_impl_AreOrders l hl, ha, e_impl_byDue l (goodO_len ha)]
theorem putAll_srt (ids : List Int) (h : ids.Nodup) : ids.foldl putI [] = srtI ids := by
  obtain ⟨h1, h2⟩ := putAll ids [] [] List.Pairwise.nil (List.Perm.refl _) (by simpa using h)
  refine List.Perm.eq_of_pairwise (le := (· ≤ ·)) (fun a b _ _ h1 h2 => by omega) h1 ?_ ((by simpa using h2 : (ids.foldl putI []).Perm ids).trans (List.mergeSort_perm _ _).symm)
  have := List.pairwise_mergeSort (le := fun x y : Int => decide (x ≤ y)) (fun a b c h1 h2 => by simp at *; omega) (fun a b => by simp; omega) ids
  exact this.imp (fun h => by simpa using h)
end Go.Proofs.YtaphcpfkgpaefaaGreat
/-
  Late orders: the law.
-/
namespace Go.Proofs.YtaphcpfkgpaefaaGreat
open Go Go.Proofs Go.V
set_option linter.unusedSimpArgs false

theorem allI_at {β : Type} (p : Nat → β → Bool) : ∀ (m : List β) (k : Nat), allI p k m = true → ∀ (i : Nat) (hi : i < m.length), p (k + i) m[i] = true
  | [], _, _, i, hi => by cases hi
  | x :: m, k, h, i, hi => by
    simp only [allI, Bool.and_eq_true] at h
    cases i with
    | zero => exact h.1
    | succ i =>
      have := allI_at p m (k + 1) h.2 i (by simpa using hi)
      rw [show k + (i + 1) = k + 1 + i by omega]
      exact this
theorem ids_inc {l : List Od} (h : goodO l = true) (i : Nat) : ∀ (j : Nat) (hj : j < l.length) (hi : i < l.length), i < j → l[i].1 < l[j].1
  | 0, _, _, hij => by omega
  | j + 1, hj, hi, hij => by
    simp only [goodO, Bool.and_eq_true] at h
    have hp := allI_at (pOd l) l 0 h.1 (j + 1) hj
    rw [Nat.zero_add] at hp
    have hjl : j < l.length := by omega
    have hstep : l[j].1 < l[j + 1].1 := by
      simp [pOd, hjl] at hp
      exact hp.2
    by_cases he : i = j
    · subst he
      exact hstep
    · exact Int.lt_trans (ids_inc (by simp only [goodO, Bool.and_eq_true]; exact h) i j hjl hi (by omega)) hstep
def lateIds (l : List Od) (s : List Int) (n : Nat) : List Int := ((List.range n).filter fun j => decide (0 < lateF l s j)).map fun j => (oAt l (s.getD j 0)).1
theorem lateIds_succ (l : List Od) (s : List Int) (n : Nat) : lateIds l s (n + 1) = if 0 < lateF l s n then lateIds l s n ++ [(oAt l (s.getD n 0)).1] else lateIds l s n := by
  unfold lateIds
  rw [List.range_succ, List.filter_append, List.map_append]
  by_cases h : 0 < lateF l s n <;> simp [h]
theorem lateIds_len (l : List Od) (s : List Int) : ∀ n, (lateIds l s n).length ≤ n
  | 0 => Nat.le_refl _
  | n + 1 => by
    have := lateIds_len l s n
    rw [lateIds_succ]
    split
    · simp only [List.length_append, List.length_singleton]
      omega
    · omega
theorem lateIds_nodup {l : List Od} {s : List Int} (h : goodO l = true) (hs : ∀ k ∈ s, 0 ≤ k ∧ k < l.length) (hd : s.Nodup) : (lateIds l s s.length).Nodup := by
  unfold lateIds
  refine List.pairwise_map.2 (List.Pairwise.filter _ ((List.pairwise_lt_range (n := s.length)).imp_of_mem fun {a b} ha hb hab => ?_))
  have ha' : a < s.length := List.mem_range.1 ha
  have hb' : b < s.length := List.mem_range.1 hb
  have e1 : s.getD a 0 = s[a] := by simp [ha']
  have e2 : s.getD b 0 = s[b] := by simp [hb']
  rw [e1, e2]
  have k1 := hs s[a] (List.getElem_mem ha')
  have k2 := hs s[b] (List.getElem_mem hb')
  have hne : s[a] ≠ s[b] := List.pairwise_iff_getElem.1 hd a b ha' hb' hab
  have n1 : s[a].toNat < l.length := by omega
  have n2 : s[b].toNat < l.length := by omega
  have o1 : oAt l s[a] = l[s[a].toNat] := by simp [oAt, n1]
  have o2 : oAt l s[b] = l[s[b].toNat] := by simp [oAt, n2]
  rw [o1, o2]
  by_cases hc : s[a].toNat < s[b].toNat
  · have := ids_inc h _ _ n2 n1 hc
    omega
  · have := ids_inc h _ _ n1 n2 (by omega)
    omega
theorem putI_len (n : Int) : ∀ l, (putI l n).length ≤ l.length + 1
  | [] => by simp [putI]
  | x :: l => by
    have := putI_len n l
    unfold putI
    split
    · simp only [List.length_cons]
      omega
    · split
      · simp
      · simp
theorem fold_len : ∀ (r o : List Int), (r.foldl putI o).length ≤ o.length + r.length
  | [], o => by simp
  | n :: r, o => by
    have h1 := fold_len r (putI o n)
    have h2 := putI_len n o
    simp only [List.foldl_cons, List.length_cons]
    omega
/-- The late orders' Ids. -/
def latR (l : List Od) (s : List Int) : List Int := if askO l s = true then srtI (lateIds l s s.length) else []
theorem e_spec_LateOrders (l : List Od) (s : List Int) (hl : l.length ≤ 1048576) : F_spec_LateOrders [ods l, ints s] = some (.ret [ints (latR l s), B (askO l s)] []) := by
  rw [t_spec_LateOrders]
  cases ha : askO l s
  · simp -implicitDefEqProofs [e_spec_orAsked l s hl, ha, latR]
  · obtain ⟨h1, h2, h3, h4, h5⟩ := askO_facts ha
    have hgo : goodO l = true := by simp only [askO, Bool.and_eq_true] at ha; exact ha.1.1
    have hlr : latR l s = (lateIds l s s.length).foldl putI [] := by rw [putAll_srt _ (lateIds_nodup hgo h5 (difG_facts s [] h4).2.1)]; simp [latR, ha]
    rw [hlr]
    have hlen := lateO_len l s s.length
    simp only [e_spec_orAsked l s hl, ha, callK_ret, sl_zero, un_not, Bool.not_true, Option.bind_some, ifD_B, Bool.false_eq_true, if_false, e_spec_orLate l s h1 h5 (by omega), lenD_arr, List.length_map, hlen]
    refine loop_bind _ (loop_for s.length (fun i => [ods l, ints s, ints ((lateIds l s i).foldl putI []), ints (lateO l s s.length), I s.length, I i]) (.ext 0 [ints ((lateIds l s s.length).foldl putI [])]) (fun i hi => ?_) ?_ rfl rfl) ?_
    · have hi' : (i : Int) < (s.length : Int) := by omega
      have hk := h5 s[i] (List.getElem_mem hi)
      have hel : elemD 1 (ints s) (I (i : Int)) = some [I s[i]] := by simp [hi]
      have hel2 : elemD 1 (ints (lateO l s s.length)) (I (i : Int)) = some [I (lateF l s i)] := by simp [hi, lateO]
      have hw : IntKind.i64.wrap ((i : Int) + 1) = ((i + 1 : Nat) : Int) := by rw [wrap_id (by omega) (by omega)]; omega
      have e2 : s.getD i 0 = s[i] := by simp [hi]
      have hll := lateIds_len l s i
      have hfl := fold_len (lateIds l s i) []
      have hput := e_spec_l1Put ((lateIds l s i).foldl putI []) (oAt l s[i]).1 (by simp at hfl; omega)
      rw [lateIds_succ, e2]
      by_cases hc : 0 < lateF l s i
      · rw [if_pos hc, List.foldl_append]
        simp -implicitDefEqProofs only [sl_zero, sl_succ, bin_lss, bin_gtr, hi', hc, decide_true, Option.bind_some, ifD_B, if_true, hel, hel2, Option.map_some, ldD_ptr, takeD_f, chkV_v, ord_at hk, offD_ptr, List.drop_succ_cons, List.drop_zero, hput, callK_ret, bin_add, hw, List.foldl_cons, List.foldl_nil]
      · rw [if_neg hc]
        simp -implicitDefEqProofs only [sl_zero, sl_succ, bin_lss, bin_gtr, hi', hc, decide_true, decide_false, Option.bind_some, ifD_B, if_true, if_false, Bool.false_eq_true, hel, hel2, Option.map_some, ldD_ptr, takeD_f, chkV_v, bin_add, hw]
    · simp
    · simp
theorem e_impl_sorted (l : List Int) (h : l.length ≤ 1000) (hin : ∀ x ∈ l, inI x) : F_impl_sorted [ints l] = some (.ret [ints (srtI l)] []) := by
  rw [t_impl_sorted]
  have a1 : appD 1 8 (ints []) (ints l) = some (ints l) := app_ints (l := []) (by simp; omega)
  have m1 : mkArr 1 [] = some (ints []) := rfl
  have c1 : chkA (ints l) = some (ints l) := chkA_map fun _ => rfl
  have hf : fSortI [ints l] = some (.ret [] [ints (srtI l)]) := by simp [fSortI, intsOf_map l hin, show l.length ≤ 1048576 by omega]
  simp -implicitDefEqProofs only [m1, Option.bind_some, c1, a1]
  simp -implicitDefEqProofs [hf]
theorem e_impl_LateOrders (l : List Od) (s : List Int) (hl : l.length ≤ 1048576) (hs : s.length ≤ 1048576) (hin : ∀ x ∈ s, inI x) : F_impl_LateOrders [ods l, ints s] = some (.ret [ints (latR l s), B (askO l s)] []) := by
  rw [t_impl_LateOrders]
  cases ha : askO l s
  · simp -implicitDefEqProofs [e_impl_isSequence l s hl hs hin, ha, latR, mkArr_nil]
  · obtain ⟨h1, h2, h3, h4, h5⟩ := askO_facts ha
    have hlr : latR l s = srtI (lateIds l s s.length) := by simp [latR, ha]
    rw [hlr]
    have hlen := lateO_len l s s.length
    have m1 : mkArr 1 [] = some (ints []) := rfl
    simp only [e_impl_isSequence l s hl hs hin, ha, callK_ret, sl_zero, un_not, Bool.not_true, Option.bind_some, ifD_B, Bool.false_eq_true, if_false, e_impl_lateness l s h1 h5 (by omega), lenD_arr, List.length_map, hlen, m1]
    refine loop_bind _ (loop_for s.length (fun i => [ods l, ints s, ints (lateIds l s i), ints (lateO l s s.length), I s.length, I i]) (.ext 0 [ints (lateIds l s s.length)]) (fun i hi => ?_) ?_ rfl rfl) ?_
    · have hi' : (i : Int) < (s.length : Int) := by omega
      have hk := h5 s[i] (List.getElem_mem hi)
      have hel : elemD 1 (ints s) (I (i : Int)) = some [I s[i]] := by simp [hi]
      have hel2 : elemD 1 (ints (lateO l s s.length)) (I (i : Int)) = some [I (lateF l s i)] := by simp [hi, lateO]
      have hw : IntKind.i64.wrap ((i : Int) + 1) = ((i + 1 : Nat) : Int) := by rw [wrap_id (by omega) (by omega)]; omega
      have e2 : s.getD i 0 = s[i] := by simp [hi]
      have hll := lateIds_len l s i
      have hap := app_ints (l := lateIds l s i) (m := [(oAt l s[i]).1]) (by simp only [List.length_singleton]; omega)
      rw [lateIds_succ, e2]
      by_cases hc : 0 < lateF l s i
      · rw [if_pos hc]
        simp -implicitDefEqProofs only [sl_zero, sl_succ, bin_lss, bin_gtr, hi', hc, decide_true, Option.bind_some, ifD_B, if_true, hel, hel2, Option.map_some, ldD_ptr, takeD_f, chkV_v, ord_at hk, offD_ptr, List.drop_succ_cons, List.drop_zero, one_int, chk_int, hap, bin_add, hw]
      · rw [if_neg hc]
        simp -implicitDefEqProofs only [sl_zero, sl_succ, bin_lss, bin_gtr, hi', hc, decide_true, decide_false, Option.bind_some, ifD_B, if_true, if_false, Bool.false_eq_true, hel, hel2, Option.map_some, ldD_ptr, takeD_f, chkV_v, bin_add, hw]
    · simp
    · have hll := lateIds_len l s s.length
      have hso := e_impl_sorted (lateIds l s s.length) (by omega) (fun x hx => by
        obtain ⟨j, hj, rfl⟩ := List.mem_map.1 hx
        have hj' : j < s.length := List.mem_range.1 (List.mem_filter.1 hj).1
        have e2 : s.getD j 0 = s[j] := by simp [hj']
        rw [e2]
        have k1 := h5 s[j] (List.getElem_mem hj')
        have n1 : s[j].toNat < l.length := by omega
        have o1 : oAt l s[j] = l[s[j].toNat] := by simp [oAt, n1]
        rw [o1]
        have ho := h1 _ (List.getElem_mem n1)
        simp only [isOd, Bool.and_eq_true, decide_eq_true_eq] at ho
        unfold inI
        omega)
      simp -implicitDefEqProofs [hso]
theorem latR_len (l : List Od) (s : List Int) : (latR l s).length ≤ s.length := by
  unfold latR
  split
  · rw [srtI_length]
    exact lateIds_len l s s.length
  · exact Nat.zero_le _
end Go.Proofs.YtaphcpfkgpaefaaGreat
/-
  Draws: what the cursor gives.
-/
namespace Go.Proofs.YtaphcpfkgpaefaaGreat
open Go Go.V
set_option linter.unusedSimpArgs false

structure Cur where
  code : List Int
  at_ : Nat
  seed : Int
abbrev bytesD (l : List Int) : D := .arr 1 (l.map U)
abbrev curD (c : Cur) : D := .agg [bytesD c.code, I c.at_, .v (.int .u64 c.seed)]
structure Cur.ok (c : Cur) (B : Nat) : Prop where
  by_ : ∀ n ∈ c.code, 0 ≤ n ∧ n ≤ 255
  len : c.code.length ≤ 9223372036854775807
  at_ : c.at_ ≤ B
  lo : 0 ≤ c.seed
  hi : c.seed < 18446744073709551616

theorem convD_i64 {k : IntKind} {n : Int} : convD (some .i64) false (.v (.int k n)) = some (I (IntKind.i64.wrap n)) := rfl
theorem convD_u64 {k : IntKind} {n : Int} : convD (some .u64) false (.v (.int k n)) = some (.v (.int .u64 (IntKind.u64.wrap n))) := rfl
theorem bin_shr40 {n : Int} {bl : Bool} {eq : List Nat} : bin .shr bl eq (.v (.int .u64 n)) (.v (.int .u64 40)) = some (.v (.int .u64 (n.fdiv 1099511627776))) := by
  simp [bin, IntKind.bits]
theorem bin_and {a b : Int} {bl : Bool} {eq : List Nat} : bin .and bl eq (.v (.int .u64 a)) (.v (.int .u64 b)) = some (.v (.int .u64 (bits .and .u64 a b))) := by simp [bin, intBin]
theorem and255 {n : Int} (h0 : 0 ≤ n) (h1 : n < 18446744073709551616) : 0 ≤ bits .and .u64 n 255 ∧ bits .and .u64 n 255 ≤ 255 := by
  obtain ⟨m, rfl⟩ := Int.eq_ofNat_of_zero_le h0
  have := bits_and_u64_nat m 255 (by omega) (by omega)
  rw [show ((255 : Int)) = ((255 : Nat) : Int) from rfl, this]
  have h2 : m &&& 255 ≤ 255 := Nat.and_le_right
  omega
theorem wrap64 (n : Int) : 0 ≤ IntKind.u64.wrap n ∧ IntKind.u64.wrap n < 18446744073709551616 := by
  rw [IntKind.wrap_u64]
  omega

def seedOf (s n : Int) : Int := IntKind.u64.wrap (IntKind.u64.wrap (IntKind.u64.wrap (s * 6364136223846793005) + IntKind.u64.wrap n) + 1442695040888963407)
def topOf (s : Int) : Int := bits .and .u64 (s.fdiv 1099511627776) 255
theorem seedOf_in (s n : Int) : 0 ≤ seedOf s n ∧ seedOf s n < 18446744073709551616 := wrap64 _
theorem topOf_in {s : Int} (h0 : 0 ≤ s) (h1 : s < 18446744073709551616) : 0 ≤ topOf s ∧ topOf s ≤ 255 := by
  unfold topOf
  rw [Int.fdiv_eq_ediv_of_nonneg _ (by omega)]
  exact and255 (by omega) (by omega)
theorem seed_run {s n : Int} : ((bin BinOp.mul false [] (.v (.int .u64 s)) (.v (.int .u64 6364136223846793005))).bind fun x => (bin BinOp.add false [] x (.v (.int .u64 (IntKind.u64.wrap n)))).bind fun y => bin BinOp.add false [] y (.v (.int .u64 1442695040888963407))) = some (.v (.int .u64 (seedOf s n))) := by
  simp only [bin_mul, bin_add, Option.bind_some, seedOf]
theorem next1 (c : Cur) (B : Nat) (h : c.ok B) (hB : B ≤ 1000000000000) (hc : c.at_ < c.code.length) : F_spec_l1Cur_next [curD c] = some (.ret [I c.code[c.at_]] [curD ⟨c.code, c.at_ + 1, seedOf c.seed c.code[c.at_]⟩]) := by
  have hl := h.len
  have ha := h.at_
  have hw : IntKind.i64.wrap ((c.at_ : Int) + 1) = (c.at_ : Int) + 1 := wrap_id (by omega) (by omega)
  have hn := h.by_ c.code[c.at_] (List.getElem_mem hc)
  have hv : IntKind.i64.wrap c.code[c.at_] = c.code[c.at_] := wrap_id (by omega) (by omega)
  have hle : (c.at_ : Int) + 1 ≤ (c.code.length : Int) := by omega
  rw [t_spec_l1Cur_next]
  simp -implicitDefEqProofs [hc, hw, hv, hle, convD_i64, convD_u64, seedOf]
theorem next2 (c : Cur) (B : Nat) (h : c.ok B) (hB : B ≤ 1000000000000) (hc : ¬ c.at_ < c.code.length) : F_spec_l1Cur_next [curD c] = some (.ret [I (topOf (seedOf c.seed 0))] [curD ⟨c.code, c.at_ + 1, seedOf c.seed 0⟩]) := by
  have hl := h.len
  have ha := h.at_
  have hw : IntKind.i64.wrap ((c.at_ : Int) + 1) = (c.at_ : Int) + 1 := wrap_id (by omega) (by omega)
  have hle : ¬ (c.at_ : Int) + 1 ≤ (c.code.length : Int) := by omega
  have hq := topOf_in (seedOf_in c.seed 0).1 (seedOf_in c.seed 0).2
  have hv : IntKind.i64.wrap (topOf (seedOf c.seed 0)) = topOf (seedOf c.seed 0) := wrap_id (by omega) (by omega)
  unfold topOf seedOf at hv
  rw [t_spec_l1Cur_next]
  simp -implicitDefEqProofs [hc, hw, hle, convD_i64, convD_u64, bin_shr40, bin_and, hv, seedOf, topOf]
theorem d_next (c : Cur) (B : Nat) (h : c.ok B) (hB : B ≤ 1000000000000) : ∃ v c', F_spec_l1Cur_next [curD c] = some (.ret [I v] [curD c']) ∧ 0 ≤ v ∧ v ≤ 255 ∧ c'.ok (B + 1) := by
  have ha := h.at_
  by_cases hc : c.at_ < c.code.length
  · have hn := h.by_ c.code[c.at_] (List.getElem_mem hc)
    exact ⟨_, _, next1 c B h hB hc, hn.1, hn.2, ⟨h.by_, h.len, Nat.succ_le_succ ha, (seedOf_in _ _).1, (seedOf_in _ _).2⟩⟩
  · have hq := topOf_in (seedOf_in c.seed 0).1 (seedOf_in c.seed 0).2
    exact ⟨_, _, next2 c B h hB hc, hq.1, hq.2, ⟨h.by_, h.len, Nat.succ_le_succ ha, (seedOf_in _ _).1, (seedOf_in _ _).2⟩⟩

theorem d_pick (c : Cur) (n : Int) (B : Nat) (h : c.ok B) (hB : B ≤ 100000000000) (hn : n ≤ 1000000000) : ∃ v c', F_spec_l1Cur_pick [curD c, I n] = some (.ret [I v] [curD c']) ∧ 0 ≤ v ∧ (v < n ∨ v = 0) ∧ c'.ok (B + 2) := by
  rw [t_spec_l1Cur_pick]
  by_cases h1 : n ≤ 1
  · exact ⟨0, c, by simp [h1], by omega, .inr rfl, ⟨h.by_, h.len, by have := h.at_; omega, h.lo, h.hi⟩⟩
  obtain ⟨v, c1, e1, l1, u1, k1⟩ := d_next c B h (by omega)
  have hn0 : ¬ n = 0 := by omega
  by_cases h2 : 200 < n
  · obtain ⟨v2, c2, e2, l2, u2, k2⟩ := d_next c1 (B + 1) k1 (by omega)
    have w1 : IntKind.i64.wrap (v * 256) = v * 256 := wrap_id (by omega) (by omega)
    have w2 : IntKind.i64.wrap (v * 256 + v2) = v * 256 + v2 := wrap_id (by omega) (by omega)
    refine ⟨(v * 256 + v2).tmod n, c2, by simp [h1, h2, e1, e2, w1, w2, hn0], Int.tmod_nonneg _ (by omega), .inl (Int.tmod_lt_of_pos _ (by omega)), k2⟩
  · refine ⟨v.tmod n, c1, by simp [h1, h2, e1, hn0], Int.tmod_nonneg _ l1, .inl (Int.tmod_lt_of_pos _ (by omega)), ⟨k1.by_, k1.len, by have := k1.at_; omega, k1.lo, k1.hi⟩⟩
theorem d_one (c : Cur) (n : Int) (B : Nat) (h : c.ok B) (hB : B ≤ 100000000000) (hn : n ≤ 1000000000) : ∃ (b : Bool) (c' : Cur), F_spec_l1Cur_one [curD c, I n] = some (.ret [.v (.bool b)] [curD c']) ∧ c'.ok (B + 2) := by
  rw [t_spec_l1Cur_one]
  obtain ⟨v, c1, e1, l1, u1, k1⟩ := d_pick c n B h hB hn
  exact ⟨_, c1, by simp [e1]; rfl, k1⟩
abbrev intsD (l : List Int) : D := .arr 1 (l.map I)
theorem d_among (c : Cur) (l : List Int) (B : Nat) (h : c.ok B) (hB : B ≤ 100000000000) (hl : l ≠ []) (hn : l.length ≤ 1000000000) : ∃ v c', F_spec_l1Cur_among [curD c, intsD l] = some (.ret [I v] [curD c']) ∧ v ∈ l ∧ c'.ok (B + 2) := by
  rw [t_spec_l1Cur_among]
  have hp : 0 < l.length := List.length_pos_iff.2 hl
  obtain ⟨v, c1, e1, l1, u1, k1⟩ := d_pick c l.length B h hB (by omega)
  obtain ⟨i, rfl⟩ := Int.eq_ofNat_of_zero_le l1
  have hi : i < l.length := by omega
  exact ⟨l[i], c1, by simp [e1, hi], List.getElem_mem hi, k1⟩

theorem Cur.ok.mono {c : Cur} {B C : Nat} (h : c.ok B) (hBC : B ≤ C) : c.ok C := ⟨h.by_, h.len, Nat.le_trans h.at_ hBC, h.lo, h.hi⟩
theorem mkInts {l : List Int} : mkArr 1 (l.map I) = some (intsD l) := by
  have : lenOkD 1 (l.map I).length (l.map I) = true := by
    unfold lenOkD
    simp
  simp only [mkArr, this, if_true]
theorem bldCur (l : List Int) : bldD [(0, 1)] [D.arr 1 [], I 0, D.v (.int .u64 0)] [bytesD l] = some (.agg [bytesD l, I 0, D.v (.int .u64 0)]) := by
  simp [bldD, fillD]
structure Bytes (l : List Int) : Prop where
  by_ : ∀ n ∈ l, 0 ≤ n ∧ n ≤ 255
  len : l.length ≤ 9223372036854775807
theorem cur0 {l : List Int} (h : Bytes l) : Cur.ok ⟨l, 0, 0⟩ 0 := ⟨h.by_, h.len, Nat.le_refl _, Int.le_refl 0, show (0 : Int) < 18446744073709551616 by decide⟩

abbrev curZ (l : List Int) : D := .agg [bytesD l, I 0, .v (.int .u64 0)]
theorem d_pick0 (l : List Int) (h : Bytes l) (n : Int) (hn : n ≤ 1000000000) : ∃ (v : Int) (c' : Cur), F_spec_l1Cur_pick [curZ l, I n] = some (.ret [I v] [curD c']) ∧ 0 ≤ v ∧ (v < n ∨ v = 0) ∧ c'.ok 2 := d_pick ⟨l, 0, 0⟩ n 0 (cur0 h) (by omega) hn
abbrev txs (l : List ByteArray) : D := .arr 1 (l.map T)
theorem mkTxs {l : List ByteArray} : mkArr 1 (l.map T) = some (txs l) := by
  have : lenOkD 1 (l.map T).length (l.map T) = true := by
    unfold lenOkD
    simp
  simp only [mkArr, this, if_true]
theorem str_byte (b : UInt8) : strD (.arr 1 [U (b.toNat : Int)]) = some (T ⟨#[b]⟩) := by
  have : bytesOf [U (b.toNat : Int)] = some [b] := by simp [bytesOf]
  simp only [strD, this, Option.map_some]
theorem mkU (n : Int) : mkArr 1 [U n] = some (.arr 1 [U n]) := by simp [mkArr, lenOkD]
theorem add_small {a b : ByteArray} (h : a.size + b.size ≤ 100000000) : bin .add false [] (T a) (T b) = some (T (a ++ b)) := by
  rw [bin_addS, if_pos (by omega)]
theorem size_ext (s : ByteArray) (i j : Nat) : (s.extract i j).size = min j s.size - i := by rw [ByteArray.size_extract]
end Go.Proofs.YtaphcpfkgpaefaaGreat
/-
  The draws of the orders' law.
-/
namespace Go.Proofs.YtaphcpfkgpaefaaGreat
open Go Go.V
set_option linter.unusedSimpArgs false

theorem chkA_ints (l : List Int) : chkA (ints l) = some (ints l) := chkA_map fun _ => rfl
theorem joinC_P {f : (List D → Option Out) → Option Out} {k : List D → Option Out} (P : Option Out → Prop) (p : List D → Prop) (hk : ∀ s, p s → P (k s)) (hf : ∀ j : List D → Option Out, (∀ s, p s → P (j s)) → P (f j)) : P (joinC f k) := hf k hk
theorem bld_od (a b c d : Int) : bldD [(0, 1), (1, 1), (2, 1), (3, 1)] [D.v (Value.int IntKind.i64 0), D.v (Value.int IntKind.i64 0), D.v (Value.int IntKind.i64 0), D.v (Value.int IntKind.i64 0)] [I a, I b, I c, I d] = some (od (a, b, c, d)) := rfl
theorem mk_od (x : Od) : mkArr 4 [od x] = some (ods [x]) := by simp [mkArr, lenOkD]
theorem chk_ods (l : List Od) : chkA (ods l) = some (ods l) := chkA_map fun _ => rfl
theorem app_ods {l m : List Od} (h : l.length + m.length ≤ 1000) : appD 4 32 (ods l) (ods m) = some (ods (l ++ m)) := by
  simp [appD]
  omega
theorem ref_od {l : List Od} {k : Int} (h0 : 0 ≤ k) (h : k < l.length) : refI 4 (ods l) (I k) = some (.ref k.toNat 0) := by
  simp [refI, h0, h]
theorem refAdd_eq (off i f : Nat) : refAdd off (.ref i f) = some (.ref i (f + off)) := rfl
def putF (x : Od) (f : Nat) (v : Int) : Od := match f with
  | 0 => (v, x.2.1, x.2.2.1, x.2.2.2)
  | 1 => (x.1, v, x.2.2.1, x.2.2.2)
  | 2 => (x.1, x.2.1, v, x.2.2.2)
  | _ => (x.1, x.2.1, x.2.2.1, v)
theorem st_od {l : List Od} {k : Nat} (f : Nat) (v : Int) (hf : f < 4) (h : k < l.length) : stD 1 (ods l) (.ref k (0 + f)) (I v) = some (ods (l.set k (putF l[k] f v))) := by
  have hs := stD_part (z := 4) (L := l.map od) (i := k) (f := f) (v := .int .i64 v) (c := [I (l[k]).1, I (l[k]).2.1, I (l[k]).2.2.1, I (l[k]).2.2.2]) (by simp [h]) (by simpa using hf)
  have e : ods (l.set k (putF l[k] f v)) = .arr 4 ((l.map od).set k (od (putF l[k] f v))) := by rw [← List.map_set]
  rw [Nat.zero_add, hs, e]
  match f, hf with
  | 0, _ => rfl
  | 1, _ => rfl
  | 2, _ => rfl
  | 3, _ => rfl
set_option maxHeartbeats 2000000 in
theorem d_orders (c : Cur) (B : Nat) (h : c.ok B) (hB : B ≤ 1000000000) : ∃ (l : List Od) (c' : Cur), F_spec_l1Cur_orders [curD c] = some (.ret [ods l] [curD c']) ∧ l.length ≤ 9 ∧ c'.ok (B + 100) := by
  obtain ⟨v1, c1, e1, l1, u1, k1⟩ := d_pick c 6 B h (by omega) (by omega)
  rw [t_spec_l1Cur_orders]
  simp -implicitDefEqProofs only [sl_zero, sl_succ, liveD_agg, liveD_ref, liveD_arr, ref0_eq, Option.bind_some, Option.map_some, callK_ret, gate_t, gate_f, gate_s, gateC_t, gateC_f, gateC_s, nrmK_some, pickD_B, ifD_B, ifN_B, if_true, if_false, Bool.false_eq_true, un_not, Bool.not_true, Bool.not_false, decide_true, decide_false, and_self, outK_ext, Nat.beq_refl, bin_lss, bin_gtr, bin_leq, bin_geq, bin_eql, bin_neq, bin_add, bin_sub, bin_mul, lenD_arr, lenD_str, List.length_map, ldD_ptr, takeD_f, chkV_v, offD_ptr, List.drop_zero, List.drop_succ_cons, atD_agg, mkArr_nil, Int.reduceLT, Int.reduceLE, Int.reduceEq, e1]
  refine joinC_P (fun X => ∃ (l : List Od) (c' : Cur), X = some (.ret [ods l] [curD c']) ∧ l.length ≤ 9 ∧ c'.ok (B + 100)) (fun s => ∃ (cz : Cur) (n : Int), s = [curD cz, ods [], I 0, I n] ∧ 0 ≤ n ∧ n ≤ 9 ∧ cz.ok (B + 6)) ?_ ?_
  case refine_2 =>
    intro j hj
    obtain ⟨b, c2, e2, k2⟩ := d_one c1 12 _ k1 (by omega) (by omega)
    cases b
    · simp -implicitDefEqProofs only [sl_zero, sl_succ, liveD_agg, liveD_ref, liveD_arr, ref0_eq, Option.bind_some, Option.map_some, callK_ret, gate_t, gate_f, gate_s, gateC_t, gateC_f, gateC_s, nrmK_some, pickD_B, ifD_B, ifN_B, if_true, if_false, Bool.false_eq_true, un_not, Bool.not_true, Bool.not_false, decide_true, decide_false, and_self, outK_ext, Nat.beq_refl, bin_lss, bin_gtr, bin_leq, bin_geq, bin_eql, bin_neq, bin_add, bin_sub, bin_mul, lenD_arr, lenD_str, List.length_map, ldD_ptr, takeD_f, chkV_v, offD_ptr, List.drop_zero, List.drop_succ_cons, atD_agg, mkArr_nil, Int.reduceLT, Int.reduceLE, Int.reduceEq, e2]
      exact hj _ ⟨c2, v1, rfl, by omega, by omega, k2.mono (by omega)⟩
    · obtain ⟨v3, c3, e3, l3, u3, k3⟩ := d_pick c2 2 _ k2 (by omega) (by omega)
      have hw : IntKind.i64.wrap (8 + v3) = 8 + v3 := wrap_id (by omega) (by omega)
      simp -implicitDefEqProofs only [sl_zero, sl_succ, liveD_agg, liveD_ref, liveD_arr, ref0_eq, Option.bind_some, Option.map_some, callK_ret, gate_t, gate_f, gate_s, gateC_t, gateC_f, gateC_s, nrmK_some, pickD_B, ifD_B, ifN_B, if_true, if_false, Bool.false_eq_true, un_not, Bool.not_true, Bool.not_false, decide_true, decide_false, and_self, outK_ext, Nat.beq_refl, bin_lss, bin_gtr, bin_leq, bin_geq, bin_eql, bin_neq, bin_add, bin_sub, bin_mul, lenD_arr, lenD_str, List.length_map, ldD_ptr, takeD_f, chkV_v, offD_ptr, List.drop_zero, List.drop_succ_cons, atD_agg, mkArr_nil, Int.reduceLT, Int.reduceLE, Int.reduceEq, e2, e3, hw]
      exact hj _ ⟨c3, 8 + v3, rfl, by omega, by omega, k3.mono (by omega)⟩
  rintro _ ⟨cz, n, rfl, hn0, hn9, hk⟩
  simp -implicitDefEqProofs only [sl_zero, sl_succ, liveD_agg, liveD_ref, liveD_arr, ref0_eq, Option.bind_some, Option.map_some, callK_ret, gate_t, gate_f, gate_s, gateC_t, gateC_f, gateC_s, nrmK_some, pickD_B, ifD_B, ifN_B, if_true, if_false, Bool.false_eq_true, un_not, Bool.not_true, Bool.not_false, decide_true, decide_false, and_self, outK_ext, Nat.beq_refl, bin_lss, bin_gtr, bin_leq, bin_geq, bin_eql, bin_neq, bin_add, bin_sub, bin_mul, lenD_arr, lenD_str, List.length_map, ldD_ptr, takeD_f, chkV_v, offD_ptr, List.drop_zero, List.drop_succ_cons, atD_agg, mkArr_nil, Int.reduceLT, Int.reduceLE, Int.reduceEq]
  refine loop_wf_bind (fun X => ∃ (l : List Od) (c' : Cur), X = some (.ret [ods l] [curD c']) ∧ l.length ≤ 9 ∧ c'.ok (B + 100)) (fun a : Cur × List Od × Int => [curD a.1, ods a.2.1, I a.2.2, I n]) (fun a => a.1.ok (B + 6 + 8 * a.2.1.length) ∧ (a.2.1.length : Int) ≤ n)
    (fun a => 9 - a.2.1.length) (fun o => ∃ (ca : Cur) (la : List Od), o = .ext 0 [curD ca, ods la, I n] ∧ ca.ok (B + 6 + 8 * 9) ∧ (la.length : Int) = n) (fun a hI => ?_) ⟨hk.mono (by simp), by simpa using hn0⟩ (a := (cz, [], 0)) rfl (fun o ho => ?_)
  · obtain ⟨ca, la, da⟩ := a
    obtain ⟨hI1, hI2⟩ := hI
    simp only at hI1 hI2
    by_cases hlt : (la.length : Int) < n
    · obtain ⟨w1, ca1, x1, -, -, y1⟩ := d_pick ca 4 _ hI1 (by omega) (by omega)
      obtain ⟨w2, ca2, x2, -, -, y2⟩ := d_pick ca1 10 _ y1 (by omega) (by omega)
      obtain ⟨w3, ca3, x3, -, -, y3⟩ := d_pick ca2 10 _ y2 (by omega) (by omega)
      obtain ⟨w4, ca4, x4, -, -, y4⟩ := d_pick ca3 24 _ y3 (by omega) (by omega)
      refine .inl ⟨(ca4, la ++ [(IntKind.i64.wrap (da + IntKind.i64.wrap (1 + w1)), IntKind.i64.wrap (5 * w2), IntKind.i64.wrap (5 * w3), IntKind.i64.wrap (10 * w4))], IntKind.i64.wrap (da + IntKind.i64.wrap (1 + w1))), ?_, ⟨y4.mono (by simp; omega), by simp; omega⟩, by simp; omega⟩
      have ha := app_ods (l := la) (m := [(IntKind.i64.wrap (da + IntKind.i64.wrap (1 + w1)), IntKind.i64.wrap (5 * w2), IntKind.i64.wrap (5 * w3), IntKind.i64.wrap (10 * w4))]) (by simp only [List.length_singleton]; omega)
      simp -implicitDefEqProofs only [sl_zero, sl_succ, liveD_agg, liveD_ref, liveD_arr, ref0_eq, Option.bind_some, Option.map_some, callK_ret, gate_t, gate_f, gate_s, gateC_t, gateC_f, gateC_s, nrmK_some, pickD_B, ifD_B, ifN_B, if_true, if_false, Bool.false_eq_true, un_not, Bool.not_true, Bool.not_false, decide_true, decide_false, and_self, outK_ext, Nat.beq_refl, bin_lss, bin_gtr, bin_leq, bin_geq, bin_eql, bin_neq, bin_add, bin_sub, bin_mul, lenD_arr, lenD_str, List.length_map, ldD_ptr, takeD_f, chkV_v, offD_ptr, List.drop_zero, List.drop_succ_cons, atD_agg, mkArr_nil, Int.reduceLT, Int.reduceLE, Int.reduceEq, hlt, x1, x2, x3, x4, bld_od, mk_od, chk_ods, ha]
    · refine .inr ⟨.ext 0 [curD ca, ods la, I n], ?_, rfl, ca, la, rfl, hI1.mono (by omega), by omega⟩
      simp -implicitDefEqProofs only [sl_zero, sl_succ, liveD_agg, liveD_ref, liveD_arr, ref0_eq, Option.bind_some, Option.map_some, callK_ret, gate_t, gate_f, gate_s, gateC_t, gateC_f, gateC_s, nrmK_some, pickD_B, ifD_B, ifN_B, if_true, if_false, Bool.false_eq_true, un_not, Bool.not_true, Bool.not_false, decide_true, decide_false, and_self, outK_ext, Nat.beq_refl, bin_lss, bin_gtr, bin_leq, bin_geq, bin_eql, bin_neq, bin_add, bin_sub, bin_mul, lenD_arr, lenD_str, List.length_map, ldD_ptr, takeD_f, chkV_v, offD_ptr, List.drop_zero, List.drop_succ_cons, atD_agg, mkArr_nil, Int.reduceLT, Int.reduceLE, Int.reduceEq, hlt]
  · obtain ⟨cb, lb, rfl, g1, g2⟩ := ho
    by_cases hgt : 0 < n
    · obtain ⟨k, cb1, z1, z2, z3, z4⟩ := d_pick cb n _ g1 (by omega) (by omega)
      obtain ⟨q, cb2, y1, -, -, y4⟩ := d_pick cb1 24 _ z4 (by omega) (by omega)
      have hkl : k.toNat < lb.length := by omega
      have hr := ref_od (l := lb) z2 (by omega)
      have m1 : mkArr 1 [I 0, I 1, I 99, I 100] = some (intsD [0, 1, 99, 100]) := rfl
      have m2 : mkArr 1 [I 500, I 501, I (-1)] = some (intsD [500, 501, -1]) := rfl
      have m3 : mkArr 1 [I 0, I 10000, I 10001, I (-1)] = some (intsD [0, 10000, 10001, -1]) := rfl
      by_cases q0 : q = 0
      · obtain ⟨v, cb3, p1, -, p3⟩ := d_among cb2 [0, 1, 99, 100] _ y4 (by omega) (by simp) (by simp)
        refine ⟨lb.set k.toNat (putF lb[k.toNat] 0 v), cb3, ?_, by rw [List.length_set]; omega, p3.mono (by omega)⟩
        simp -implicitDefEqProofs only [sl_zero, sl_succ, liveD_agg, liveD_ref, liveD_arr, ref0_eq, Option.bind_some, Option.map_some, callK_ret, gate_t, gate_f, gate_s, gateC_t, gateC_f, gateC_s, nrmK_some, pickD_B, ifD_B, ifN_B, if_true, if_false, Bool.false_eq_true, un_not, Bool.not_true, Bool.not_false, decide_true, decide_false, and_self, outK_ext, Nat.beq_refl, bin_lss, bin_gtr, bin_leq, bin_geq, bin_eql, bin_neq, bin_add, bin_sub, bin_mul, lenD_arr, lenD_str, List.length_map, ldD_ptr, takeD_f, chkV_v, offD_ptr, List.drop_zero, List.drop_succ_cons, atD_agg, mkArr_nil, Int.reduceLT, Int.reduceLE, Int.reduceEq, hgt, z1, y1, q0, m1, p1, hr, refAdd_eq, st_od 0 v (by omega) hkl]
      by_cases q1 : q = 1
      · obtain ⟨v, cb3, p1, -, p3⟩ := d_among cb2 [500, 501, -1] _ y4 (by omega) (by simp) (by simp)
        refine ⟨lb.set k.toNat (putF lb[k.toNat] 1 v), cb3, ?_, by rw [List.length_set]; omega, p3.mono (by omega)⟩
        simp -implicitDefEqProofs only [sl_zero, sl_succ, liveD_agg, liveD_ref, liveD_arr, ref0_eq, Option.bind_some, Option.map_some, callK_ret, gate_t, gate_f, gate_s, gateC_t, gateC_f, gateC_s, nrmK_some, pickD_B, ifD_B, ifN_B, if_true, if_false, Bool.false_eq_true, un_not, Bool.not_true, Bool.not_false, decide_true, decide_false, and_self, outK_ext, Nat.beq_refl, bin_lss, bin_gtr, bin_leq, bin_geq, bin_eql, bin_neq, bin_add, bin_sub, bin_mul, lenD_arr, lenD_str, List.length_map, ldD_ptr, takeD_f, chkV_v, offD_ptr, List.drop_zero, List.drop_succ_cons, atD_agg, mkArr_nil, Int.reduceLT, Int.reduceLE, Int.reduceEq, hgt, z1, y1, q0, q1, m2, p1, hr, refAdd_eq, st_od 1 v (by omega) hkl]
      by_cases q2 : q = 2
      · obtain ⟨v, cb3, p1, -, p3⟩ := d_among cb2 [500, 501, -1] _ y4 (by omega) (by simp) (by simp)
        refine ⟨lb.set k.toNat (putF lb[k.toNat] 2 v), cb3, ?_, by rw [List.length_set]; omega, p3.mono (by omega)⟩
        simp -implicitDefEqProofs only [sl_zero, sl_succ, liveD_agg, liveD_ref, liveD_arr, ref0_eq, Option.bind_some, Option.map_some, callK_ret, gate_t, gate_f, gate_s, gateC_t, gateC_f, gateC_s, nrmK_some, pickD_B, ifD_B, ifN_B, if_true, if_false, Bool.false_eq_true, un_not, Bool.not_true, Bool.not_false, decide_true, decide_false, and_self, outK_ext, Nat.beq_refl, bin_lss, bin_gtr, bin_leq, bin_geq, bin_eql, bin_neq, bin_add, bin_sub, bin_mul, lenD_arr, lenD_str, List.length_map, ldD_ptr, takeD_f, chkV_v, offD_ptr, List.drop_zero, List.drop_succ_cons, atD_agg, mkArr_nil, Int.reduceLT, Int.reduceLE, Int.reduceEq, hgt, z1, y1, q0, q1, q2, m2, p1, hr, refAdd_eq, st_od 2 v (by omega) hkl]
      by_cases q3 : q = 3
      · obtain ⟨v, cb3, p1, -, p3⟩ := d_among cb2 [0, 10000, 10001, -1] _ y4 (by omega) (by simp) (by simp)
        refine ⟨lb.set k.toNat (putF lb[k.toNat] 3 v), cb3, ?_, by rw [List.length_set]; omega, p3.mono (by omega)⟩
        simp -implicitDefEqProofs only [sl_zero, sl_succ, liveD_agg, liveD_ref, liveD_arr, ref0_eq, Option.bind_some, Option.map_some, callK_ret, gate_t, gate_f, gate_s, gateC_t, gateC_f, gateC_s, nrmK_some, pickD_B, ifD_B, ifN_B, if_true, if_false, Bool.false_eq_true, un_not, Bool.not_true, Bool.not_false, decide_true, decide_false, and_self, outK_ext, Nat.beq_refl, bin_lss, bin_gtr, bin_leq, bin_geq, bin_eql, bin_neq, bin_add, bin_sub, bin_mul, lenD_arr, lenD_str, List.length_map, ldD_ptr, takeD_f, chkV_v, offD_ptr, List.drop_zero, List.drop_succ_cons, atD_agg, mkArr_nil, Int.reduceLT, Int.reduceLE, Int.reduceEq, hgt, z1, y1, q0, q1, q2, q3, m3, p1, hr, refAdd_eq, st_od 3 v (by omega) hkl]
      · refine ⟨lb, cb2, ?_, by omega, y4.mono (by omega)⟩
        simp -implicitDefEqProofs only [sl_zero, sl_succ, liveD_agg, liveD_ref, liveD_arr, ref0_eq, Option.bind_some, Option.map_some, callK_ret, gate_t, gate_f, gate_s, gateC_t, gateC_f, gateC_s, nrmK_some, pickD_B, ifD_B, ifN_B, if_true, if_false, Bool.false_eq_true, un_not, Bool.not_true, Bool.not_false, decide_true, decide_false, and_self, outK_ext, Nat.beq_refl, bin_lss, bin_gtr, bin_leq, bin_geq, bin_eql, bin_neq, bin_add, bin_sub, bin_mul, lenD_arr, lenD_str, List.length_map, ldD_ptr, takeD_f, chkV_v, offD_ptr, List.drop_zero, List.drop_succ_cons, atD_agg, mkArr_nil, Int.reduceLT, Int.reduceLE, Int.reduceEq, hgt, z1, y1, q0, q1, q2, q3]
    · refine ⟨lb, cb, ?_, by omega, g1.mono (by omega)⟩
      simp -implicitDefEqProofs only [sl_zero, sl_succ, liveD_agg, liveD_ref, liveD_arr, ref0_eq, Option.bind_some, Option.map_some, callK_ret, gate_t, gate_f, gate_s, gateC_t, gateC_f, gateC_s, nrmK_some, pickD_B, ifD_B, ifN_B, if_true, if_false, Bool.false_eq_true, un_not, Bool.not_true, Bool.not_false, decide_true, decide_false, and_self, outK_ext, Nat.beq_refl, bin_lss, bin_gtr, bin_leq, bin_geq, bin_eql, bin_neq, bin_add, bin_sub, bin_mul, lenD_arr, lenD_str, List.length_map, ldD_ptr, takeD_f, chkV_v, offD_ptr, List.drop_zero, List.drop_succ_cons, atD_agg, mkArr_nil, Int.reduceLT, Int.reduceLE, Int.reduceEq, hgt]

theorem slice_ints {l : List Int} {v : Int} (h0 : 0 ≤ v) (h : v ≤ l.length) : sliceD false 1 (ints l) (I 0) (I v) = some (ints (l.take v.toNat)) := by
  have := sliceD_nat (z := 1) (i := 0) (j := v.toNat) (l := l.map I) (k := .i64) (k' := .i64) (Nat.zero_le _) (by simp; omega)
  rw [show ((v.toNat : Nat) : Int) = v by omega] at this
  rw [List.drop_zero, ← List.map_take] at this
  exact this
theorem sliceHi_ints {l : List Int} {v : Int} (h0 : 0 ≤ v) (h : v ≤ l.length) : sliceHi false 1 (ints l) (I v) = some (ints (l.drop v.toNat)) := by
  have := sliceHi_nat (z := 1) (i := v.toNat) (l := l.map I) (k := .i64) (by simp; omega)
  rw [show ((v.toNat : Nat) : Int) = v by omega] at this
  rw [← List.map_drop] at this
  exact this
set_option maxHeartbeats 2000000 in
theorem d_sequence (c : Cur) (n : Nat) (B : Nat) (h : c.ok B) (hB : B ≤ 1000000000) (hn : n ≤ 9) : ∃ (s : List Int) (c' : Cur), F_spec_l1Cur_sequence [curD c, I n] = some (.ret [ints s] [curD c']) ∧ s.length ≤ 20 ∧ (∀ x ∈ s, inI x) ∧ c'.ok (B + 100) := by
  rw [t_spec_l1Cur_sequence]
  refine loop_wf_bind (fun X => ∃ (s : List Int) (c' : Cur), X = some (.ret [ints s] [curD c']) ∧ s.length ≤ 20 ∧ (∀ x ∈ s, inI x) ∧ c'.ok (B + 100)) (fun a : Cur × List Int => [curD a.1, I n, ints a.2, I (a.2.length : Int)]) (fun a => a.1.ok (B + 2 * a.2.length) ∧ a.2.length ≤ n ∧ ∀ x ∈ a.2, inI x)
    (fun a => n - a.2.length) (fun o => ∃ (ca : Cur) (la : List Int), o = .ext 0 [curD ca, I n, ints la] ∧ ca.ok (B + 2 * n) ∧ la.length = n ∧ ∀ x ∈ la, inI x) (fun a hI => ?_) ⟨h.mono (by simp), by simp, by simp⟩ (a := (c, [])) rfl (fun o ho => ?_)
  · obtain ⟨ca, la⟩ := a
    obtain ⟨hI1, hI2, hI3⟩ := hI
    simp only at hI1 hI2 hI3
    by_cases hlt : (la.length : Int) < n
    · have hw : IntKind.i64.wrap ((la.length : Int) + 1) = (la.length : Int) + 1 := wrap_id (by omega) (by omega)
      obtain ⟨v, ca1, x1, x2, x3, y1⟩ := d_pick ca ((la.length : Int) + 1) _ hI1 (by omega) (by omega)
      have s1 := slice_ints (l := la) x2 (by omega)
      have s2 := sliceHi_ints (l := la) x2 (by omega)
      have a1 := app_ints (l := []) (m := la.take v.toNat) (by simp; omega)
      have a2 := app_ints (l := la.take v.toNat) (m := [(la.length : Int)]) (by simp; omega)
      have a3 := app_ints (l := la.take v.toNat ++ [(la.length : Int)]) (m := la.drop v.toNat) (by simp; omega)
      have hlen : (la.take v.toNat ++ [(la.length : Int)] ++ la.drop v.toNat).length = la.length + 1 := by simp; omega
      refine .inl ⟨(ca1, la.take v.toNat ++ [(la.length : Int)] ++ la.drop v.toNat), ?_, ⟨by rw [hlen]; exact y1.mono (by omega), by rw [hlen]; omega, fun x hx => ?_⟩, by simp only [hlen]; omega⟩
      · rw [List.nil_append, show ints [] = D.arr 1 [] from rfl] at a1
        simp -implicitDefEqProofs only [sl_zero, sl_succ, liveD_agg, liveD_ref, liveD_arr, ref0_eq, Option.bind_some, Option.map_some, callK_ret, gate_t, gate_f, gate_s, gateC_t, gateC_f, gateC_s, nrmK_some, pickD_B, ifD_B, ifN_B, if_true, if_false, Bool.false_eq_true, un_not, Bool.not_true, Bool.not_false, decide_true, decide_false, and_self, outK_ext, Nat.beq_refl, bin_lss, bin_gtr, bin_leq, bin_geq, bin_eql, bin_neq, bin_add, bin_sub, bin_mul, lenD_arr, lenD_str, List.length_map, ldD_ptr, takeD_f, chkV_v, offD_ptr, List.drop_zero, List.drop_succ_cons, atD_agg, mkArr_nil, Int.reduceLT, Int.reduceLE, Int.reduceEq, hlt, hw, x1, s1, chkA_ints, a1, one_int, a2, s2, a3, hlen, Int.natCast_add, Int.natCast_one]
      · simp only [List.mem_append, List.mem_singleton] at hx
        rcases hx with (hx | rfl) | hx
        · exact hI3 x (List.mem_of_mem_take hx)
        · exact ⟨by omega, by omega⟩
        · exact hI3 x (List.mem_of_mem_drop hx)
    · refine .inr ⟨.ext 0 [curD ca, I n, ints la], ?_, rfl, ca, la, rfl, hI1.mono (by omega), by omega, hI3⟩
      simp -implicitDefEqProofs only [sl_zero, sl_succ, liveD_agg, liveD_ref, liveD_arr, ref0_eq, Option.bind_some, Option.map_some, callK_ret, gate_t, gate_f, gate_s, gateC_t, gateC_f, gateC_s, nrmK_some, pickD_B, ifD_B, ifN_B, if_true, if_false, Bool.false_eq_true, un_not, Bool.not_true, Bool.not_false, decide_true, decide_false, and_self, outK_ext, Nat.beq_refl, bin_lss, bin_gtr, bin_leq, bin_geq, bin_eql, bin_neq, bin_add, bin_sub, bin_mul, lenD_arr, lenD_str, List.length_map, ldD_ptr, takeD_f, chkV_v, offD_ptr, List.drop_zero, List.drop_succ_cons, atD_agg, mkArr_nil, Int.reduceLT, Int.reduceLE, Int.reduceEq, hlt]
  · obtain ⟨cb, lb, rfl, g1, g2, g3⟩ := ho
    obtain ⟨q, cb2, y1, -, -, y4⟩ := d_pick cb 24 _ g1 (by omega) (by omega)
    by_cases q0 : q = 0
    · refine ⟨lb ++ [0], cb2, ?_, by simp; omega, fun x hx => ?_, y4.mono (by omega)⟩
      · have a1 := app_ints (l := lb) (m := [0]) (by simp; omega)
        simp -implicitDefEqProofs only [sl_zero, sl_succ, liveD_agg, liveD_ref, liveD_arr, ref0_eq, Option.bind_some, Option.map_some, callK_ret, gate_t, gate_f, gate_s, gateC_t, gateC_f, gateC_s, nrmK_some, pickD_B, ifD_B, ifN_B, if_true, if_false, Bool.false_eq_true, un_not, Bool.not_true, Bool.not_false, decide_true, decide_false, and_self, outK_ext, Nat.beq_refl, bin_lss, bin_gtr, bin_leq, bin_geq, bin_eql, bin_neq, bin_add, bin_sub, bin_mul, lenD_arr, lenD_str, List.length_map, ldD_ptr, takeD_f, chkV_v, offD_ptr, List.drop_zero, List.drop_succ_cons, atD_agg, mkArr_nil, Int.reduceLT, Int.reduceLE, Int.reduceEq, y1, q0, one_int, chkA_ints, a1]
      · simp only [List.mem_append, List.mem_singleton] at hx
        rcases hx with hx | rfl
        · exact g3 x hx
        · exact ⟨by omega, by omega⟩
    by_cases q1 : q = 1
    · by_cases hp : (0 : Int) < n
      · have m1 : mkArr 1 [I 0, I (n : Int), I (-1)] = some (intsD [0, (n : Int), -1]) := rfl
        obtain ⟨v, cb3, p1, p2, p3⟩ := d_among cb2 [0, (n : Int), -1] _ y4 (by omega) (by simp) (by simp)
        have hr : refI 1 (ints lb) (I 0) = some (.ref 0 0) := by
          have : 0 < lb.length := by omega
          simp [refI, this]
        have hs : stD 1 (ints lb) (.ref 0 0) (I v) = some (ints (lb.set 0 v)) := by
          have := stD_arr1 (z := 1) (L := lb.map I) (i := 0) (v := .int .i64 v) (w := .int .i64 (lb[0]'(by omega))) (by simp [show 0 < lb.length by omega])
          rw [this, ← List.map_set]
        refine ⟨lb.set 0 v, cb3, ?_, by rw [List.length_set]; omega, fun x hx => ?_, p3.mono (by omega)⟩
        · simp -implicitDefEqProofs only [sl_zero, sl_succ, liveD_agg, liveD_ref, liveD_arr, ref0_eq, Option.bind_some, Option.map_some, callK_ret, gate_t, gate_f, gate_s, gateC_t, gateC_f, gateC_s, nrmK_some, pickD_B, ifD_B, ifN_B, if_true, if_false, Bool.false_eq_true, un_not, Bool.not_true, Bool.not_false, decide_true, decide_false, and_self, outK_ext, Nat.beq_refl, bin_lss, bin_gtr, bin_leq, bin_geq, bin_eql, bin_neq, bin_add, bin_sub, bin_mul, lenD_arr, lenD_str, List.length_map, ldD_ptr, takeD_f, chkV_v, offD_ptr, List.drop_zero, List.drop_succ_cons, atD_agg, mkArr_nil, Int.reduceLT, Int.reduceLE, Int.reduceEq, y1, q0, q1, hp, m1, p1, hr, hs]
        · rcases List.mem_or_eq_of_mem_set hx with hx | rfl
          · exact g3 x hx
          · simp only [List.mem_cons, List.not_mem_nil, or_false] at p2
            rcases p2 with rfl | rfl | rfl <;> exact ⟨by omega, by omega⟩
      · refine ⟨lb, cb2, ?_, by omega, g3, y4.mono (by omega)⟩
        simp -implicitDefEqProofs only [sl_zero, sl_succ, liveD_agg, liveD_ref, liveD_arr, ref0_eq, Option.bind_some, Option.map_some, callK_ret, gate_t, gate_f, gate_s, gateC_t, gateC_f, gateC_s, nrmK_some, pickD_B, ifD_B, ifN_B, if_true, if_false, Bool.false_eq_true, un_not, Bool.not_true, Bool.not_false, decide_true, decide_false, and_self, outK_ext, Nat.beq_refl, bin_lss, bin_gtr, bin_leq, bin_geq, bin_eql, bin_neq, bin_add, bin_sub, bin_mul, lenD_arr, lenD_str, List.length_map, ldD_ptr, takeD_f, chkV_v, offD_ptr, List.drop_zero, List.drop_succ_cons, atD_agg, mkArr_nil, Int.reduceLT, Int.reduceLE, Int.reduceEq, y1, q0, q1, hp]
    · refine ⟨lb, cb2, ?_, by omega, g3, y4.mono (by omega)⟩
      simp -implicitDefEqProofs only [sl_zero, sl_succ, liveD_agg, liveD_ref, liveD_arr, ref0_eq, Option.bind_some, Option.map_some, callK_ret, gate_t, gate_f, gate_s, gateC_t, gateC_f, gateC_s, nrmK_some, pickD_B, ifD_B, ifN_B, if_true, if_false, Bool.false_eq_true, un_not, Bool.not_true, Bool.not_false, decide_true, decide_false, and_self, outK_ext, Nat.beq_refl, bin_lss, bin_gtr, bin_leq, bin_geq, bin_eql, bin_neq, bin_add, bin_sub, bin_mul, lenD_arr, lenD_str, List.length_map, ldD_ptr, takeD_f, chkV_v, offD_ptr, List.drop_zero, List.drop_succ_cons, atD_agg, mkArr_nil, Int.reduceLT, Int.reduceLE, Int.reduceEq, y1, q0, q1]
end Go.Proofs.YtaphcpfkgpaefaaGreat
/-
  Orders: sequences as rearrangements, times that do not fall, the fastest sequence.
-/
namespace Go.Proofs.YtaphcpfkgpaefaaGreat
open Go Go.V
set_option linter.unusedSimpArgs false

theorem ins_perm (lt : Nat → Nat → Bool) (x : Nat) (A : List Nat) : (insS lt x A).Perm (x :: A) := by
  unfold insS
  have := List.perm_middle (a := x) (l₁ := A.take (posG lt x A A.length)) (l₂ := A.drop (posG lt x A A.length))
  rwa [List.take_append_drop] at this
theorem pos_facts (lt : Nat → Nat → Bool) (x : Nat) (A : List Nat) : ∀ k, (∀ j, posG lt x A k ≤ j → j < k → lt x (A.getD j 0) = true) ∧ (∀ m, posG lt x A k = m + 1 → lt x (A.getD m 0) = false)
  | 0 => ⟨fun j _ h => absurd h (by omega), fun m h => by simp [posG] at h⟩
  | k + 1 => by
    obtain ⟨h1, h2⟩ := pos_facts lt x A k
    unfold posG
    by_cases h : lt x (A.getD k 0) = true
    · rw [if_pos h]
      refine ⟨fun j hj hk => ?_, h2⟩
      by_cases e : j = k
      · rw [e]; exact h
      · exact h1 j hj (by omega)
    · rw [if_neg h]
      refine ⟨fun j hj hk => absurd hj (by omega), fun m hm => ?_⟩
      have : m = k := by omega
      rw [this]
      simpa using h
theorem ins_sorted (ks : List Int) (x : Nat) (A : List Nat) (h : A.Pairwise fun a b => ks.getD a 0 ≤ ks.getD b 0) : (insS (ltK ks) x A).Pairwise fun a b => ks.getD a 0 ≤ ks.getD b 0 := by
  obtain ⟨h1, h2⟩ := pos_facts (ltK ks) x A A.length
  have hle := posG_le (ltK ks) x A A.length
  unfold insS
  generalize posG (ltK ks) x A A.length = p at *
  have hA := List.pairwise_iff_getElem.1 h
  have hlo : ∀ a ∈ A.take p, ks.getD a 0 ≤ ks.getD x 0 := fun a ha => by
    obtain ⟨i, hi, rfl⟩ := List.mem_iff_getElem.1 ha
    rw [List.length_take] at hi
    cases p with
    | zero => omega
    | succ m =>
      have h3 := h2 m rfl
      simp only [ltK, decide_eq_false_iff_not] at h3
      rw [List.getElem_take]
      have h4 : A.getD m 0 = A[m]'(by omega) := by simp [show m < A.length by omega]
      rw [h4] at h3
      by_cases e : i = m
      · subst e; omega
      · have := hA i m (by omega) (by omega) (by omega)
        omega
  have hhi : ∀ a ∈ A.drop p, ks.getD x 0 ≤ ks.getD a 0 := fun a ha => by
    obtain ⟨i, hi, rfl⟩ := List.mem_iff_getElem.1 ha
    rw [List.length_drop] at hi
    rw [List.getElem_drop]
    have h3 := h1 (p + i) (by omega) (by omega)
    simp only [ltK, decide_eq_true_eq] at h3
    have h4 : A.getD (p + i) 0 = A[p + i]'(by omega) := by simp [show p + i < A.length by omega]
    rw [h4] at h3
    omega
  rw [List.pairwise_append, List.pairwise_cons]
  refine ⟨h.sublist (List.take_sublist _ _), ⟨hhi, h.sublist (List.drop_sublist _ _)⟩, fun a ha b hb => ?_⟩
  rcases List.mem_cons.1 hb with rfl | hb
  · exact hlo a ha
  · exact Int.le_trans (hlo a ha) (hhi b hb)
theorem srtK_sorted (ks : List Int) : ∀ n, (srtK ks n).Pairwise fun a b => ks.getD a 0 ≤ ks.getD b 0
  | 0 => List.Pairwise.nil
  | n + 1 => by
    rw [srtK_succ]
    exact ins_sorted ks n _ (srtK_sorted ks n)

/-- A sequence of all places, each once. -/
theorem dif_perm {n : Nat} {s : List Int} (h : difG n s [] = true) (hl : s.length = n) : (s.map Int.toNat).Perm (List.range n) := by
  obtain ⟨h1, h2, _⟩ := difG_facts s [] h
  have hm : ∀ k ∈ s.map Int.toNat, k < n := by
    intro k hk
    obtain ⟨x, hx, rfl⟩ := List.mem_map.1 hk
    have := h1 x hx
    omega
  have hd : (s.map Int.toNat).Nodup := by
    unfold List.Nodup at h2 ⊢
    rw [List.pairwise_map]
    refine h2.imp_of_mem fun {a b} ha hb hne => ?_
    have := h1 a ha
    have := h1 b hb
    omega
  have e1 := sumTo_mem (f := fun _ => 1) _ hm hd
  rw [sumL_one, List.length_map, hl] at e1
  have all := sumTo_full n (fun k _ => by split <;> omega) e1
  rw [List.perm_ext_iff_of_nodup hd List.nodup_range]
  intro k
  rw [List.mem_range]
  refine ⟨hm k, fun hk => ?_⟩
  have := all k hk
  by_cases hmm : k ∈ s.map Int.toNat
  · exact hmm
  · rw [if_neg hmm] at this; omega
theorem dif_of {n : Nat} : ∀ (s seen : List Int), (∀ x ∈ s, 0 ≤ x ∧ x < n) → s.Nodup → (∀ x ∈ s, x ∉ seen) → difG n s seen = true
  | [], _, _, _, _ => rfl
  | x :: s, seen, h1, h2, h3 => by
    rw [List.nodup_cons] at h2
    have hx := h1 x (by simp)
    simp only [difG, Bool.and_eq_true, decide_eq_true_eq, Bool.not_eq_true', decide_eq_false_iff_not]
    refine ⟨⟨⟨hx.1, by omega⟩, h3 x (by simp)⟩, dif_of s (x :: seen) (fun y hy => h1 y (by simp [hy])) h2.2 fun y hy hm => ?_⟩
    rcases List.mem_cons.1 hm with rfl | hm
    · exact h2.1 hy
    · exact h3 y (by simp [hy]) hm
/-! ### times -/
theorem times_get (l : List Od) : ∀ (s : List Int) (a : Int × Int × Int) (i : Nat) (h : i < (timesO l a s).length), (timesO l a s)[i] = ((s.take (i + 1)).foldl (runO l) a).2.1
  | [], _, _, h => absurd h (by simp [timesO])
  | k :: s, a, 0, _ => by simp [timesO]
  | k :: s, a, i + 1, h => by
    simp only [timesO, List.getElem_cons_succ, List.take_succ_cons, List.foldl_cons]
    exact times_get l s _ i _
theorem times_up {l : List Od} (hg : ∀ x ∈ l, isOd x = true) {s : List Int} (hs : ∀ k ∈ s, 0 ≤ k ∧ k < l.length) (i : Nat) (h : i + 1 < (timesO l (0, 0, 0) s).length) :
    (timesO l (0, 0, 0) s)[i] ≤ (timesO l (0, 0, 0) s)[i + 1] := by
  rw [times_get, times_get]
  have h' := h
  rw [timesO_len] at h'
  rw [way_take h']
  have hk := hs s[i + 1] (List.getElem_mem h')
  have hlt : s[i + 1].toNat < l.length := by omega
  have ho : isOd (oAt l s[i + 1]) = true := by
    have e : oAt l s[i + 1] = l[s[i + 1].toNat] := by simp [oAt, hlt]
    rw [e]
    exact hg _ (List.getElem_mem hlt)
  simp only [isOd, Bool.and_eq_true, decide_eq_true_eq] at ho
  generalize (s.take (i + 1)).foldl (runO l) (0, 0, 0) = a
  obtain ⟨c, p, w⟩ := a
  simp only [runO]
  omega
theorem times_last (l : List Od) (s : List Int) (h : s.length - 1 < (timesO l (0, 0, 0) s).length) (h0 : 0 < s.length) : (timesO l (0, 0, 0) s)[s.length - 1] = (s.foldl (runO l) (0, 0, 0)).2.1 := by
  rw [times_get, show s.length - 1 + 1 = s.length by omega, List.take_length]

/-! ### Johnson's rule -/
end Go.Proofs.YtaphcpfkgpaefaaGreat
/-
  The orders' law: draws of its arguments.
-/
namespace Go.Proofs.YtaphcpfkgpaefaaGreat
open Go Go.V
set_option linter.unusedSimpArgs false

theorem curZ_eq (l : List Int) : curZ l = curD ⟨l, 0, 0⟩ := rfl
theorem box_cur (l : List Int) : boxD 3 (.agg [bytesD l, I 0, D.v (.int .u64 0)]) = some (curZ l) := by simp
theorem e_laws_qInts (l : List Int) (h : l.length ≤ 1048576) : F_laws_qInts [ints l, ints l] = some (.ret [B true] []) := by
  rw [t_laws_qInts]
  simp only [lenD_arr, List.length_map, Option.bind_some, bin_neq, decide_true, Bool.not_true, ifD_B, Bool.false_eq_true, if_false]
  refine loop_bind (.ext 0 []) (loop_for l.length (fun i => [ints l, ints l, I l.length, I i]) _ (fun i hi => ?_) ?_ rfl rfl) ?_
  · have hw : IntKind.i64.wrap ((i : Int) + 1) = (i : Int) + 1 := wrap_id (by omega) (by omega)
    simp -implicitDefEqProofs [hi, hw]
  · simp
  · simp
theorem d_DrawFinishTimes (l : List Int) (h : Bytes l) : ∃ (o : List Od) (s : List Int), F_spec_DrawFinishTimes [bytesD l] = some (.ret [ods o, ints s] []) ∧ o.length ≤ 9 ∧ s.length ≤ 20 ∧ ∀ x ∈ s, inI x := by
  obtain ⟨o, c1, e1, g1, k1⟩ := d_orders ⟨l, 0, 0⟩ 0 (cur0 h) (by omega)
  rw [← curZ_eq] at e1
  obtain ⟨s, c2, e2, g2, g3, k2⟩ := d_sequence c1 o.length _ k1 (by omega) g1
  rw [t_spec_DrawFinishTimes]
  exact ⟨o, s, by simp -implicitDefEqProofs only [sl_zero, sl_succ, liveD_agg, liveD_ref, liveD_arr, ref0_eq, Option.bind_some, Option.map_some, callK_ret, gate_t, gate_f, gate_s, gateC_t, gateC_f, gateC_s, nrmK_some, pickD_B, ifD_B, ifN_B, if_true, if_false, Bool.false_eq_true, un_not, Bool.not_true, Bool.not_false, decide_true, decide_false, and_self, outK_ext, Nat.beq_refl, bin_lss, bin_gtr, bin_leq, bin_geq, bin_eql, bin_neq, bin_add, bin_sub, bin_mul, lenD_arr, lenD_str, List.length_map, ldD_ptr, takeD_f, chkV_v, offD_ptr, List.drop_zero, List.drop_succ_cons, atD_agg, mkArr_nil, Int.reduceLT, Int.reduceLE, Int.reduceEq, bldCur, box_cur, e1, e2], g1, g2, g3⟩
theorem st_box (x : Od) : stD 4 (.agg [I 0, I 0, I 0, I 0]) (.ref 0 0) (od x) = some (od x) := rfl
theorem fld_box (x : Od) : fldD true 4 0 (od x) = some (od x) := rfl
theorem bld_one (a : Int) : bldD [(0, 1)] [D.v (Value.int IntKind.i64 0), D.v (Value.int IntKind.i64 0), D.v (Value.int IntKind.i64 0), D.v (Value.int IntKind.i64 0)] [I a] = some (od (a, 0, 0, 0)) := rfl
theorem tk_od (x : Od) : (takeD true 4 [I x.1, I x.2.1, I x.2.2.1, I x.2.2.2]).bind chkV = some (od x) := rfl
end Go.Proofs.YtaphcpfkgpaefaaGreat
/-
  Lateness, plainly: late ones and their sum, all in time, the found sequence is one.
-/
namespace Go.Proofs.YtaphcpfkgpaefaaGreat
open Go Go.V
set_option linter.unusedSimpArgs false
set_option linter.unusedVariables false

theorem lateF_nn (l : List Od) (s : List Int) (i : Nat) : 0 ≤ lateF l s i := Int.le_max_left _ _
theorem late_nn (l : List Od) (s : List Int) (n : Nat) : ∀ x ∈ lateO l s n, 0 ≤ x := fun x hx => by
  obtain ⟨i, _, rfl⟩ := List.mem_map.1 hx
  exact lateF_nn l s i
theorem fold_nn : ∀ (L : List Int) (a : Int), 0 ≤ a → (∀ x ∈ L, 0 ≤ x) → 0 ≤ L.foldl (· + ·) a
  | [], a, h, _ => h
  | x :: L, a, h, hx => fold_nn L (a + x) (by have := hx x List.mem_cons_self; omega) fun y hy => hx y (List.mem_cons_of_mem _ hy)
theorem ids_none (l : List Od) (s : List Int) (n : Nat) : (lateIds l s n).length = 0 ↔ ∀ x ∈ lateO l s n, x = 0 := by
  unfold lateIds lateO
  rw [List.length_map, List.length_eq_zero_iff, List.filter_eq_nil_iff]
  constructor
  · intro h x hx
    obtain ⟨i, hi, rfl⟩ := List.mem_map.1 hx
    have h1 := h i hi
    simp only [decide_eq_true_eq] at h1
    have := lateF_nn l s i
    omega
  · intro h i hi
    have := h _ (List.mem_map.2 ⟨i, hi, rfl⟩)
    simp only [decide_eq_true_eq]
    omega
theorem lat_none {l : List Od} {s : List Int} (hA : askO l s = true) : (latR l s).length = 0 ↔ ∀ x ∈ lateO l s s.length, x = 0 := by
  rw [← ids_none]
  unfold latR
  rw [if_pos hA, srtI_length]
theorem lat_tot {l : List Od} {s : List Int} (hA : askO l s = true) : 0 < totR l s ↔ 0 < (latR l s).length := by
  have h1 := sum_zero (lateO l s s.length) 0 (Int.le_refl _) (late_nn l s s.length)
  have h2 := fold_nn (lateO l s s.length) 0 (Int.le_refl _) (late_nn l s s.length)
  have h3 := lat_none hA
  have e : totR l s = (lateO l s s.length).foldl (· + ·) 0 := by simp [totR, hA]
  rw [e]
  constructor
  · intro h
    rcases Nat.eq_zero_or_pos (latR l s).length with h4 | h4
    · have := h1.2 ⟨rfl, h3.1 h4⟩
      omega
    · exact h4
  · intro h
    have : ¬ (lateO l s s.length).foldl (· + ·) 0 = 0 := fun e => by
      have := h3.2 (h1.1 e).2
      omega
    omega
theorem cost_none {l : List Od} {s : List Int} (h : ∀ x ∈ lateO l s s.length, x = 0) : costO l s = 0 :=
  (max_zero _ 0 (Int.le_refl _) (late_nn l s s.length)).2 ⟨rfl, h⟩
theorem none_cost {l : List Od} {s : List Int} (h : costO l s = 0) : ∀ x ∈ lateO l s s.length, x = 0 :=
  ((max_zero _ 0 (Int.le_refl _) (late_nn l s s.length)).1 h).2
theorem dueR_eq {l : List Od} (hg : goodO l = true) : dueR l = dueL l := by simp [dueR, dueL, hg]
theorem due_ask {l : List Od} (h : goodO l = true) : askO l (dueL l) = true := by
  unfold askO
  rw [h]
  simp only [Bool.true_and, Bool.and_eq_true, decide_eq_true_eq]
  exact ⟨dueL_len l, dif_of _ [] (dueL_in l) (dueL_nodup l) (fun _ _ hm => by cases hm)⟩
theorem mst_bst {l : List Od} (hg : goodO l = true) : Bst (vM l) l.length (mstR l) := by
  have h8 := (goodO_all hg).2
  have := bst_mostS (vM l) (n := l.length) (by omega) (vM_nil l)
  have e : mstR l = mostS (vM l) l.length (2 ^ l.length) := by simp [mstR, hg]
  rwa [e]
theorem own_all (n : Nat) : ownI n (2 ^ n - 1) = nInts (List.range n) := by
  rw [ownI_eq]
  refine List.filter_eq_self.2 fun k hk => ?_
  obtain ⟨j, hj, rfl⟩ := List.mem_map.1 hk
  have := List.mem_range.1 hj
  simp [bitI, Nat.testBit_two_pow_sub_one, this]
/-- Where all are in time by their due times, all are told. -/
theorem most_all {l : List Od} (hg : goodO l = true) (h : (latR l (dueL l)).length = 0) : l.length ≤ (mstR l).length := by
  have h8 := (goodO_all hg).2
  have hc := cost_none ((lat_none (due_ask hg)).1 h)
  have hseq : seqM l (nInts (List.range l.length)) = dueL l := by
    unfold seqM
    refine List.filter_eq_self.2 fun k hk => ?_
    obtain ⟨h0, h1⟩ := dueL_in l k hk
    exact decide_eq_true (List.mem_map.2 ⟨k.toNat, List.mem_range.2 (by omega), by omega⟩)
  have hin : nInts (List.range l.length) ∈ subsI l.length := by
    rw [← own_all]
    exact (tab_parts (show l.length < 9 by omega)).2.2 _ (by have := Nat.two_pow_pos l.length; omega)
  have hv : vM l (nInts (List.range l.length)) = true := by
    unfold vM
    rw [hseq]
    exact decide_eq_true hc
  have := (mst_bst hg).2.2 _ hin hv
  rw [List.length_map, List.length_range] at this
  omega
theorem due_up {l : List Od} (i : Nat) (h : i + 1 < (dueL l).length) : (oAt l ((dueL l)[i]'(by omega))).2.2.2 ≤ (oAt l (dueL l)[i + 1]).2.2.2 := by
  have hs := srtK_sorted (l.map fun x => x.2.2.2) l.length
  have hl := srtK_length (l.map fun x => x.2.2.2) l.length
  rw [dueL_len] at h
  have := List.pairwise_iff_getElem.1 hs i (i + 1) (by omega) (by omega) (by omega)
  have hlt := srtK_lt (l.map fun x => x.2.2.2) l.length
  have k1 := hlt _ (List.getElem_mem (show i < (srtK (l.map fun x => x.2.2.2) l.length).length by omega))
  have k2 := hlt _ (List.getElem_mem (show i + 1 < (srtK (l.map fun x => x.2.2.2) l.length).length by omega))
  simp only [dueL, List.getElem_map]
  generalize (srtK (l.map fun x => x.2.2.2) l.length)[i] = a at *
  generalize (srtK (l.map fun x => x.2.2.2) l.length)[i + 1] = b at *
  simpa [oAt, List.getD_eq_getElem?_getD, k1, k2] using this

/-! ### the found sequence -/
def GoodS (l : List Od) (r : List Int × Int) : Prop := r.1.Nodup ∧ (∀ x ∈ r.1, 0 ≤ x ∧ x < l.length) ∧ r.1.length = l.length ∧ r.2 = costO l r.1
theorem first_good (l : List Od) : ∀ (k : Nat) (b : List Int), b.length + k = l.length → b.Nodup → (∀ x ∈ b, 0 ≤ x ∧ x < l.length) → GoodS l (firstS l k b)
  | 0, b, hl, hd, hin => ⟨hd, hin, by simpa [firstS] using hl, rfl⟩
  | k + 1, b, hl, hd, hin => by
    have one : ∀ (i : Nat), i < l.length → ∀ s : List Int × Int, (s.2 < 0 ∨ GoodS l s) → ((stepF l (firstS l k) b s i).2 < 0 ∨ GoodS l (stepF l (firstS l k) b s i)) := by
      intro i hi s hs
      unfold stepF
      by_cases hm : (i : Int) ∈ b
      · rw [if_pos hm]; exact hs
      · rw [if_neg hm]
        split
        · exact hs
        · unfold combB
          split
          · right
            refine first_good l k _ (by simp; omega) (List.nodup_append.2 ⟨hd, by simp, fun x hx y hy e => by rw [List.mem_singleton.1 hy] at e; exact hm (e ▸ hx)⟩) fun x hx => ?_
            rcases List.mem_append.1 hx with hx | hx
            · exact hin x hx
            · rw [List.mem_singleton.1 hx]
              omega
          · exact hs
    have key : ∀ (r : List Nat) (s : List Int × Int), (∀ i ∈ r, i < l.length) → (s.2 < 0 ∨ GoodS l s) → ((r.foldl (stepF l (firstS l k) b) s).2 < 0 ∨ GoodS l (r.foldl (stepF l (firstS l k) b) s)) := by
      intro r
      induction r with
      | nil => intro s _ hs; exact hs
      | cons i r ih =>
        intro s hr hs
        rw [List.foldl_cons]
        exact ih _ (fun j hj => hr j (List.mem_cons_of_mem _ hj)) (one i (hr i List.mem_cons_self) s hs)
    have h1 := first_ge l (k + 1) b hl
    have h2 := cost_nn l b
    rcases key (List.range l.length) ([], -1) (fun i hi => List.mem_range.1 hi) (.inl (by simp)) with h | h
    · exfalso
      have e : ((List.range l.length).foldl (stepF l (firstS l k) b) ([], -1)) = firstS l (k + 1) b := rfl
      rw [e] at h
      omega
    · exact h
theorem lst_good {l : List Od} (hg : goodO l = true) : askO l (lstR l) = true ∧ lstM l = costO l (lstR l) := by
  obtain ⟨h1, h2, h3, h4⟩ := first_good l l.length [] (by simp) List.nodup_nil (by simp)
  have e1 : lstR l = (firstS l l.length []).1 := by simp [lstR, hg]
  have e2 : lstM l = (firstS l l.length []).2 := by simp [lstM, hg]
  rw [e1, e2]
  refine ⟨?_, h4⟩
  unfold askO
  rw [hg]
  simp only [Bool.true_and, Bool.and_eq_true, decide_eq_true_eq]
  exact ⟨h3, dif_of _ [] h2 h1 (fun _ _ hm => by cases hm)⟩
end Go.Proofs.YtaphcpfkgpaefaaGreat
/-
  Some orders by themselves: their due sequence is a part of that of all.
-/
namespace Go.Proofs.YtaphcpfkgpaefaaGreat
open Go Go.V
set_option linter.unusedSimpArgs false
set_option linter.unusedVariables false

/-- Less key, or the same one and before. -/
def befK (ks : List Int) (a b : Nat) : Prop := ks.getD a 0 < ks.getD b 0 ∨ (ks.getD a 0 = ks.getD b 0 ∧ a < b)
theorem ins_stable (ks : List Int) (x : Nat) (A : List Nat) (h : A.Pairwise (befK ks)) (hx : ∀ a ∈ A, a < x) : (insS (ltK ks) x A).Pairwise (befK ks) := by
  obtain ⟨h1, h2⟩ := pos_facts (ltK ks) x A A.length
  have hle := posG_le (ltK ks) x A A.length
  unfold insS
  generalize posG (ltK ks) x A A.length = p at *
  have hA := List.pairwise_iff_getElem.1 h
  have hlo : ∀ a ∈ A.take p, befK ks a x := fun a ha => by
    have hax := hx a (List.mem_of_mem_take ha)
    obtain ⟨i, hi, rfl⟩ := List.mem_iff_getElem.1 ha
    rw [List.length_take] at hi
    cases p with
    | zero => omega
    | succ m =>
      have h3 := h2 m rfl
      simp only [ltK, decide_eq_false_iff_not] at h3
      rw [List.getElem_take] at hax ⊢
      have h4 : A.getD m 0 = A[m]'(by omega) := by simp [show m < A.length by omega]
      rw [h4] at h3
      have h5 : ks.getD A[i] 0 ≤ ks.getD x 0 := by
        by_cases e : i = m
        · subst e; omega
        · rcases hA i m (by omega) (by omega) (by omega) with h | h
          · omega
          · omega
      unfold befK
      omega
  have hhi : ∀ a ∈ A.drop p, befK ks x a := fun a ha => by
    obtain ⟨i, hi, rfl⟩ := List.mem_iff_getElem.1 ha
    rw [List.length_drop] at hi
    rw [List.getElem_drop]
    have h3 := h1 (p + i) (by omega) (by omega)
    simp only [ltK, decide_eq_true_eq] at h3
    have h4 : A.getD (p + i) 0 = A[p + i]'(by omega) := by simp [show p + i < A.length by omega]
    rw [h4] at h3
    exact .inl h3
  rw [List.pairwise_append, List.pairwise_cons]
  refine ⟨h.sublist (List.take_sublist _ _), ⟨hhi, h.sublist (List.drop_sublist _ _)⟩, fun a ha b hb => ?_⟩
  rcases List.mem_cons.1 hb with rfl | hb
  · exact hlo a ha
  · have := hlo a ha
    have := hhi b hb
    unfold befK at *
    omega
theorem srtK_stable (ks : List Int) : ∀ n, (srtK ks n).Pairwise (befK ks)
  | 0 => List.Pairwise.nil
  | n + 1 => by
    rw [srtK_succ]
    exact ins_stable ks n _ (srtK_stable ks n) (srtK_lt ks n)

/-- The orders at some places. -/
def pickO (l : List Od) (Is : List Nat) : List Od := Is.map fun k => l.getD k (0, 0, 0, 0)
section
variable {l : List Od} {p : Nat → Bool}
abbrev isP (l : List Od) (p : Nat → Bool) : List Nat := (List.range l.length).filter p
theorem isP_inc : (isP l p).Pairwise (· < ·) := List.Pairwise.filter _ List.pairwise_lt_range
theorem isP_lt : ∀ k ∈ isP l p, k < l.length := fun k hk => List.mem_range.1 (List.mem_filter.1 hk).1
theorem pick_at (Is : List Nat) {j : Nat} (hj : j < Is.length) : oAt (pickO l Is) (j : Int) = oAt l (Is[j] : Int) := by
  simp [oAt, pickO, List.getD_eq_getElem?_getD, hj]
theorem keys_at (Is : List Nat) (hI : ∀ k ∈ Is, k < l.length) {j : Nat} (hj : j < Is.length) : ((pickO l Is).map fun x => x.2.2.2).getD j 0 = (l.map fun x => x.2.2.2).getD Is[j] 0 := by
  have := hI Is[j] (List.getElem_mem hj)
  simp [pickO, List.getD_eq_getElem?_getD, hj, this]
theorem map_getD (Is : List Nat) : (List.range Is.length).map (fun j => Is.getD j 0) = Is := by
  apply List.ext_getElem
  · simp
  · intro i h1 h2
    simp [List.getD_eq_getElem?_getD, h2]
/-- The due sequence of some orders, told by their places among all. -/
theorem srt_pick : (srtK ((pickO l (isP l p)).map fun x => x.2.2.2) (isP l p).length).map (fun j => (isP l p).getD j 0) = (srtK (l.map fun x => x.2.2.2) l.length).filter p := by
  have hI := isP_lt (l := l) (p := p)
  have hinc := isP_inc (l := l) (p := p)
  generalize hIs : isP l p = Is at *
  refine List.Perm.eq_of_pairwise (le := befK (l.map fun x => x.2.2.2)) (fun a b _ _ h1 h2 => ?_) ?_ ?_ ?_
  · unfold befK at h1 h2
    omega
  · rw [List.pairwise_map]
    refine (srtK_stable _ _).imp_of_mem fun {a b} ha hb h => ?_
    have ha' := srtK_lt _ _ a ha
    have hb' := srtK_lt _ _ b hb
    have e1 : Is.getD a 0 = Is[a] := by simp [List.getD_eq_getElem?_getD, ha']
    have e2 : Is.getD b 0 = Is[b] := by simp [List.getD_eq_getElem?_getD, hb']
    rw [e1, e2]
    unfold befK at h ⊢
    rw [keys_at Is hI ha', keys_at Is hI hb'] at h
    rcases h with h | ⟨h, hab⟩
    · exact .inl h
    · exact .inr ⟨h, List.pairwise_iff_getElem.1 hinc a b ha' hb' hab⟩
  · exact List.Pairwise.filter _ (srtK_stable _ _)
  · have h1 := (srtK_perm ((pickO l Is).map fun x => x.2.2.2) Is.length).map (fun j => Is.getD j 0)
    rw [map_getD] at h1
    refine h1.trans ?_
    rw [← hIs]
    exact ((srtK_perm (l.map fun x => x.2.2.2) l.length).filter p).symm
theorem run_pick (Is : List Nat) (a : Int × Int × Int) {j : Nat} (hj : j < Is.length) : runO (pickO l Is) a (j : Int) = runO l a (Is[j] : Int) := by
  obtain ⟨c, q, w⟩ := a
  simp only [runO, pick_at Is hj]
theorem times_pick (Is : List Nat) : ∀ (S : List Nat) (a : Int × Int × Int), (∀ j ∈ S, j < Is.length) → timesO (pickO l Is) a (nInts S) = timesO l a (nInts (S.map fun j => Is.getD j 0))
  | [], _, _ => rfl
  | j :: S, a, h => by
    have hj := h j List.mem_cons_self
    have e : Is.getD j 0 = Is[j] := by simp [List.getD_eq_getElem?_getD, hj]
    simp only [nInts, List.map_cons, timesO, e]
    rw [run_pick Is a hj]
    exact congrArg _ (times_pick Is S _ fun k hk => h k (List.mem_cons_of_mem _ hk))
theorem late_pick (Is S : List Nat) (h : ∀ j ∈ S, j < Is.length) : lateO (pickO l Is) (nInts S) (nInts S).length = lateO l (nInts (S.map fun j => Is.getD j 0)) (nInts (S.map fun j => Is.getD j 0)).length := by
  have hl : (nInts S).length = (nInts (S.map fun j => Is.getD j 0)).length := by simp
  unfold lateO
  rw [← hl]
  refine List.map_congr_left fun i hi => ?_
  have hi' : i < S.length := by simpa using hi
  have hj := h S[i] (List.getElem_mem hi')
  have e : Is.getD S[i] 0 = Is[S[i]] := by simp [List.getD_eq_getElem?_getD, hj]
  have e1 : (nInts S).getD i 0 = (S[i] : Int) := by simp [List.getD_eq_getElem?_getD, hi']
  have e2 : (nInts (S.map fun j => Is.getD j 0)).getD i 0 = (Is[S[i]] : Int) := by
    rw [← e]
    simp [List.getD_eq_getElem?_getD, hi']
  unfold lateF tms
  rw [times_pick Is S _ h, e1, e2, pick_at Is hj]
theorem good_pick (hg : goodO l = true) : goodO (pickO l (isP l p)) = true := by
  have hI := isP_lt (l := l) (p := p)
  have hinc := isP_inc (l := l) (p := p)
  have hlen : (isP l p).length ≤ 8 := by
    have := (goodO_all hg).2
    refine Nat.le_trans (List.length_filter_le _ _) ?_
    rw [List.length_range]
    exact this
  generalize isP l p = Is at *
  have hall : ∀ (m : List Od) (k : Nat), (∀ (i : Nat) (hi : i < m.length), pOd (pickO l Is) (k + i) m[i] = true) → allI (pOd (pickO l Is)) k m = true := by
    intro m
    induction m with
    | nil => intro k _; rfl
    | cons x m ih =>
      intro k hk
      simp only [allI, Bool.and_eq_true]
      refine ⟨by have := hk 0 (by simp); exact this, ih (k + 1) fun i hi => ?_⟩
      have := hk (i + 1) (by simpa using hi)
      rw [show k + 1 + i = k + (i + 1) by omega]
      simpa using this
  unfold goodO
  simp only [Bool.and_eq_true, decide_eq_true_eq]
  refine ⟨hall _ 0 fun i hi => ?_, by simpa [pickO] using hlen⟩
  have hi' : i < Is.length := by simpa [pickO] using hi
  have hIi := hI Is[i] (List.getElem_mem hi')
  have e : (pickO l Is)[i] = l[Is[i]] := by simp [pickO, List.getD_eq_getElem?_getD, hIi]
  rw [Nat.zero_add, e]
  unfold pOd
  simp only [Bool.and_eq_true, Bool.not_eq_true', Bool.and_eq_false_iff, decide_eq_false_iff_not]
  refine ⟨(goodO_all hg).1 _ (List.getElem_mem hIi), ?_⟩
  rcases Nat.eq_zero_or_pos i with h0 | h0
  · left; omega
  · right
    have hI1 := hI (Is[i - 1]'(by omega)) (List.getElem_mem _)
    have e1 : (pickO l Is).getD (i - 1) (0, 0, 0, 0) = l[Is[i - 1]'(by omega)] := by simp [pickO, List.getD_eq_getElem?_getD, show i - 1 < Is.length by omega, hI1]
    rw [e1]
    have := ids_inc hg (Is[i - 1]'(by omega)) Is[i] hIi hI1 (List.pairwise_iff_getElem.1 hinc (i - 1) i (by omega) hi' (by omega))
    omega
/-- What is told as in time is in time by itself. -/
theorem pick_none (hg : goodO l = true) : (latR (pickO l (isP l fun k => decide ((k : Int) ∈ mstR l))) (dueL (pickO l (isP l fun k => decide ((k : Int) ∈ mstR l))))).length = 0 := by
  have hb := mst_bst hg
  have hv := hb.2.1
  unfold vM at hv
  have hc := none_cost (of_decide_eq_true hv)
  have hgp := good_pick (l := l) (p := fun k => decide ((k : Int) ∈ mstR l)) hg
  rw [lat_none (due_ask hgp)]
  have hlen : (pickO l (isP l fun k => decide ((k : Int) ∈ mstR l))).length = (isP l fun k => decide ((k : Int) ∈ mstR l)).length := by simp [pickO]
  have e : lateO (pickO l (isP l fun k => decide ((k : Int) ∈ mstR l))) (dueL (pickO l (isP l fun k => decide ((k : Int) ∈ mstR l)))) (dueL (pickO l (isP l fun k => decide ((k : Int) ∈ mstR l)))).length = lateO l (seqM l (mstR l)) (seqM l (mstR l)).length := by
    unfold dueL
    rw [late_pick _ _ (fun j hj => by have := srtK_lt _ _ j hj; omega), hlen, srt_pick]
    have : nInts ((srtK (l.map fun x => x.2.2.2) l.length).filter fun k => decide ((k : Int) ∈ mstR l)) = seqM l (mstR l) := by
      unfold seqM dueL nInts
      rw [List.filter_map]
      rfl
    rw [this]
  rw [e]
  exact hc
end
end Go.Proofs.YtaphcpfkgpaefaaGreat
/-
  Contexts and contracts of functions, printed by gen.py.
-/
namespace Go.Proofs.YtaphcpfkgpaefaaGreat
open Go.V
set_option maxRecDepth 100000
@[reducible] def ty4 : TI := { n := 1, zero := [.v (.bool false)], bl := true }
/-- loop.example/g01054/laws.FnLateness -/
@[reducible] noncomputable def c_laws_FnLateness : Cx := { K := [.dat 2, .dat 2, .no, .no, .dat 0, .dat 1, .dat 1, .dat 1, .dat 0, .dat 2, .dat 0, .dat 0, .dat 0, .dat 0, .dat 0, .dat 1, .dat 0, .dat 1, .dat 0, .dat 1, .dat 0, .dat 2, .dat 0, .dat 0, .own 4 0 false, .dat 0, .box 4 0 false, .dat 1, .dat 0, .dat 1, .dat 0, .dat 1, .dat 1, .dat 0, .dat 0, .dat 2, .dat 0, .dat 0, .dat 1, .dat 0, .dat 0, .dat 0, .dat 0, .dat 0, .dat 2, .dat 0, .dat 2, .dat 0, .dat 0, .dat 0, .tup [.dat 1, .own 1 0 false], .dat 2, .tup [.dat 1, .own 1 0 false], .dat 1, .dat 1, .tup [.own 1 0 false, .dat 0], .dat 1, .dat 1, .tup [.own 1 0 false, .dat 0], .dat 1, .dat 0, .tup [.dat 2, .dat 0], .dat 1, .dat 1, .tup [.dat 2, .dat 0], .dat 2, .dat 0, .tup [.dat 0, .dat 0], .dat 1, .dat 1, .tup [.dat 0, .dat 0], .dat 0, .dat 0, .tup [.dat 0, .dat 0], .dat 1, .dat 1, .tup [.dat 0, .dat 0], .dat 0, .dat 0, .tup [.own 1 0 false, .dat 0], .dat 1, .tup [.own 1 0 false, .dat 0], .dat 1, .dat 0, .tup [.dat 1, .dat 0], .dat 1, .tup [.dat 1, .dat 0], .dat 1, .dat 0, .tup [.own 1 0 false, .dat 0], .dat 1, .tup [.own 1 0 false, .dat 0], .dat 1, .dat 0, .tup [.dat 2, .dat 0], .dat 1, .tup [.dat 2, .dat 0], .dat 2, .dat 0, .dat 0, .dat 0, .dat 0, .dat 0, .dat 1, .dat 2, .dat 0, .dat 0, .dat 0, .dat 0, .dat 0, .dat 0, .dat 0, .dat 0, .dat 0, .dat 0, .dat 0, .dat 0, .dat 0, .dat 0, .dat 0, .dat 0, .dat 0, .dat 0, .dat 0, .dat 1, .dat 1, .dat 0, .dat 0, .dat 0, .dat 0, .dat 0, .dat 0, .dat 0, .dat 0, .dat 0, .dat 1, .dat 2, .dat 0, .dat 0, .dat 0, .dat 0, .dat 0, .dat 0, .dat 0, .dat 0, .dat 0, .dat 0, .dat 0, .dat 0, .dat 0, .dat 0, .dat 0, .dat 0, .dat 0, .dat 0, .dat 0, .dat 0, .dat 0, .dat 0, .dat 0, .dat 0, .dat 2, .dat 0, .dat 0, .dat 0, .dat 0, .dat 0, .dat 0, .dat 0, .dat 2, .dat 0, .dat 0, .dat 0, .dat 0, .dat 2, .dat 0, .dat 1, .dat 0, .dat 0, .dat 0, .dat 0, .dat 1, .dat 1, .dat 0, .dat 0, .dat 0, .dat 0, .dat 0, .dat 1, .dat 0, .dat 0, .dat 0, .dat 0, .dat 1, .dat 1, .dat 0, .dat 0, .dat 1, .dat 0, .dat 1, .dat 1, .dat 0, .dat 1, .dat 1, .dat 0, .dat 1, .dat 0, .dat 1, .dat 1, .dat 0, .dat 0, .dat 1, .dat 0, .dat 0, .dat 0, .dat 0, .dat 1, .dat 0, .dat 2, .dat 0, .dat 0, .own 4 0 false, .dat 0, .dat 1, .own 4 0 false, .dat 0, .tup [.own 1 0 false, .dat 0], .via 24, .tup [.own 1 0 false, .dat 0], .dat 1, .dat 0, .tup [.own 1 0 false, .dat 0], .via 24, .dat 1, .tup [.own 1 0 false, .dat 0], .dat 1, .dat 0, .dat 0, .dat 0, .dat 0, .dat 0, .dat 0, .dat 0, .dat 0, .dat 1, .dat 0, .dat 0, .dat 0, .dat 2, .dat 1, .tup [.own 1 0 false, .dat 0, .dat 0], .dat 1, .tup [.own 1 0 false, .dat 0, .dat 0], .dat 1, .dat 0, .dat 0, .tup [.dat 2, .dat 0, .dat 0], .dat 1, .tup [.dat 2, .dat 0, .dat 0], .dat 2, .dat 0, .dat 0, .dat 0, .dat 0, .dat 0, .dat 0, .dat 1, .dat 2, .dat 0, .dat 0, .dat 0, .dat 0, .dat 0, .dat 0, .dat 0, .dat 0, .dat 0, .dat 0, .dat 1, .dat 0, .dat 0, .dat 0, .tup [.own 1 0 false, .dat 0], .dat 1, .dat 1, .tup [.own 1 0 false, .dat 0], .dat 1, .dat 0, .dat 0, .dat 0, .dat 2, .dat 0, .dat 0, .dat 0, .dat 0, .dat 2, .dat 0, .dat 1, .dat 0, .dat 1, .dat 0, .dat 1, .dat 0, .dat 1, .dat 1, .dat 0, .dat 0, .dat 0, .dat 0, .dat 0, .dat 0, .dat 0, .dat 0, .dat 0, .dat 0], T := [(3, ty3), (4, ty4), (5, ty5), (22, ty22), (23, ty23), (24, ty24), (34, ty34)], S := [(4, S_spec_DrawLateOrders), (5, S_impl_LateOrders), (6, S_spec_LateOrders), (7, S_impl_TotalLateness), (8, S_spec_TotalLateness), (9, S_impl_SequenceByDue), (10, S_spec_SequenceByDue), (11, S_impl_MostInTime), (12, S_spec_MostInTime), (13, S_laws_qInts), (14, S_laws_qHas), (15, S_spec_DrawLeastLateness), (16, S_impl_LeastLateness), (17, S_spec_LeastLateness), (18, S_impl_FinishTimes)], H := [(0, ([1, 5, 17, 21, 23], [1, 5, 21])), (2, ([1, 21, 24, 211, 212, 213], [1, 24])), (4, ([31, 36, 38, 40, 290, 291, 292], [36, 40]))], res := [.tmp 4], ios := [], G := gl0 }
@[reducible] def J_laws_FnLateness : List (Nat × List Nat) := [(16383, [1])]
noncomputable def F_laws_FnLateness : List D → Option Out := denFJ c_laws_FnLateness J_laws_FnLateness Tryz.f3
@[reducible] noncomputable def S_laws_FnLateness : FS := { pm := [.dat 2, .dat 2], rm := [.dat 0], f := F_laws_FnLateness }
theorem M_laws_FnLateness : Meets gl0 Tryz.prog 3 S_laws_FnLateness := meets_ofJ (J := J_laws_FnLateness) (P := Tryz.prog) (c := c_laws_FnLateness) (fn := Tryz.f3) (pm := S_laws_FnLateness.pm) (rm := S_laws_FnLateness.rm) (by kernel_rfl) (lookCons M_spec_DrawLateOrders (lookCons M_impl_LateOrders (lookCons M_spec_LateOrders (lookCons M_impl_TotalLateness (lookCons M_spec_TotalLateness (lookCons M_impl_SequenceByDue (lookCons M_spec_SequenceByDue (lookCons M_impl_MostInTime (lookCons M_spec_MostInTime (lookCons M_laws_qInts (lookCons M_laws_qHas (lookCons M_spec_DrawLeastLateness (lookCons M_impl_LeastLateness (lookCons M_spec_LeastLateness (lookCons M_impl_FinishTimes lookNil))))))))))))))) follows_mixed (by kernel_rfl) Tryz.func3 (by kernel_rfl) (by kernel_rfl) rfl
end Go.Proofs.YtaphcpfkgpaefaaGreat
/-
  What the functions compute: their evaluated texts, printed.
-/
namespace Go.Proofs.YtaphcpfkgpaefaaGreat
open Go Go.V
theorem t_laws_FnLateness (x0 x1 : D) : F_laws_FnLateness [x0, x1] =
  ((lenD false x0).bind fun z => (lenD false x1).bind fun z_1 => (bin BinOp.add false [] z z_1).bind fun z => (bin BinOp.gtr false [] z (D.v (Value.int IntKind.i64 1048576))).bind fun z =>
 ifD z (some (Out.ret [D.v (Value.bool true)] [])) (callK (F_spec_DrawLateOrders [x0]) fun rs _u => (tupAt (D.tup rs) 0).bind fun z => (tupAt (D.tup rs) 1).bind fun y => callK (F_impl_LateOrders [z, y]) fun rs _u =>
 (tupAt (D.tup rs) 0).bind fun y_1 => (tupAt (tupCut (D.tup rs) 0) 1).bind fun z_2 => callK (F_spec_LateOrders [z, y]) fun rs _u => (tupAt (D.tup rs) 0).bind fun z_3 => (tupAt (D.tup rs) 1).bind fun z_4 =>
 callK (F_impl_TotalLateness [z, y]) fun rs _u => (tupAt (D.tup rs) 0).bind fun z_5 => (tupAt (D.tup rs) 1).bind fun z_6 => callK (F_spec_TotalLateness [z, y]) fun rs _u => (tupAt (D.tup rs) 0).bind fun z_7 =>
 (tupAt (D.tup rs) 1).bind fun z_8 => callK (F_impl_SequenceByDue [z]) fun rs _u => (tupAt (D.tup rs) 0).bind fun y_2 => (tupAt (tupCut (D.tup rs) 0) 1).bind fun z_9 => callK (F_spec_SequenceByDue [z]) fun rs _u =>
 (tupAt (D.tup rs) 0).bind fun z_10 => (tupAt (D.tup rs) 1).bind fun z_11 => callK (fMst [z]) fun rs _u => (tupAt (D.tup rs) 0).bind fun y_3 => (tupAt (tupCut (D.tup rs) 0) 1).bind fun z_12 =>
 callK (F_spec_MostInTime [z]) fun rs _u => (tupAt (D.tup rs) 0).bind fun z_13 => (tupAt (D.tup rs) 1).bind fun z_14 => (bin BinOp.neq true [] z_2 z_4).bind fun z_15 => (gate (D.tup []) z_15 false (some y_1)).bind
 fun z_16 => (gate (D.tup []) z_15 false (some z_3)).bind fun z_17 => gateC z_15 false (callK (F_laws_qInts [z_16, z_17]) fun rs _u => some (Out.nrm [sl rs 0])) [D.tup []] fun outs => (gate (D.tup []) z_15 false
 (un UnOp.not (sl outs 0))).bind fun z_18 => (pickD z_15 (D.v (Value.bool true)) z_18).bind fun z_19 => (gate (D.tup []) z_19 false (some z_6)).bind fun z_20 => (gate (D.tup []) z_19 false (some z_8)).bind fun z_21 =>
 (gate (D.tup []) z_19 false (bin BinOp.neq true [] z_20 z_21)).bind fun z_22 => (pickD z_19 (D.v (Value.bool true)) z_22).bind fun z_23 => (gate (D.tup []) z_23 false (some z_5)).bind fun z_24 =>
 (gate (D.tup []) z_23 false (some z_7)).bind fun z_25 => (gate (D.tup []) z_23 false (bin BinOp.neq false [] z_24 z_25)).bind fun z_26 => (pickD z_23 (D.v (Value.bool true)) z_26).bind fun z_27 => (gate (D.tup []) z_27
 false (some z_9)).bind fun z_28 => (gate (D.tup []) z_27 false (some z_11)).bind fun z_29 => (gate (D.tup []) z_27 false (bin BinOp.neq true [] z_28 z_29)).bind fun z_30 => (pickD z_27 (D.v (Value.bool true)) z_30).bind
 fun z_31 => (gate (D.tup []) z_31 false (some y_2)).bind fun z_32 => (gate (D.tup []) z_31 false (some z_10)).bind fun z_33 => gateC z_31 false (callK (F_laws_qInts [z_32, z_33]) fun rs _u => some (Out.nrm [sl rs 0]))
 [D.tup []] fun outs => (gate (D.tup []) z_31 false (un UnOp.not (sl outs 0))).bind fun z_34 => (pickD z_31 (D.v (Value.bool true)) z_34).bind fun z_35 => (gate (D.tup []) z_35 false (some z_12)).bind fun z_36 => (gate
 (D.tup []) z_35 false (some z_14)).bind fun z_37 => (gate (D.tup []) z_35 false (bin BinOp.neq true [] z_36 z_37)).bind fun z_38 => (pickD z_35 (D.v (Value.bool true)) z_38).bind fun z_39 => (gate (D.tup []) z_39 false
 (some y_3)).bind fun z_40 => (gate (D.tup []) z_39 false (some z_13)).bind fun z_41 => gateC z_39 false (callK (F_laws_qInts [z_40, z_41]) fun rs _u => some (Out.nrm [sl rs 0])) [D.tup []] fun outs => (gate (D.tup [])
 z_39 false (un UnOp.not (sl outs 0))).bind fun z_42 => (pickD z_39 (D.v (Value.bool true)) z_42).bind fun z_43 => (gate (D.tup []) z_43 false (some z_6)).bind fun z_44 => (gate (D.tup []) z_43 false (some z_2)).bind fun
 z_45 => (gate (D.tup []) z_43 false (bin BinOp.neq true [] z_44 z_45)).bind fun z_46 => (pickD z_43 (D.v (Value.bool true)) z_46).bind fun z_47 => (gate (D.tup []) z_47 false (some z_12)).bind fun z_48 => (gate (D.tup [])
 z_47 false (some z_9)).bind fun z_49 => (gate (D.tup []) z_47 false (bin BinOp.neq true [] z_48 z_49)).bind fun z_50 => (pickD z_47 (D.v (Value.bool true)) z_50).bind fun z_51 => (gate (D.tup []) z_51 false (some
 z_2)).bind fun z_52 => (gate (D.tup []) z_51 false (some z_52)).bind fun z_53 => (gate (D.tup []) z_53 true (some z_9)).bind fun z_54 => (gate (D.tup []) z_53 true (un UnOp.not z_54)).bind fun z_55 => (gate (D.tup [])
 z_51 false (pickD z_53 z_55 (D.v (Value.bool false)))).bind fun z_56 => (pickD z_51 (D.v (Value.bool true)) z_56).bind fun z_57 => ifD z_57 (some (Out.ret [D.v (Value.bool false)] [])) ((gate (D.tup []) z_2 true (some
 z_7)).bind fun z_58 => (gate (D.tup []) z_2 true (bin BinOp.gtr false [] z_58 (D.v (Value.int IntKind.i64 0)))).bind fun z_59 => (gate (D.tup []) z_2 true (some z_3)).bind fun z_60 => (gate (D.tup []) z_2 true (lenD false
 z_60)).bind fun z_61 => (gate (D.tup []) z_2 true (bin BinOp.gtr false [] z_61 (D.v (Value.int IntKind.i64 0)))).bind fun z_62 => (gate (D.tup []) z_2 true (bin BinOp.neq true [] z_59 z_62)).bind fun z_63 => (pickD z_2
 z_63 (D.v (Value.bool false))).bind fun z_64 => (gate (D.tup []) z_64 false (some z_2)).bind fun z_65 => (gate (D.tup []) z_64 false (some z_65)).bind fun z_66 => (gate (D.tup []) z_66 true (some z_3)).bind fun z_67 =>
 (gate (D.tup []) z_66 true (lenD false z_67)).bind fun z_68 => (gate (D.tup []) z_66 true (bin BinOp.eql false [] z_68 (D.v (Value.int IntKind.i64 0)))).bind fun z_69 => (gate (D.tup []) z_64 false (pickD z_66 z_69 (D.v
 (Value.bool false)))).bind fun z_70 => (gate (D.tup []) z_64 false (some z_70)).bind fun z_71 => (gate (D.tup []) z_71 true (some z_13)).bind fun z_72 => (gate (D.tup []) z_71 true (lenD false z_72)).bind fun z_73 =>
 (gate (D.tup []) z_71 true (some z)).bind fun z_74 => (gate (D.tup []) z_71 true (lenD false z_74)).bind fun z_75 => (gate (D.tup []) z_71 true (bin BinOp.lss false [] z_73 z_75)).bind fun z_76 => (gate (D.tup []) z_64
 false (pickD z_71 z_76 (D.v (Value.bool false)))).bind fun z_77 => (gate (D.tup []) z_64 false (some z_77)).bind fun z_78 => (gate (D.tup []) z_78 true (some y)).bind fun z_79 => (gate (D.tup []) z_78 true (some
 z_10)).bind fun z_80 => gateC z_78 true (callK (F_laws_qInts [z_79, z_80]) fun rs _u => some (Out.nrm [sl rs 0])) [D.tup []] fun outs => (gate (D.tup []) z_64 false (pickD z_78 (sl outs 0) (D.v (Value.bool false)))).bind
 fun z_81 => (pickD z_64 (D.v (Value.bool true)) z_81).bind fun z_82 => ifD z_82 (some (Out.ret [D.v (Value.bool false)] [])) (joinC (fun j => ifD z_9 ((loopC (fun s => (lenD false (sl s 2)).bind fun z => (bin BinOp.lss
 false [] (sl s 4) z).bind fun z => ifD z ((bin BinOp.sub false [] (sl s 4) (D.v (Value.int IntKind.i64 1))).bind fun z => (Option.map D.ptr (elemD 1 (sl s 2) z)).bind fun z => ((ldD false 1 z).bind chkV).bind fun z =>
 (Option.map D.ptr (elemD 4 (sl s 1) z)).bind fun z => (offD 3 z).bind fun z => ((ldD false 1 z).bind chkV).bind fun z => (Option.map D.ptr (elemD 1 (sl s 2) (sl s 4))).bind fun z_83 => ((ldD false 1 z_83).bind chkV).bind
 fun z_84 => (Option.map D.ptr (elemD 4 (sl s 1) z_84)).bind fun z_85 => (offD 3 z_85).bind fun z_86 => ((ldD false 1 z_86).bind chkV).bind fun z_87 => (bin BinOp.gtr false [] z z_87).bind fun z => ifD z (some (Out.ret
 [D.v (Value.bool false)] [])) ((bin BinOp.add false [] (sl s 4) (D.v (Value.int IntKind.i64 1))).bind fun z => some (Out.nrm [sl s 0, sl s 1, sl s 2, sl s 3, z]))) (some (Out.ext 0 [sl s 0, sl s 1, sl s 3]))) [x1, z,
 z_10, z_13, D.v (Value.int IntKind.i64 1)]).bind fun o => outK o (fun i s => ifN (i.beq 0) ((lenD false (sl s 1)).bind fun z => (loopC (fun s => (bin BinOp.lss false [] (sl s 5) (sl s 4)).bind fun z => ifD z ((Option.map
 D.ptr (elemD 4 (sl s 3) (sl s 5))).bind fun z => ((ldD true 4 z).bind chkV).bind fun z => (stD 4 (D.agg [D.v (Value.int IntKind.i64 0), D.v (Value.int IntKind.i64 0), D.v (Value.int IntKind.i64 0), D.v (Value.int
 IntKind.i64 0)]) (D.ref 0 0) z).bind fun b => callK (F_laws_qHas [sl s 1, sl s 5]) fun rs _u => ifD (sl rs 0) ((fldD true 4 0 b).bind fun z => (mkArr 4 [z]).bind fun a => (chkA a).bind fun b => (appD 4 32 (sl s 2) b).bind
 fun y => (bin BinOp.add false [] (sl s 5) (D.v (Value.int IntKind.i64 1))).bind fun z => some (Out.nrm [sl s 0, sl s 1, y, sl s 3, sl s 4, z])) ((bin BinOp.add false [] (sl s 5) (D.v (Value.int IntKind.i64 1))).bind fun
 z => some (Out.nrm [sl s 0, sl s 1, sl s 2, sl s 3, sl s 4, z]))) (some (Out.ext 2 [sl s 0, sl s 2]))) [sl s 0, sl s 2, D.arr 4 [], sl s 1, z, D.v (Value.int IntKind.i64 0)]).bind fun o => outK o (fun i s => ifN (i.beq 2)
 ((liveD (sl s 1) (D.ref 0 0)).bind fun z => (liveD z (sl s 1)).bind fun i => callK (F_impl_SequenceByDue [i]) fun rs _u => (tupAt (D.tup rs) 0).bind fun y => (tupAt (tupCut (D.tup rs) 0) 1).bind fun z => (liveD (sl s 1)
 (D.ref 0 0)).bind fun z_83 => (liveD z_83 (sl s 1)).bind fun i => callK (F_impl_LateOrders [i, y]) fun rs _u => (tupAt (D.tup rs) 0).bind fun y => (tupAt (tupCut (D.tup rs) 0) 1).bind fun z_84 => (un UnOp.not z).bind fun
 z => (gate (D.tup []) z false (some z_84)).bind fun z_85 => (gate (D.tup []) z false (un UnOp.not z_85)).bind fun z_86 => (pickD z (D.v (Value.bool true)) z_86).bind fun z => (gate (D.tup []) z false (some y)).bind fun
 z_87 => (gate (D.tup []) z false (lenD false z_87)).bind fun z_88 => (gate (D.tup []) z false (bin BinOp.gtr false [] z_88 (D.v (Value.int IntKind.i64 0)))).bind fun z_89 => (pickD z (D.v (Value.bool true)) z_89).bind fun
 z => ifD z (some (Out.ret [D.v (Value.bool false)] [])) (j [sl s 0])) none) fun a b => some (Out.ret a b)) none) fun a b => some (Out.ret a b)) (j [x1])) fun s => callK (F_spec_DrawLeastLateness [sl s 0]) fun rs _u =>
 callK (fLst [sl rs 0]) fun rs_1 _u => (tupAt (D.tup rs_1) 0).bind fun y => (tupAt (tupCut (D.tup rs_1) 0) 1).bind fun z => (tupAt (tupCut (D.tup rs_1) 0) 2).bind fun z_83 => callK (F_spec_LeastLateness [sl rs 0]) fun rs_2
 _u => (tupAt (D.tup rs_2) 0).bind fun z_84 => (tupAt (D.tup rs_2) 1).bind fun z_85 => (tupAt (D.tup rs_2) 2).bind fun z_86 => (bin BinOp.neq true [] z_83 z_86).bind fun z_87 => (gate (D.tup []) z_87 false (some y)).bind
 fun z_88 => (gate (D.tup []) z_87 false (some z_84)).bind fun z_89 => gateC z_87 false (callK (F_laws_qInts [z_88, z_89]) fun rs _u => some (Out.nrm [sl rs 0])) [D.tup []] fun outs => (gate (D.tup []) z_87 false (un
 UnOp.not (sl outs 0))).bind fun z_90 => (pickD z_87 (D.v (Value.bool true)) z_90).bind fun z_91 => (gate (D.tup []) z_91 false (some z)).bind fun z => (gate (D.tup []) z_91 false (some z_85)).bind fun z_92 => (gate (D.tup
 []) z_91 false (bin BinOp.neq false [] z z_92)).bind fun z => (pickD z_91 (D.v (Value.bool true)) z).bind fun z => ifD z (some (Out.ret [D.v (Value.bool false)] [])) ((gate (D.tup []) z_83 true (some (sl rs 0))).bind fun
 z => (gate (D.tup []) z_83 true (lenD false z)).bind fun z => (gate (D.tup []) z_83 true (bin BinOp.gtr false [] z (D.v (Value.int IntKind.i64 0)))).bind fun z => (pickD z_83 z (D.v (Value.bool false))).bind fun z => ifD
 z (callK (F_impl_FinishTimes [sl rs 0, y]) fun rs_3 _u => (tupAt (D.tup rs_3) 0).bind fun y => (tupAt (tupCut (D.tup rs_3) 0) 1).bind fun z => (un UnOp.not z).bind fun z => ifD z (some (Out.ret [D.v (Value.bool false)]
 [])) ((lenD false z_84).bind fun z => (loopC (fun s => (bin BinOp.lss false [] (sl s 6) (sl s 5)).bind fun z => ifD z ((Option.map D.ptr (elemD 1 (sl s 4) (sl s 6))).bind fun z => ((ldD false 1 z).bind chkV).bind fun z =>
 (Option.map D.ptr (elemD 1 (sl s 2) (sl s 6))).bind fun z_93 => ((ldD false 1 z_93).bind chkV).bind fun z_94 => (Option.map D.ptr (elemD 4 (sl s 0) z)).bind fun z => (offD 3 z).bind fun z => ((ldD false 1 z).bind
 chkV).bind fun z => (bin BinOp.sub false [] z_94 z).bind fun z => (bin BinOp.gtr false [] z (sl s 3)).bind fun z_95 => ifD z_95 ((bin BinOp.add false [] (sl s 6) (D.v (Value.int IntKind.i64 1))).bind fun z_96 => some
 (Out.nrm [sl s 0, sl s 1, sl s 2, z, sl s 4, sl s 5, z_96])) ((bin BinOp.add false [] (sl s 6) (D.v (Value.int IntKind.i64 1))).bind fun z => some (Out.nrm [sl s 0, sl s 1, sl s 2, sl s 3, sl s 4, sl s 5, z]))) (some
 (Out.ext 4 [sl s 1, sl s 3]))) [sl rs 0, z_85, y, D.v (Value.int IntKind.i64 0), z_84, z, D.v (Value.int IntKind.i64 0)]).bind fun o => outK o (fun i s => ifN (i.beq 4) ((bin BinOp.eql false [] (sl s 1) (sl s 0)).bind fun
 z => some (Out.ret [z] [])) none) fun a b => some (Out.ret a b))) (some (Out.ret [D.v (Value.bool true)] []))))))) := by kernel_rfl
end Go.Proofs.YtaphcpfkgpaefaaGreat
/-
  The law of lateness: the parts of its text.
-/
namespace Go.Proofs.YtaphcpfkgpaefaaGreat
open Go Go.V
set_option linter.unusedSimpArgs false
set_option linter.unusedVariables false

theorem tpO0 (l : List Od) (ds : List D) : tupAt (.tup (ods l :: ds)) 0 = some (ods l) := rfl
theorem tpI0 (l : List Int) (ds : List D) : tupAt (.tup (ints l :: ds)) 0 = some (ints l) := rfl
theorem tpI1 (a : D) (l : List Int) (ds : List D) : tupAt (.tup (a :: ints l :: ds)) 1 = some (ints l) := rfl
theorem tpv1 (a : D) (v : Value) (ds : List D) : tupAt (.tup (a :: .v v :: ds)) 1 = some (.v v) := rfl
theorem tpv0 (v : Value) (ds : List D) : tupAt (.tup (.v v :: ds)) 0 = some (.v v) := rfl
theorem tpv2 (a b : D) (v : Value) (ds : List D) : tupAt (.tup (a :: b :: .v v :: ds)) 2 = some (.v v) := rfl
theorem tpC1 (a : D) (v : Value) (ds : List D) : tupAt (tupCut (.tup (a :: .v v :: ds)) 0) 1 = some (.v v) := rfl
theorem tpC2 (a : D) (u v : Value) (ds : List D) : tupAt (tupCut (.tup (a :: .v u :: .v v :: ds)) 0) 2 = some (.v v) := rfl
theorem od_get {l : List Od} {i : Nat} (h : i < l.length) : elemD 4 (ods l) (I (i : Int)) = some [I l[i].1, I l[i].2.1, I l[i].2.2.1, I l[i].2.2.2] := by
  rw [elemD_int (by omega)]
  simp [h, D.cells]
theorem int_get {l : List Int} {i : Nat} (h : i < l.length) : elemD 1 (ints l) (I (i : Int)) = some [I l[i]] := by
  rw [elemD_int (by omega)]
  simp [h, D.cells]
theorem e_fMst (l : List Od) (hl : l.length ≤ 1048576) : fMst [ods l] = some (.ret [ints (mstR l), B (goodO l)] []) := by
  simp [fMst, odsOf_map, hl]
theorem e_fLst (l : List Od) (hl : l.length ≤ 1048576) : fLst [ods l] = some (.ret [ints (lstR l), I (lstM l), B (goodO l)] []) := by
  simp [fLst, odsOf_map, hl]
theorem lstW_is (l : List Od) : (lstW l = D.arr 0 [] ∧ l = [] ∧ lstR l = []) ∨ lstW l = ints (lstR l) := by
  unfold lstW
  split
  · rename_i h
    obtain ⟨hg, rfl⟩ := h
    exact .inl ⟨rfl, rfl, by simp [lstR, hg, firstS]⟩
  · exact .inr rfl
theorem qInts_nil : F_laws_qInts [ints [], D.arr 0 []] = some (.ret [B true] []) := by
  rw [t_laws_qInts]
  simp only [lenD_arr, List.length_map, Option.bind_some, bin_neq, decide_true, Bool.not_true, ifD_B, Bool.false_eq_true, if_false]
  refine loop_bind _ (loop_for 0 (fun i => [ints [], D.arr 0 [], I 0, I i]) (.ext 0 []) (fun i hi => absurd hi (Nat.not_lt_zero _)) ?_ rfl rfl) ?_
  · simp
  · simp
/-- Two lists held against each other. -/
theorem qInts_ne (a b : List Int) (h : a.length = b.length) (hl : a.length ≤ 1048576) (hn : a ≠ b) : F_laws_qInts [ints a, ints b] = some (.ret [B false] []) := by
  rw [t_laws_qInts]
  have h' : (a.length : Int) = (b.length : Int) := by omega
  simp -implicitDefEqProofs only [sl_zero, sl_succ, liveD_agg, liveD_ref, liveD_arr, ref0_eq, Option.bind_some, Option.map_some, callK_ret, gate_t, gate_f, gate_s, gateC_t, gateC_f, gateC_s, nrmK_some, pickD_B, ifD_B, ifN_B, if_true, if_false, Bool.false_eq_true, un_not, Bool.not_true, Bool.not_false, decide_true, decide_false, and_self, outK_ext, Nat.beq_refl, bin_lss, bin_gtr, bin_leq, bin_geq, bin_eql, bin_neq, bin_add, bin_sub, bin_mul, lenD_arr, lenD_str, List.length_map, ldD_ptr, takeD_f, chkV_v, offD_ptr, List.drop_zero, List.drop_succ_cons, atD_agg, mkArr_nil, Int.reduceLT, Int.reduceLE, Int.reduceEq, h', eq_self]
  refine loop_bind _ (loop_all a (fun i => [ints a, ints b, I b.length, I i]) (fun i x => decide (x = b.getD i 0)) (.ret [B false] []) (.ext 0 []) (fun i hi => ?_) ?_ rfl rfl rfl) ?_
  · have hw : IntKind.i64.wrap ((i : Int) + 1) = (i : Int) + 1 := wrap_id (by omega) (by omega)
    have hi' : (i : Int) < (b.length : Int) := by omega
    have e1 := int_get (l := a) (i := i) hi
    have e2 := int_get (l := b) (i := i) (by omega)
    have e3 : b.getD i 0 = b[i]'(by omega) := by simp [List.getD_eq_getElem?_getD, show i < b.length by omega]
    rw [e3]
    by_cases e : a[i] = b[i]'(by omega)
    · simp -implicitDefEqProofs only [sl_zero, sl_succ, liveD_agg, liveD_ref, liveD_arr, ref0_eq, Option.bind_some, Option.map_some, callK_ret, gate_t, gate_f, gate_s, gateC_t, gateC_f, gateC_s, nrmK_some, pickD_B, ifD_B, ifN_B, if_true, if_false, Bool.false_eq_true, un_not, Bool.not_true, Bool.not_false, decide_true, decide_false, and_self, outK_ext, Nat.beq_refl, bin_lss, bin_gtr, bin_leq, bin_geq, bin_eql, bin_neq, bin_add, bin_sub, bin_mul, lenD_arr, lenD_str, List.length_map, ldD_ptr, takeD_f, chkV_v, offD_ptr, List.drop_zero, List.drop_succ_cons, atD_agg, mkArr_nil, Int.reduceLT, Int.reduceLE, Int.reduceEq, hi', e1, e2, e, eq_self, hw, Int.natCast_add, Int.natCast_one]
    · simp -implicitDefEqProofs only [sl_zero, sl_succ, liveD_agg, liveD_ref, liveD_arr, ref0_eq, Option.bind_some, Option.map_some, callK_ret, gate_t, gate_f, gate_s, gateC_t, gateC_f, gateC_s, nrmK_some, pickD_B, ifD_B, ifN_B, if_true, if_false, Bool.false_eq_true, un_not, Bool.not_true, Bool.not_false, decide_true, decide_false, and_self, outK_ext, Nat.beq_refl, bin_lss, bin_gtr, bin_leq, bin_geq, bin_eql, bin_neq, bin_add, bin_sub, bin_mul, lenD_arr, lenD_str, List.length_map, ldD_ptr, takeD_f, chkV_v, offD_ptr, List.drop_zero, List.drop_succ_cons, atD_agg, mkArr_nil, Int.reduceLT, Int.reduceLE, Int.reduceEq, hi', e1, e2, e]
  · have : ¬ (a.length : Int) < (b.length : Int) := by omega
    simp -implicitDefEqProofs only [sl_zero, sl_succ, liveD_agg, liveD_ref, liveD_arr, ref0_eq, Option.bind_some, Option.map_some, callK_ret, gate_t, gate_f, gate_s, gateC_t, gateC_f, gateC_s, nrmK_some, pickD_B, ifD_B, ifN_B, if_true, if_false, Bool.false_eq_true, un_not, Bool.not_true, Bool.not_false, decide_true, decide_false, and_self, outK_ext, Nat.beq_refl, bin_lss, bin_gtr, bin_leq, bin_geq, bin_eql, bin_neq, bin_add, bin_sub, bin_mul, lenD_arr, lenD_str, List.length_map, ldD_ptr, takeD_f, chkV_v, offD_ptr, List.drop_zero, List.drop_succ_cons, atD_agg, mkArr_nil, Int.reduceLT, Int.reduceLE, Int.reduceEq, this]
  · rw [if_neg]
    · rfl
    · intro hall
      refine hn (List.ext_getElem h fun i h1 h2 => ?_)
      have := allI_at _ a 0 hall i h1
      rw [Nat.zero_add] at this
      simpa [List.getD_eq_getElem?_getD, h2] using this
theorem e_laws_qHas (l : List Int) (n : Int) (h : l.length ≤ 1048577) : F_laws_qHas [ints l, I n] = some (.ret [B (decide (n ∈ l))] []) := by
  rw [t_laws_qHas]
  simp only [lenD_arr, List.length_map, Option.bind_some]
  refine loop_bind _ (loop_all l (fun i => [I n, ints l, I l.length, I i]) (fun _ x => !decide (x = n)) (.ret [B true] []) (.ext 0 []) (fun i hi => ?_) ?_ rfl rfl rfl) ?_
  · have hw : IntKind.i64.wrap ((i : Int) + 1) = (i : Int) + 1 := wrap_id (by omega) (by omega)
    by_cases h1 : l[i] = n <;> simp -implicitDefEqProofs [hi, hw, h1]
  · simp
  · rw [allI_not]
    by_cases hm : n ∈ l <;> simp [hm]
theorem d_DrawLateOrders (l : List Int) (h : Bytes l) : ∃ (o : List Od) (s : List Int), F_spec_DrawLateOrders [bytesD l] = some (.ret [ods o, ints s] []) ∧ o.length ≤ 9 ∧ s.length ≤ 20 ∧ ∀ x ∈ s, inI x := by
  obtain ⟨o, s, e1, h1⟩ := d_DrawFinishTimes l h
  rw [t_spec_DrawLateOrders]
  exact ⟨o, s, by simp -implicitDefEqProofs only [sl_zero, sl_succ, liveD_agg, liveD_ref, liveD_arr, ref0_eq, Option.bind_some, Option.map_some, callK_ret, gate_t, gate_f, gate_s, gateC_t, gateC_f, gateC_s, nrmK_some, pickD_B, ifD_B, ifN_B, if_true, if_false, Bool.false_eq_true, un_not, Bool.not_true, Bool.not_false, decide_true, decide_false, and_self, outK_ext, Nat.beq_refl, bin_lss, bin_gtr, bin_leq, bin_geq, bin_eql, bin_neq, bin_add, bin_sub, bin_mul, lenD_arr, lenD_str, List.length_map, ldD_ptr, takeD_f, chkV_v, offD_ptr, List.drop_zero, List.drop_succ_cons, atD_agg, mkArr_nil, Int.reduceLT, Int.reduceLE, Int.reduceEq, e1, tpO0, tpI1], h1⟩
theorem sl_ods {l : List Od} (h : 6 ≤ l.length) : sliceD false 4 (ods l) (I 0) (I 6) = some (ods (l.take 6)) := by
  have h' : (6 : Int) ≤ (l.length : Int) := by omega
  simp [sliceD, h', List.map_take]
theorem d_DrawLeastLateness (l : List Int) (h : Bytes l) : ∃ (o : List Od), F_spec_DrawLeastLateness [bytesD l] = some (.ret [ods o] []) ∧ o.length ≤ 9 := by
  obtain ⟨o, c1, e1, g1, k1⟩ := d_orders ⟨l, 0, 0⟩ 0 (cur0 h) (by omega)
  rw [← curZ_eq] at e1
  rw [t_spec_DrawLeastLateness]
  by_cases h6 : (6 : Int) < o.length
  · obtain ⟨b, c2, e2, k2⟩ := d_one c1 8 _ k1 (by omega) (by omega)
    cases b
    · exact ⟨o.take 6, by simp -implicitDefEqProofs only [sl_zero, sl_succ, liveD_agg, liveD_ref, liveD_arr, ref0_eq, Option.bind_some, Option.map_some, callK_ret, gate_t, gate_f, gate_s, gateC_t, gateC_f, gateC_s, nrmK_some, pickD_B, ifD_B, ifN_B, if_true, if_false, Bool.false_eq_true, un_not, Bool.not_true, Bool.not_false, decide_true, decide_false, and_self, outK_ext, Nat.beq_refl, bin_lss, bin_gtr, bin_leq, bin_geq, bin_eql, bin_neq, bin_add, bin_sub, bin_mul, lenD_arr, lenD_str, List.length_map, ldD_ptr, takeD_f, chkV_v, offD_ptr, List.drop_zero, List.drop_succ_cons, atD_agg, mkArr_nil, Int.reduceLT, Int.reduceLE, Int.reduceEq, bldCur, box_cur, e1, h6, e2, sl_ods (show 6 ≤ o.length by omega)], by rw [List.length_take]; omega⟩
    · exact ⟨o, by simp -implicitDefEqProofs only [sl_zero, sl_succ, liveD_agg, liveD_ref, liveD_arr, ref0_eq, Option.bind_some, Option.map_some, callK_ret, gate_t, gate_f, gate_s, gateC_t, gateC_f, gateC_s, nrmK_some, pickD_B, ifD_B, ifN_B, if_true, if_false, Bool.false_eq_true, un_not, Bool.not_true, Bool.not_false, decide_true, decide_false, and_self, outK_ext, Nat.beq_refl, bin_lss, bin_gtr, bin_leq, bin_geq, bin_eql, bin_neq, bin_add, bin_sub, bin_mul, lenD_arr, lenD_str, List.length_map, ldD_ptr, takeD_f, chkV_v, offD_ptr, List.drop_zero, List.drop_succ_cons, atD_agg, mkArr_nil, Int.reduceLT, Int.reduceLE, Int.reduceEq, bldCur, box_cur, e1, h6, e2], g1⟩
  · exact ⟨o, by simp -implicitDefEqProofs only [sl_zero, sl_succ, liveD_agg, liveD_ref, liveD_arr, ref0_eq, Option.bind_some, Option.map_some, callK_ret, gate_t, gate_f, gate_s, gateC_t, gateC_f, gateC_s, nrmK_some, pickD_B, ifD_B, ifN_B, if_true, if_false, Bool.false_eq_true, un_not, Bool.not_true, Bool.not_false, decide_true, decide_false, and_self, outK_ext, Nat.beq_refl, bin_lss, bin_gtr, bin_leq, bin_geq, bin_eql, bin_neq, bin_add, bin_sub, bin_mul, lenD_arr, lenD_str, List.length_map, ldD_ptr, takeD_f, chkV_v, offD_ptr, List.drop_zero, List.drop_succ_cons, atD_agg, mkArr_nil, Int.reduceLT, Int.reduceLE, Int.reduceEq, bldCur, box_cur, e1, h6], g1⟩
end Go.Proofs.YtaphcpfkgpaefaaGreat
