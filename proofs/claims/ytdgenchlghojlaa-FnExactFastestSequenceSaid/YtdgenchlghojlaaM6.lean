/-
  The library's insertion sort and the reference's: plain facts.
-/
import Derived.Test.YtdgenchlghojlaaRows
import Derived.Test.YtdgenchlghojlaaM5
import Derived.OwnWalk
namespace Go.Proofs.Ytdgenchlghojlaa
open Go Go.Proofs Go.V Go.Sort
set_option linter.unusedSimpArgs false

/-- Where a number comes to stand, from a place on backwards. -/
def posG (lt : Nat → Nat → Bool) (x : Nat) (A : List Nat) : Nat → Nat
  | 0 => 0
  | k + 1 => if lt x (A.getD k 0) = true then posG lt x A k else k + 1
def insS (lt : Nat → Nat → Bool) (x : Nat) (A : List Nat) : List Nat := A.take (posG lt x A A.length) ++ x :: A.drop (posG lt x A A.length)
def srt (lt : Nat → Nat → Bool) (l a : List Nat) : List Nat := l.foldl (fun o x => insS lt x o) a
theorem posG_le (lt : Nat → Nat → Bool) (x : Nat) (A : List Nat) : ∀ k, posG lt x A k ≤ k
  | 0 => Nat.le_refl _
  | k + 1 => by
    unfold posG
    split
    · exact Nat.le_succ_of_le (posG_le lt x A k)
    · exact Nat.le_refl _
theorem posG_app (lt : Nat → Nat → Bool) (x y : Nat) (A : List Nat) : ∀ k, k ≤ A.length → posG lt x (A ++ [y]) k = posG lt x A k
  | 0, _ => rfl
  | k + 1, h => by
    have e : (A ++ [y]).getD k 0 = A.getD k 0 := by
      rw [List.getD_eq_getElem?_getD, List.getD_eq_getElem?_getD, List.getElem?_append_left (by omega)]
    unfold posG
    rw [e, posG_app lt x y A k (by omega)]
theorem getD_last (A : List Nat) (y : Nat) : (A ++ [y]).getD A.length 0 = y := by simp
theorem insS_lt {lt : Nat → Nat → Bool} {x y : Nat} (A : List Nat) (h : lt x y = true) : insS lt x (A ++ [y]) = insS lt x A ++ [y] := by
  have e : posG lt x (A ++ [y]) (A ++ [y]).length = posG lt x A A.length := by
    rw [List.length_append]
    have hs : posG lt x (A ++ [y]) (A.length + 1) = if lt x ((A ++ [y]).getD A.length 0) = true then posG lt x (A ++ [y]) A.length else A.length + 1 := rfl
    show posG lt x (A ++ [y]) (A.length + 1) = _
    rw [hs, getD_last, if_pos h, posG_app _ _ _ _ _ (Nat.le_refl _)]
  have hp := posG_le lt x A A.length
  unfold insS
  rw [e, List.take_append_of_le_length hp, List.drop_append_of_le_length hp, List.append_assoc, List.cons_append]
theorem insS_ge {lt : Nat → Nat → Bool} {x y : Nat} (A : List Nat) (h : lt x y = false) : insS lt x (A ++ [y]) = A ++ [y, x] := by
  have e : posG lt x (A ++ [y]) (A ++ [y]).length = (A ++ [y]).length := by
    rw [List.length_append]
    have hs : posG lt x (A ++ [y]) (A.length + 1) = if lt x ((A ++ [y]).getD A.length 0) = true then posG lt x (A ++ [y]) A.length else A.length + 1 := rfl
    show posG lt x (A ++ [y]) (A.length + 1) = A.length + 1
    rw [hs, getD_last, if_neg (by rw [h]; exact Bool.false_ne_true)]
  unfold insS
  rw [e, List.take_of_length_le (Nat.le_refl _), List.drop_of_length_le (Nat.le_refl _), List.append_assoc]
  rfl
theorem insS_length (lt : Nat → Nat → Bool) (x : Nat) (A : List Nat) : (insS lt x A).length = A.length + 1 := by
  have hp := posG_le lt x A A.length
  unfold insS
  simp
  omega
theorem swp_last (A B : List Nat) (y x : Nat) : swp (A ++ [y] ++ x :: B).toArray (A.length + 1) A.length = (A ++ x :: y :: B).toArray := by
  have e1 : (A ++ [y] ++ x :: B).toArray[A.length + 1]! = x := by simp
  have e2 : (A ++ [y] ++ x :: B).toArray[A.length]! = y := by simp
  unfold swp
  rw [e1, e2]
  simp
theorem ins_kit (lt : Nat → Nat → Bool) (x : Nat) : ∀ (n : Nat) (A B : List Nat), A.length = n → insInner lt 0 n (A ++ x :: B).toArray = (insS lt x A ++ B).toArray
  | 0, A, B, h => by
    have h0 : A = [] := List.eq_nil_of_length_eq_zero h
    subst h0
    rw [insInner]
    rfl
  | n + 1, A, B, h => by
    have hne : A ≠ [] := fun e => by rw [e] at h; cases h
    obtain ⟨A', y, rfl⟩ : ∃ A' y, A = A' ++ [y] := ⟨A.dropLast, A.getLast hne, (List.dropLast_concat_getLast hne).symm⟩
    have hn : A'.length = n := by simpa using h
    have e1 : (A' ++ [y] ++ x :: B).toArray[n + 1]! = x := by rw [← hn]; simp
    have e2 : (A' ++ [y] ++ x :: B).toArray[n + 1 - 1]! = y := by rw [← hn]; simp
    cases hl : lt x y
    · rw [insInner_stop lt 0 (n + 1) _ (.inr (by rw [e1, e2]; exact hl)), insS_ge A' hl]
      simp
    · rw [insInner_go lt 0 (n + 1) _ (Nat.succ_pos n) (by rw [e1, e2]; exact hl), insS_lt A' hl, Nat.add_sub_cancel]
      rw [← hn, swp_last, hn, ins_kit lt x n A' (y :: B) hn]
      simp
theorem out_kit (lt : Nat → Nat → Bool) (n : Nat) : ∀ (r a : List Nat), a.length + r.length = n → insOuter lt 0 n a.length (a ++ r).toArray = (srt lt r a).toArray
  | [], a, h => by
    rw [insOuter_stop lt 0 n a.length _ (by simp at h; omega)]
    simp [srt]
  | x :: r, a, h => by
    simp only [List.length_cons] at h
    rw [insOuter_go lt 0 n a.length _ (by omega), ins_kit lt x a.length a r rfl]
    have := out_kit lt n r (insS lt x a) (by rw [insS_length]; omega)
    rw [insS_length] at this
    rw [this]
    rfl
theorem sort_kit (lt : Nat → Nat → Bool) (l : List Nat) : Sort.insertionSort lt l.toArray 0 l.length = (srt lt l []).toArray := by
  unfold Sort.insertionSort
  cases l with
  | nil => rw [insOuter_stop _ _ _ _ _ (by simp)]; rfl
  | cons x r => exact out_kit lt (x :: r).length r [x] (by simp; omega)
theorem mem_insS {lt : Nat → Nat → Bool} {x y : Nat} {A : List Nat} (h : y ∈ insS lt x A) : y = x ∨ y ∈ A := by
  unfold insS at h
  rcases List.mem_append.1 h with h | h
  · exact .inr (List.mem_of_mem_take h)
  · rcases List.mem_cons.1 h with h | h
    · exact .inl h
    · exact .inr (List.mem_of_mem_drop h)
theorem mem_srt {lt : Nat → Nat → Bool} {y : Nat} : ∀ (l a : List Nat), y ∈ srt lt l a → y ∈ l ∨ y ∈ a
  | [], a, h => .inr h
  | x :: l, a, h => by
    rcases mem_srt l (insS lt x a) h with h | h
    · exact .inl (by simp [h])
    · rcases mem_insS h with rfl | h
      · exact .inl (by simp)
      · exact .inr h
theorem posG_congr {lt lt' : Nat → Nat → Bool} {x : Nat} {A : List Nat} (h : ∀ y ∈ A, lt x y = lt' x y) : ∀ k, k ≤ A.length → posG lt x A k = posG lt' x A k
  | 0, _ => rfl
  | k + 1, hk => by
    have hm : A.getD k 0 ∈ A := by
      rw [List.getD_eq_getElem?_getD, List.getElem?_eq_getElem (by omega)]
      exact List.getElem_mem _
    unfold posG
    rw [h _ hm, posG_congr h k (by omega)]
theorem insS_congr {lt lt' : Nat → Nat → Bool} {x : Nat} {A : List Nat} (h : ∀ y ∈ A, lt x y = lt' x y) : insS lt x A = insS lt' x A := by
  unfold insS
  rw [posG_congr h _ (Nat.le_refl _)]
theorem srt_congr {lt lt' : Nat → Nat → Bool} (n : Nat) (h : ∀ x y, x < n → y < n → lt x y = lt' x y) : ∀ (l a : List Nat), (∀ x ∈ l, x < n) → (∀ x ∈ a, x < n) → srt lt l a = srt lt' l a
  | [], _, _, _ => rfl
  | x :: l, a, hl, ha => by
    have hx : x < n := hl x (by simp)
    show srt lt l (insS lt x a) = srt lt' l (insS lt' x a)
    rw [insS_congr (fun y hy => h x y hx (ha y hy))]
    refine srt_congr n h l _ (fun y hy => hl y (by simp [hy])) fun y hy => ?_
    rcases mem_insS hy with rfl | hy
    · exact hx
    · exact ha y hy
/-- The order of keys. -/
def ltK (ks : List Int) (x y : Nat) : Bool := decide (ks.getD x 0 < ks.getD y 0)
/-- The indices of numbers, sorted. -/
def srtK (ks : List Int) (n : Nat) : List Nat := srt (ltK ks) (List.range n) []
theorem srtK_succ (ks : List Int) (n : Nat) : srtK ks (n + 1) = insS (ltK ks) n (srtK ks n) := by
  simp [srtK, srt, List.range_succ]
theorem srtK_length (ks : List Int) : ∀ n, (srtK ks n).length = n
  | 0 => rfl
  | n + 1 => by rw [srtK_succ, insS_length, srtK_length ks n]
theorem srtK_lt (ks : List Int) (n : Nat) : ∀ x ∈ srtK ks n, x < n := fun x hx => by
  rcases mem_srt _ _ hx with h | h
  · simpa using h
  · cases h
abbrev nInts (l : List Nat) : List Int := l.map fun (n : Nat) => (n : Int)
theorem seqL_key (l : List Od) (lt : Od → Od → Bool) (key : Od → Int) (h : ∀ x ∈ l, ∀ y ∈ l, lt x y = decide (key x < key y)) : seqL l lt = nInts (srtK (l.map key) l.length) := by
  have e : sortN l lt = (srtK (l.map key) l.length).toArray := by
    unfold sortN
    have h1 := sort_kit (ltN l lt) (List.range l.length)
    rw [List.length_range] at h1
    rw [h1]
    unfold srtK
    refine congrArg List.toArray (srt_congr l.length (fun x y hx hy => ?_) _ _ (fun x hx => by simpa using hx) (fun x hx => by cases hx))
    have o1 : oN l x = l[x] := by
      unfold oN
      rw [Nat.mod_eq_of_lt hx, List.getD_eq_getElem?_getD, List.getElem?_eq_getElem hx]
      rfl
    have o2 : oN l y = l[y] := by
      unfold oN
      rw [Nat.mod_eq_of_lt hy, List.getD_eq_getElem?_getD, List.getElem?_eq_getElem hy]
      rfl
    unfold ltN ltK
    rw [o1, o2, h _ (List.getElem_mem hx) _ (List.getElem_mem hy)]
    simp [hx, hy]
  unfold seqL
  rw [e]
  refine List.map_congr_left fun x hx => ?_
  rw [Nat.mod_eq_of_lt (srtK_lt _ _ x hx)]
end Go.Proofs.Ytdgenchlghojlaa
/-
  Contexts and contracts of functions, printed by gen.py.
-/
namespace Go.Proofs.Ytdgenchlghojlaa
open Go.V
set_option maxRecDepth 100000
/-- loop.example/g01054/spec.orSorted -/
@[reducible] noncomputable def c_spec_orSorted : Cx := { K := [.dat 2, .no, .dat 1, .dat 1, .dat 0, .dat 0, .dat 2, .dat 0, .dat 0, .dat 0, .dat 0, .dat 1, .dat 0, .dat 0, .dat 0, .dat 0, .dat 2, .dat 1, .dat 0, .dat 0, .dat 1, .dat 0, .dat 2, .dat 0, .dat 2, .dat 0, .dat 2, .dat 0, .dat 0, .dat 0, .dat 0, .dat 0, .own 1 0 false, .dat 1, .dat 0, .dat 1, .own 1 0 false, .dat 0, .dat 1, .own 1 0 false, .dat 1, .dat 0, .dat 1, .dat 1, .dat 0, .dat 1], T := [(3, ty3), (23, ty23)], S := [], H := [(0, ([0, 3, 7, 8], [3])), (2, ([0, 3, 4, 5, 7, 8], [0, 3, 4, 5, 7, 8]))], res := [.tmp 2], ios := [], G := gl0 }
noncomputable def F_spec_orSorted : List D → Option Out := denF c_spec_orSorted Try.f52
@[reducible] noncomputable def S_spec_orSorted : FS := { pm := [.dat 2], rm := [.dat 1], f := F_spec_orSorted }
theorem M_spec_orSorted : Meets gl0 Try.prog 52 S_spec_orSorted := meets_of (P := Try.prog) (c := c_spec_orSorted) (fn := Try.f52) (pm := S_spec_orSorted.pm) (rm := S_spec_orSorted.rm) (by kernel_rfl) lookNil follows_mixed Try.func52 (by kernel_rfl) (by kernel_rfl) rfl
/-- loop.example/g01054/spec.orByDue -/
@[reducible] noncomputable def c_spec_orByDue : Cx := { K := [.dat 2, .no, .dat 1, .own 1 0 false, .no, .box 4 0 false, .dat 2, .dat 0, .dat 0, .dat 0, .dat 2, .dat 0, .own 1 0 false, .ref 5, .dat 0, .dat 1, .own 1 0 false, .dat 0, .via 3, .dat 1], T := [(3, ty3), (23, ty23), (27, ty27), (45, ty45)], S := [(52, S_spec_orSorted)], H := [(0, ([3, 6, 7, 8], [3]))], res := [.tmp 2], ios := [], G := gl0 }
noncomputable def F_spec_orByDue : List D → Option Out := denF c_spec_orByDue Try.f49
@[reducible] noncomputable def S_spec_orByDue : FS := { pm := [.dat 2], rm := [.dat 1], f := F_spec_orByDue }
theorem M_spec_orByDue : Meets gl0 Try.prog 49 S_spec_orByDue := meets_of (P := Try.prog) (c := c_spec_orByDue) (fn := Try.f49) (pm := S_spec_orByDue.pm) (rm := S_spec_orByDue.rm) (by kernel_rfl) (lookCons M_spec_orSorted lookNil) follows_mixed Try.func49 (by kernel_rfl) (by kernel_rfl) rfl
/-- loop.example/g01054/spec.SequenceByDue -/
@[reducible] noncomputable def c_spec_SequenceByDue : Cx := { K := [.dat 2, .no, .dat 1, .dat 0, .dat 2, .dat 0, .dat 0, .dat 2, .dat 1], T := [(23, ty23)], S := [(48, S_spec_orGood), (49, S_spec_orByDue)], H := [], res := [.tmp 2, .tmp 3], ios := [], G := gl0 }
noncomputable def F_spec_SequenceByDue : List D → Option Out := denF c_spec_SequenceByDue Try.f27
@[reducible] noncomputable def S_spec_SequenceByDue : FS := { pm := [.dat 2], rm := [.dat 1, .dat 0], f := F_spec_SequenceByDue }
theorem M_spec_SequenceByDue : Meets gl0 Try.prog 27 S_spec_SequenceByDue := meets_of (P := Try.prog) (c := c_spec_SequenceByDue) (fn := Try.f27) (pm := S_spec_SequenceByDue.pm) (rm := S_spec_SequenceByDue.rm) (by kernel_rfl) (lookCons M_spec_orGood (lookCons M_spec_orByDue lookNil)) follows_mixed Try.func27 (by kernel_rfl) (by kernel_rfl) rfl
/-- loop.example/g01054/impl.byDue -/
@[reducible] noncomputable def c_impl_byDue : Cx := { K := [.dat 2, .no, .own 1 0 false, .dat 2, .own 1 0 false], T := [(23, ty23)], S := [(54, S_impl_sequenceOf)], H := [], res := [.tmp 2], ios := [], G := gl0 }
noncomputable def F_impl_byDue : List D → Option Out := denF c_impl_byDue Try.f51
@[reducible] noncomputable def S_impl_byDue : FS := { pm := [.dat 2], rm := [.own 1 0 false], f := F_impl_byDue }
theorem M_impl_byDue : Meets gl0 Try.prog 51 S_impl_byDue := meets_of (P := Try.prog) (c := c_impl_byDue) (fn := Try.f51) (pm := S_impl_byDue.pm) (rm := S_impl_byDue.rm) (by kernel_rfl) (lookCons M_impl_sequenceOf lookNil) follows_mixed Try.func51 (by kernel_rfl) (by kernel_rfl) rfl
/-- loop.example/g01054/impl.SequenceByDue -/
@[reducible] noncomputable def c_impl_SequenceByDue : Cx := { K := [.dat 2, .no, .own 1 0 false, .dat 0, .dat 2, .dat 0, .dat 0, .own 1 0 false, .dat 2, .own 1 0 false], T := [(3, ty3), (23, ty23)], S := [(50, S_impl_AreOrders), (51, S_impl_byDue)], H := [], res := [.tmp 2, .tmp 3], ios := [], G := gl0 }
noncomputable def F_impl_SequenceByDue : List D → Option Out := denF c_impl_SequenceByDue Try.f28
@[reducible] noncomputable def S_impl_SequenceByDue : FS := { pm := [.dat 2], rm := [.own 1 0 false, .dat 0], f := F_impl_SequenceByDue }
theorem M_impl_SequenceByDue : Meets gl0 Try.prog 28 S_impl_SequenceByDue := meets_of (P := Try.prog) (c := c_impl_SequenceByDue) (fn := Try.f28) (pm := S_impl_SequenceByDue.pm) (rm := S_impl_SequenceByDue.rm) (by kernel_rfl) (lookCons M_impl_AreOrders (lookCons M_impl_byDue lookNil)) follows_mixed Try.func28 (by kernel_rfl) (by kernel_rfl) rfl
/-- loop.example/g01054/laws.FnExactSequenceByDue -/
@[reducible] noncomputable def c_laws_FnExactSequenceByDue : Cx := { K := [.dat 2, .no, .dat 0, .dat 0, .dat 1, .dat 0, .via 26, .via 30, .dat 0, .dat 0, .dat 0, .dat 0, .dat 1, .dat 0, .dat 2, .dat 0, .dat 0, .dat 0, .dat 0, .tup [.dat 1, .dat 0], .dat 2, .dat 1, .tup [.dat 1, .dat 0], .dat 1, .dat 0, .dat 2, .own 4 0 false, .tup [.own 1 0 false, .dat 0], .via 26, .tup [.own 1 0 false, .dat 0], .own 1 0 false, .dat 0, .via 30, .dat 1, .dat 0, .dat 0, .dat 0, .dat 0, .dat 0, .dat 0, .dat 0, .via 26, .dat 2, .dat 1, .dat 0, .dat 0, .via 26, .dat 0, .dat 0, .dat 0, .dat 0, .dat 0, .via 30, .dat 1, .dat 0, .dat 0, .dat 0, .dat 0, .dat 0, .dat 0, .dat 0, .dat 0, .via 30, .dat 0, .dat 0, .via 30, .dat 0, .dat 0, .dat 0, .dat 0, .dat 0, .dat 0, .dat 0, .tup [.own 1 0 false, .dat 0], .dat 2, .dat 1, .tup [.own 1 0 false, .dat 0], .dat 1, .dat 0, .dat 1, .dat 1, .dat 0, .dat 0, .dat 0, .dat 0, .dat 0, .dat 0, .dat 0, .via 30, .dat 0, .dat 0, .dat 0, .dat 0, .dat 0, .dat 0, .dat 0], T := [(3, ty3), (4, ty4)], S := [(11, S_laws_szOrderS), (13, S_laws_toOrderS), (16, S_laws_eqOrderS), (17, S_laws_eqIntS), (22, S_laws_markOrderS), (23, S_laws_markIntS), (24, S_laws_heldIntS), (27, S_spec_SequenceByDue), (28, S_impl_SequenceByDue)], H := [], res := [.tmp 2], ios := [], G := gl0 }
noncomputable def F_laws_FnExactSequenceByDue : List D → Option Out := denF c_laws_FnExactSequenceByDue Try.f7
@[reducible] noncomputable def S_laws_FnExactSequenceByDue : FS := { pm := [.dat 2], rm := [.dat 0], f := F_laws_FnExactSequenceByDue }
theorem M_laws_FnExactSequenceByDue : Meets gl0 Try.prog 7 S_laws_FnExactSequenceByDue := meets_of (P := Try.prog) (c := c_laws_FnExactSequenceByDue) (fn := Try.f7) (pm := S_laws_FnExactSequenceByDue.pm) (rm := S_laws_FnExactSequenceByDue.rm) (by kernel_rfl) (lookCons M_laws_szOrderS (lookCons M_laws_toOrderS (lookCons M_laws_eqOrderS (lookCons M_laws_eqIntS (lookCons M_laws_markOrderS (lookCons M_laws_markIntS (lookCons M_laws_heldIntS (lookCons M_spec_SequenceByDue (lookCons M_impl_SequenceByDue lookNil))))))))) follows_mixed Try.func7 (by kernel_rfl) (by kernel_rfl) rfl
end Go.Proofs.Ytdgenchlghojlaa
/-
  What the functions compute: their evaluated texts, printed.
-/
namespace Go.Proofs.Ytdgenchlghojlaa
open Go Go.V
theorem t_spec_orSorted (x0 : D) : F_spec_orSorted [x0] =
  ((lenD false x0).bind fun z => (loopC (fun s => (bin BinOp.lss false [] (sl s 3) (sl s 2)).bind fun z => ifD z ((lenD false (sl s 1)).bind fun z => (loopC (fun s =>
 (bin BinOp.gtr false [] (sl s 3) (D.v (Value.int IntKind.i64 0))).bind fun z => (gate (D.tup []) z true (some (sl s 0))).bind fun z_1 => (gate (D.tup []) z true (some (sl s 1))).bind fun z_2 =>
 (gate (D.tup []) z true (some (sl s 3))).bind fun z_3 => (gate (D.tup []) z true (bin BinOp.sub false [] z_3 (D.v (Value.int IntKind.i64 1)))).bind fun z_4 =>
 (gate (D.tup []) z true (Option.map D.ptr (elemD 1 z_2 z_4))).bind fun z_5 => (gate (D.tup []) z true ((ldD false 1 z_5).bind chkV)).bind fun z_6 =>
 (gate (D.tup []) z true (Option.map D.ptr (elemD 1 z_1 z_6))).bind fun z_7 => (gate (D.tup []) z true ((ldD false 1 z_7).bind chkV)).bind fun z_8 => (gate (D.tup []) z true (some (sl s 0))).bind fun z_9 =>
 (gate (D.tup []) z true (some (sl s 2))).bind fun z_10 => (gate (D.tup []) z true (Option.map D.ptr (elemD 1 z_9 z_10))).bind fun z_11 => (gate (D.tup []) z true ((ldD false 1 z_11).bind chkV)).bind fun z_12 =>
 (gate (D.tup []) z true (bin BinOp.gtr false [] z_8 z_12)).bind fun z_13 => (pickD z z_13 (D.v (Value.bool false))).bind fun z => ifD z ((bin BinOp.sub false [] (sl s 3) (D.v (Value.int IntKind.i64 1))).bind fun z =>
 some (Out.nrm [sl s 0, sl s 1, sl s 2, z, sl s 4, sl s 5])) (some (Out.ext 2 [sl s 0, sl s 1, sl s 2, sl s 3, sl s 4, sl s 5]))) [sl s 0, sl s 1, sl s 3, z, sl s 2, sl s 3]).bind fun o => outK o (fun i s => ifN (i.beq 2)
 ((mkArr 1 []).bind fun a => (sliceD false 1 (sl s 1) (D.v (Value.int IntKind.i64 0)) (sl s 3)).bind fun z => (chkA z).bind fun b => (appD 1 8 a b).bind fun y => (mkArr 1 [sl s 2]).bind fun a => (chkA a).bind fun b =>
 (appD 1 8 y b).bind fun y => (sliceHi false 1 (sl s 1) (sl s 3)).bind fun z => (appD 1 8 y z).bind fun y => (bin BinOp.add false [] (sl s 5) (D.v (Value.int IntKind.i64 1))).bind
 fun z => some (Out.nrm [sl s 0, y, sl s 4, z])) (ifN (i.beq 1) ((bin BinOp.add false [] (sl s 5) (D.v (Value.int IntKind.i64 1))).bind fun z => some (Out.nrm [sl s 0, sl s 1, sl s 4, z])) (some (Out.ext i [sl s 1]))))
 fun a b => some (Out.ret a b)) (some (Out.ext 0 [sl s 1]))) [x0, D.arr 1 [], z, D.v (Value.int IntKind.i64 0)]).bind
 fun o => outK o (fun i s => ifN (i.beq 0) (some (Out.ret [sl s 0] [])) none) fun a b => some (Out.ret a b)) := by kernel_rfl
theorem t_spec_orByDue (x0 : D) : F_spec_orByDue [x0] =
  ((lenD false x0).bind fun z => (loopC (fun s => (bin BinOp.lss false [] (sl s 3) (sl s 2)).bind fun z => ifD z ((Option.map D.ptr (elemD 4 (sl s 1) (sl s 3))).bind fun z => ((ldD true 4 z).bind chkV).bind fun z => (stD 4
 (D.agg [D.v (Value.int IntKind.i64 0), D.v (Value.int IntKind.i64 0), D.v (Value.int IntKind.i64 0), D.v (Value.int IntKind.i64 0)]) (D.ref 0 0) z).bind fun b => (liveD b (D.ref 0 3)).bind fun z =>
 ((atD b z).bind (takeD false 1)).bind fun z => (mkArr 1 [z]).bind fun a => (chkA a).bind fun b => (appD 1 8 (sl s 0) b).bind fun y => (bin BinOp.add false [] (sl s 3) (D.v (Value.int IntKind.i64 1))).bind fun z =>
 some (Out.nrm [y, sl s 1, sl s 2, z])) (some (Out.ext 0 [sl s 0]))) [D.arr 1 [], x0, z, D.v (Value.int IntKind.i64 0)]).bind fun o => outK o (fun i s => ifN (i.beq 0) ((liveD (sl s 0) (D.ref 0 0)).bind fun z =>
 (liveD z (sl s 0)).bind fun i => callK (F_spec_orSorted [i]) fun rs _u => some (Out.ret [sl rs 0] [])) none) fun a b => some (Out.ret a b)) := by kernel_rfl
theorem t_spec_SequenceByDue (x0 : D) : F_spec_SequenceByDue [x0] =
  (callK (F_spec_orGood [x0]) fun rs _u => (un UnOp.not (sl rs 0)).bind fun z => ifD z (some (Out.ret [D.arr 1 [], D.v (Value.bool false)] []))
 (callK (F_spec_orByDue [x0]) fun rs _u => some (Out.ret [sl rs 0, D.v (Value.bool true)] []))) := by kernel_rfl
theorem t_impl_byDue (x0 : D) : F_impl_byDue [x0] =
  (callK (fSeq [x0, D.clo 70 []]) fun rs _u => some (Out.ret [sl rs 0] [])) := by kernel_rfl
theorem t_impl_SequenceByDue (x0 : D) : F_impl_SequenceByDue [x0] =
  (callK (F_impl_AreOrders [x0]) fun rs _u => (un UnOp.not (sl rs 0)).bind fun z => ifD z ((mkArr 1 []).bind fun a => some (Out.ret [a, D.v (Value.bool false)] []))
 (callK (F_impl_byDue [x0]) fun rs _u => some (Out.ret [sl rs 0, D.v (Value.bool true)] []))) := by kernel_rfl
theorem t_laws_FnExactSequenceByDue (x0 : D) : F_laws_FnExactSequenceByDue [x0] =
  (callK (F_laws_szOrderS [x0, D.v (Value.int IntKind.i64 1048576)]) fun rs _u => (bin BinOp.lss false [] (sl rs 0) (D.v (Value.int IntKind.i64 0))).bind fun z => ifD z (some (Out.ret [D.v (Value.bool true)] []))
 (callK (F_laws_toOrderS [x0]) fun rs _u => callK (F_spec_SequenceByDue [sl rs 0]) fun rs _u => (tupAt (D.tup rs) 0).bind fun z => (tupAt (D.tup rs) 1).bind fun z_1 => callK (F_laws_toOrderS [x0]) fun rs _u =>
 (liveD (sl rs 0) (D.ref 0 0)).bind fun z_2 => (liveD z_2 (D.ref 0 0)).bind fun z_3 => (liveD z_3 (sl rs 0)).bind fun i => callK (F_impl_SequenceByDue [i]) fun rs_1 _u => (tupAt (D.tup rs_1) 0).bind fun y =>
 (tupAt (tupCut (D.tup rs_1) 0) 1).bind fun z_4 => (liveD y (D.ref 0 0)).bind fun z_5 => (liveD z_5 (D.ref 0 0)).bind fun z_6 => (liveD z_6 y).bind fun i => callK (F_laws_eqIntS [i, z]) fun rs_2 _u =>
 (un UnOp.not (sl rs_2 0)).bind fun z_7 => (gate (D.tup []) z_7 false (some z_4)).bind fun z_8 => (gate (D.tup []) z_7 false (some z_1)).bind fun z_9 =>
 (gate (D.tup []) z_7 false (bin BinOp.neq true [] z_8 z_9)).bind fun z_10 => (pickD z_7 (D.v (Value.bool true)) z_10).bind fun z_11 => ifD z_11 (some (Out.ret [D.v (Value.bool false)] []))
 ((liveD z_2 (D.ref 0 0)).bind fun z_12 => callK (F_laws_toOrderS [x0]) fun rs_3 _u => (liveD z_12 (sl rs 0)).bind fun i => callK (F_laws_eqOrderS [i, sl rs_3 0]) fun rs_4 _u => (un UnOp.not (sl rs_4 0)).bind fun z_13 =>
 ifD z_13 (some (Out.ret [D.v (Value.bool false)] [])) ((liveD z_2 (D.ref 0 0)).bind fun z_14 => (ref0 z_14 (sl rs 0)).bind fun i => (liveD i i).bind fun i => callK (F_laws_markOrderS [i, D.v (Value.int IntKind.i64 1)])
 fun rs _u => (bin BinOp.lss false [] (sl rs 0) (D.v (Value.int IntKind.i64 0))).bind fun z_15 => (gate D.bad z_15 false (liveD z_5 (D.ref 0 0))).bind fun z_16 => (gate (D.tup []) z_15 false (some z)).bind fun z_17 =>
 gateC z_15 false ((liveD z_16 y).bind fun i => callK (F_laws_eqIntS [i, z_17]) fun rs _u => some (Out.nrm [sl rs 0])) [D.tup []] fun outs => (gate (D.tup []) z_15 false (un UnOp.not (sl outs 0))).bind fun z_18 =>
 (pickD z_15 (D.v (Value.bool true)) z_18).bind fun z_19 => (gate (D.tup []) z_19 false (some z_4)).bind fun z_20 => (gate (D.tup []) z_19 false (some z_1)).bind fun z_21 => (gate (D.tup []) z_19 false
 (bin BinOp.neq true [] z_20 z_21)).bind fun z_22 => (pickD z_19 (D.v (Value.bool true)) z_22).bind fun z_23 => ifD z_23 (some (Out.ret [D.v (Value.bool false)] [])) ((liveD z_5 (D.ref 0 0)).bind fun z_24 =>
 (ref0 z_24 y).bind fun i => (liveD i i).bind fun i => callK (F_laws_markIntS [i, D.v (Value.int IntKind.i64 1)]) fun rs us => (liveD z_5 (D.ref 0 0)).bind fun z_25 => (liveD z_25 (sl us 0)).bind fun i => callK
 (F_laws_heldIntS [i, D.v (Value.int IntKind.i64 1)]) fun rs_5 _u => (bin BinOp.lss false [] (sl rs_5 0) (D.v (Value.int IntKind.i64 0))).bind fun z_26 => ifD z_26 (some (Out.ret [D.v (Value.bool false)] [])) ((bin
 BinOp.neq false [] (sl rs_5 0) (sl rs 0)).bind fun z_27 => ifD z_27 (some (Out.ret [D.v (Value.bool false)] [])) (callK (F_laws_toOrderS [x0]) fun rs_6 _u => callK (F_impl_SequenceByDue [sl rs_6 0]) fun rs_7 _u => (tupAt
 (D.tup rs_7) 0).bind fun y => (tupAt (tupCut (D.tup rs_7) 0) 1).bind fun z_28 => callK (F_laws_eqIntS [y, z]) fun rs_8 _u => (un UnOp.not (sl rs_8 0)).bind fun z => (gate (D.tup []) z false (some z_28)).bind fun z_29 =>
 (gate (D.tup []) z false (some z_1)).bind fun z_30 => (gate (D.tup []) z false (bin BinOp.neq true [] z_29 z_30)).bind fun z_31 => (pickD z (D.v (Value.bool true)) z_31).bind fun z => ifD z (some (Out.ret [D.v (Value.bool
 false)] [])) ((liveD z_5 (D.ref 0 0)).bind fun z => (liveD z (sl us 0)).bind fun i => callK (F_laws_heldIntS [i, D.v (Value.int IntKind.i64 1)]) fun rs_9 _u => (bin BinOp.lss false [] (sl rs_9 0) (D.v (Value.int
 IntKind.i64 0))).bind fun z => ifD z (some (Out.ret [D.v (Value.bool false)] [])) ((bin BinOp.neq false [] (sl rs_9 0) (sl rs 0)).bind fun z => ifD z (some (Out.ret [D.v (Value.bool false)] [])) (some (Out.ret [D.v
 (Value.bool true)] []))))))))))) := by kernel_rfl
end Go.Proofs.Ytdgenchlghojlaa
/-
  Orders by their keys: what the functions compute.
-/
namespace Go.Proofs.Ytdgenchlghojlaa
open Go Go.Proofs Go.V
set_option linter.unusedSimpArgs false

theorem e_spec_orSorted (ks : List Int) (h : ks.length ≤ 8) : F_spec_orSorted [ints ks] = some (.ret [ints (nInts (srtK ks ks.length))] []) := by
  rw [t_spec_orSorted]
  simp only [lenD_arr, List.length_map, Option.bind_some]
  refine loop_bind (.ext 0 [ints (nInts (srtK ks ks.length))]) (loop_for ks.length (fun i => [ints ks, ints (nInts (srtK ks i)), I ks.length, I i]) _ (fun i hi => ?_) ?_ rfl rfl) ?_
  · have hlen := srtK_length ks i
    have hmem := srtK_lt ks i
    rw [srtK_succ]
    generalize srtK ks i = O at hlen hmem
    have hw : IntKind.i64.wrap ((i : Int) + 1) = (i : Int) + 1 := wrap_id (by omega) (by omega)
    simp -implicitDefEqProofs only [sl_zero, sl_succ, bin_lss, hi, Option.bind_some, ifD_B, decide_true, if_true, lenD_arr, List.length_map, hlen]
    rw [if_pos (by simp [hi])]
    refine loop_wf_bind (fun r => r = some (Out.nrm [ints ks, ints (nInts (insS (ltK ks) i O)), I (ks.length : Int), I ((i + 1 : Nat) : Int)])) (fun (k : Nat) => [ints ks, ints (nInts O), I (i : Int), I (k : Int), I (ks.length : Int), I (i : Int)]) (fun k => k ≤ i ∧ posG (ltK ks) i O k = posG (ltK ks) i O i) (fun k => k)
      (fun o => o = .ext 2 [ints ks, ints (nInts O), I (i : Int), I ((posG (ltK ks) i O i : Nat) : Int), I (ks.length : Int), I (i : Int)]) (fun k hk => ?_) i ⟨Nat.le_refl _, rfl⟩ rfl ?_
    · obtain ⟨hk, hp⟩ := hk
      cases k with
      | zero =>
        refine .inr ⟨_, ?_, rfl, rfl⟩
        rw [← hp]
        simp -implicitDefEqProofs [posG]
      | succ k =>
        have hko : k < O.length := by omega
        have hm := hmem _ (List.getElem_mem hko)
        have hm2 : O[k] < ks.length := by omega
        have hw2 : IntKind.i64.wrap (((k + 1 : Nat) : Int) - 1) = (k : Int) := by rw [wrap_id (by omega) (by omega)]; omega
        have hw3 : IntKind.i64.wrap (k : Int) = (k : Int) := wrap_id (by omega) (by omega)
        have hpos : (0 : Int) < ((k + 1 : Nat) : Int) := by omega
        have hps : posG (ltK ks) i O (k + 1) = if ltK ks i (O.getD k 0) = true then posG (ltK ks) i O k else k + 1 := rfl
        have hgd : O.getD k 0 = O[k] := by rw [List.getD_eq_getElem?_getD, List.getElem?_eq_getElem hko]; rfl
        rw [hgd] at hps
        have hlt : ltK ks i O[k] = decide (ks[i] < ks[O[k]]) := by simp [ltK, hi, hm2]
        by_cases hc : ks[i] < ks[O[k]]
        · refine .inl ⟨k, ?_, ⟨by omega, ?_⟩, Nat.lt_succ_self _⟩
          · simp -implicitDefEqProofs [hpos, hw2, hw3, hko, hm2, hi, hc]
          · rw [← hp, hps, hlt, if_pos (by simp [hc])]
        · refine .inr ⟨_, ?_, rfl, rfl⟩
          rw [← hp, hps, hlt, if_neg (by simp [hc])]
          simp -implicitDefEqProofs [hpos, hw2, hw3, hko, hm2, hi, hc]
    · rintro o rfl
      have hp := posG_le (ltK ks) i O i
      have hin : insS (ltK ks) i O = O.take (posG (ltK ks) i O i) ++ i :: O.drop (posG (ltK ks) i O i) := by rw [← hlen]; rfl
      rw [hin]
      generalize posG (ltK ks) i O i = p at hp
      have s1 : sliceD false 1 (ints (nInts O)) (I ((0 : Nat) : Int)) (I (p : Int)) = some (ints (nInts (O.take p))) := by
        have := sliceD_nat (z := 1) (l := (nInts O).map I) (i := 0) (j := p) (k := .i64) (k' := .i64) (Nat.zero_le _) (by simp; omega)
        rw [this]
        simp [List.map_take]
      have s2 : sliceHi false 1 (ints (nInts O)) (I (p : Int)) = some (ints (nInts (O.drop p))) := by
        have := sliceHi_nat (z := 1) (l := (nInts O).map I) (i := p) (k := .i64) (by simp; omega)
        rw [this]
        simp [List.map_drop]
      have a1 : appD 1 8 (ints []) (ints (nInts (O.take p))) = some (ints (nInts (O.take p))) := app_ints (l := []) (by simp; omega)
      have a2 : appD 1 8 (ints (nInts (O.take p))) (ints [(i : Int)]) = some (ints (nInts (O.take p) ++ [(i : Int)])) := app_ints (by simp; omega)
      have a3 : appD 1 8 (ints (nInts (O.take p) ++ [(i : Int)])) (ints (nInts (O.drop p))) = some (ints (nInts (O.take p) ++ [(i : Int)] ++ nInts (O.drop p))) := app_ints (by simp; omega)
      have c1 : ∀ l, chkA (ints l) = some (ints l) := fun l => chkA_map fun _ => rfl
      have m1 : mkArr 1 [] = some (ints []) := rfl
      have hb : (Nat.beq 2 2) = true := rfl
      simp -implicitDefEqProofs only [outK, sl_zero, sl_succ, hb, ifN_B, if_true, m1, one_int, c1, Option.bind_some]
      rw [show (D.v (Value.int IntKind.i64 0)) = I ((0 : Nat) : Int) from rfl, s1]
      simp -implicitDefEqProofs only [Option.bind_some, c1, a1, a2, s2, a3, bin_add, hw]
      simp [nInts]
  · simp
  · simp

theorem e_spec_orByDue (l : List Od) (h : l.length ≤ 8) : F_spec_orByDue [ods l] = some (.ret [ints (nInts (srtK (l.map fun x => x.2.2.2) l.length))] []) := by
  rw [t_spec_orByDue]
  simp only [lenD_arr, List.length_map, Option.bind_some]
  refine loop_bind (.ext 0 [ints (l.map fun x => x.2.2.2)]) (loop_for l.length (fun i => [ints ((l.map fun x => x.2.2.2).take i), ods l, I l.length, I i]) _ (fun i hi => ?_) ?_ rfl rfl) ?_
  · have hw : IntKind.i64.wrap ((i : Int) + 1) = (i : Int) + 1 := wrap_id (by omega) (by omega)
    have ha := app_ints (l := (l.map fun x => x.2.2.2).take i) (m := [l[i].2.2.2]) (by simp; omega)
    have ht : (l.map fun x => x.2.2.2).take (i + 1) = (l.map fun x => x.2.2.2).take i ++ [l[i].2.2.2] := by
      rw [List.take_succ_eq_append_getElem (by simpa using hi)]
      simp
    rw [ht]
    simp -implicitDefEqProofs [hi, hw, one_int, chk_int, ha, -appD_eq]
  · have ht : (l.map fun x => x.2.2.2).take l.length = l.map fun x => x.2.2.2 := List.take_of_length_le (by simp)
    rw [ht]
    simp
  · have := e_spec_orSorted (l.map fun x => x.2.2.2) (by simp; omega)
    rw [List.length_map] at this
    simp -implicitDefEqProofs [this]
/-- The orders by due times. -/
def dueR (l : List Od) : List Int := if goodO l = true then nInts (srtK (l.map fun x => x.2.2.2) l.length) else []
theorem goodO_len {l : List Od} (h : goodO l = true) : l.length ≤ 8 := by
  simp only [goodO, Bool.and_eq_true, decide_eq_true_eq] at h
  exact h.2
theorem dueR_len (l : List Od) : (dueR l).length ≤ l.length := by
  unfold dueR
  split
  · simp [srtK_length]
  · exact Nat.zero_le _
theorem e_impl_byDue (l : List Od) (h : l.length ≤ 8) : F_impl_byDue [ods l] = some (.ret [ints (nInts (srtK (l.map fun x => x.2.2.2) l.length))] []) := by
  rw [t_impl_byDue, ← seqL_key l dueLt (fun x => x.2.2.2) (fun _ _ _ _ => rfl)]
  simp -implicitDefEqProofs [fSeq, odsOf_map, h]
theorem e_spec_SequenceByDue (l : List Od) (hl : l.length ≤ 1048576) : F_spec_SequenceByDue [ods l] = some (.ret [ints (dueR l), B (goodO l)] []) := by
  rw [t_spec_SequenceByDue]
  unfold dueR
  cases ha : goodO l
  · simp -implicitDefEqProofs [e_spec_orGood l hl, ha]
  · simp -implicitDefEqProofs [e_spec_orGood l hl, ha, e_spec_orByDue l (goodO_len ha)]
theorem e_impl_SequenceByDue (l : List Od) (hl : l.length ≤ 1048576) : F_impl_SequenceByDue [ods l] = some (.ret [ints (dueR l), B (goodO l)] []) := by
  rw [t_impl_SequenceByDue]
  unfold dueR
  cases ha : goodO l
  · simp -implicitDefEqProofs [e_impl_AreOrders l hl, ha, mkArr_nil]
  · simp -implicitDefEqProofs [e_impl_AreOrders l hl, ha, e_impl_byDue l (goodO_len ha)]
theorem law_SequenceByDue (l : List Od) (_h : l.length ≤ 9223372036854775807) : F_laws_FnExactSequenceByDue [ods l] = some (.ret [B true] []) := by
  rw [t_laws_FnExactSequenceByDue]
  obtain ⟨m, h1, h2⟩ := e_laws_szOrderS l 1048576
  by_cases hm : m < 0
  · simp -implicitDefEqProofs [h1, hm]
  have h3 := h2 (by omega)
  rw [wrap_id (by omega) (by omega)] at h3
  have hl : l.length ≤ 1048576 := by omega
  have hn := dueR_len l
  have k1 := e_laws_markOrderS l 1 (by omega) (by omega) (by omega)
  have k3 := e_laws_markIntS (dueR l) 1 (by omega) (by omega) (by omega)
  have k4 := e_laws_heldIntS 1 (dueR l).length (by omega) (by omega) (by omega)
  have p1 : ¬ (1 + 4 * (l.length : Int) < 0) := by omega
  have p2 : ¬ (1 + ((dueR l).length : Int) < 0) := by omega
  simp -implicitDefEqProofs [h1, hm, e_laws_toOrderS l hl, e_spec_SequenceByDue l hl, e_impl_SequenceByDue l hl, e_laws_eqOrderS l (by omega), e_laws_eqIntS (dueR l) (by omega), k1, k3, k4, p1, p2]
end Go.Proofs.Ytdgenchlghojlaa
/-
  impl.FastestSequence: walked by hand, for what it hands back is read once more beside its return.
-/
namespace Go.Proofs.Ytdgenchlghojlaa
open Go Go.Proofs Go.V Go.RowKit
set_option linter.unusedSimpArgs false

theorem size1 {args : Array Value} {y : Value} (h : args.toList = [y]) : args = #[y] := by
  apply Array.ext'
  rw [h]
theorem seqL_in (l : List Od) (lt : Od → Od → Bool) : ∀ k ∈ seqL l lt, 0 ≤ k ∧ k < l.length := fun k hk => by
  obtain ⟨x, hx, rfl⟩ := List.mem_map.1 hk
  have hpos : 0 < l.length := by
    cases l with
    | nil =>
      have := size_sortN [] lt
      rw [Array.mem_toList_iff] at hx
      obtain ⟨i, hi, _⟩ := Array.mem_iff_getElem.1 hx
      rw [this] at hi
      exact absurd hi (Nat.not_lt_zero _)
    | cons => simp
  have := Nat.mod_lt x hpos
  omega
def fstR (l : List Od) : List Int := if goodO l = true then seqL l fstLt else []
def fstM (l : List Od) : Int := if goodO l = true then mostL (tms l (seqL l fstLt)) else 0
set_option maxRecDepth 100000 in
theorem call_AreOrders {w : World} {F : Nat → Prop} (l : List Od) (h : l.length ≤ 1048576) {y : Value} (hr : RepV w F (ods l) y) (hF : ∀ b, F b → b < w.heap.size) :
    Calls Try.prog 50 #[y] w fun e w' => e = .returned (.bool (goodO l)) ∧ Below w.heap.size w w' :=
  calls_flat1 (Go.Proofs.enters_of Try.func50 (by kernel_rfl) rfl) M_impl_AreOrders F_impl_AreOrders rfl (e_impl_AreOrders l h) rfl (F := F) gOk_nil
    (show ArgOk w _ _ (.dat 2) (ods l) y ∧ True from ⟨.inr hr, trivial⟩) hF
set_option maxRecDepth 100000 in
theorem call_greatest {w : World} {F : Nat → Prop} (l : List Int) (h : l.length ≤ 1048577) {y : Value} (hr : RepV w F (ints l) y) (hF : ∀ b, F b → b < w.heap.size) :
    Calls Try.prog 39 #[y] w fun e w' => e = .returned (.int .i64 (mostL l)) ∧ Below w.heap.size w w' :=
  calls_flat1 (Go.Proofs.enters_of Try.func39 (by kernel_rfl) rfl) M_impl_greatest F_impl_greatest rfl (e_impl_greatest l h) rfl (F := F) gOk_nil
    (show ArgOk w _ _ (.dat 2) (ints l) y ∧ True from ⟨.inr hr, trivial⟩) hF
set_option maxRecDepth 100000 in
theorem call_finished {w : World} {F : Nat → Prop} (l : List Od) (s : List Int) (hg : ∀ x ∈ l, isOd x = true) (hs : ∀ k ∈ s, 0 ≤ k ∧ k < l.length) (hl : s.length ≤ 8) {y z : Value} (h1 : RepV w F (ods l) y) (h2 : RepV w F (ints s) z) (hF : ∀ b, F b → b < w.heap.size) :
    Calls Try.prog 40 #[y, z] w fun e w' => ∃ v F', e = .returned v ∧ RepV w' F' (ints (tms l s)) v ∧ (∀ b, F' b → b < w'.heap.size) ∧ Below w.heap.size w w' := by
  refine (calls_of_meets' (ow := fun _ => none) (F := F) (ds := [ods l, ints s]) (rs := [ints (tms l s)]) (us := []) (args := #[y, z]) (Go.Proofs.enters_of Try.func40 (by kernel_rfl) rfl) M_impl_finished (e_impl_finished l s hg hs (by omega)) gOk_nil
    (show ArgOk w _ _ (.dat 2) (ods l) y ∧ ArgOk w _ _ (.dat 2) (ints s) z ∧ True from ⟨.inr h1, .inr h2, trivial⟩) (fun b hb => ⟨hF b hb, rfl⟩) (fun b i h => by cases h)).mono ?_
  rintro e w' ⟨v, rfl, F', R, vs, rfl, hp⟩
  have hl := hp.len
  obtain ⟨u, rfl⟩ := List.length_eq_one_iff.1 (hl.trans rfl)
  have h0 := hp.res 0
  rcases h0 with h0 | h0
  · cases h0
  refine ⟨u, _, rfl, OwnV_rep h0, fun b hb => ?_, ⟨hp.os, hp.tape, hp.output, hp.size, fun b hb => hp.keep b hb rfl⟩⟩
  rcases hb with hb | hb
  · exact hb.elim
  · exact (hp.rn b 0 hb.1).2

set_option maxHeartbeats 2000000 in
set_option maxRecDepth 1000000 in
theorem fast_walk (l : List Od) (h : l.length ≤ 1048576) (A : Option Addr) (c : Nat) (w : World) (F : Nat → Prop) (hr : RepV w F (ods l) (.slice A l.length c)) (hF : ∀ b, F b → b < w.heap.size)
    (hA : l ≠ [] → ∃ b o, A = some ⟨b, o, none⟩ ∧ F b ∧ ∀ (i : Nat) (x : Od), l[i]? = some x → CellsAt w b (o + i * 4) (cellsO x)) :
    Calls Try.prog 30 #[.slice A l.length c] w fun e w' => ∃ g cap cur, e = .returned (.tuple #[.slice (some ⟨g, 0, none⟩) (fstR l).length cap, .int .i64 (fstM l), .bool (goodO l)]) ∧ Below w.heap.size w w' ∧ w.heap.size ≤ g ∧
      w'.heap[g]? = some (.cells cur 3 (0, 0)) ∧ (fstR l).length ≤ cap ∧ cap ≤ cur.size ∧ ∀ (i : Nat) (u : Value), ((fstR l).map (Value.int .i64))[i]? = some u → cur[i]? = some u := by
  have hc1 := call_AreOrders l h hr hF
  go_enter Try.func30, Try.ntmps30
  cases hgd : goodO l
  · rw [hgd] at hc1
    go_wp2_with (go_at_call 50; refine hc1.mono ?_)
    rintro e w1 ⟨rfl, b1⟩
    go_wp2
    go_ret3
    have e1 : fstR l = [] := by simp [fstR, hgd]
    have e2 : fstM l = 0 := by simp [fstM, hgd]
    rw [e1, e2]
    exact ⟨w1.heap.size, 0, #[], rfl, b1.alloc b1.size _, b1.size, at_alloc _ rfl, Nat.le_refl _, Nat.le_refl _, fun i u hu => by simp at hu⟩
  · rw [hgd] at hc1
    have hl8 := goodO_len hgd
    have e1 : fstR l = seqL l fstLt := by simp [fstR, hgd]
    have e2 : fstM l = mostL (tms l (seqL l fstLt)) := by simp [fstM, hgd]
    have hsl := seqL_length l fstLt
    rw [e1, e2, hsl]
    go_wp2_with (go_at_call 50; refine hc1.mono ?_)
    rintro e w1 ⟨rfl, b1⟩
    have hc2 := seq_walk fst_walk l hl8 A c w1 (fun hne => by
      obtain ⟨b, o, h1, h2, h3⟩ := hA hne
      have hb := hF b h2
      exact ⟨b, o, h1, Nat.lt_of_lt_of_le hb b1.size, fun i x hx t u hu => (b1.cell (by exact hb)).trans (h3 i x hx t u hu)⟩)
    go_wp2_with (go_at_call 54; refine hc2.mono ?_)
    rintro e w2 ⟨g, cap, cur, rfl, b2, hgg, hcell, hcap, hcs, hrow⟩
    have b12 := b1.trans (b2.mono b1.size)
    have hg2 : g < w2.heap.size := (Array.getElem?_eq_some_iff.1 hcell).1
    have hrow' : ∀ (i : Nat) (u : Value), ((seqL l fstLt).map (Value.int .i64))[i]? = some u → cur[i]? = some u := fun i u hu => by
      refine hrow i u ?_
      rw [← hu]
      simp only [seqL, List.map_map]
      rfl
    have ho : OwnV w2 (fun _ => False) (fun b => b = g) 1 (ints (seqL l fstLt)) (.slice (some ⟨g, 0, none⟩) l.length cap) :=
      ⟨(seqL l fstLt).map I, rfl, fun x hx => by obtain ⟨s, _, rfl⟩ := List.mem_map.1 hx; rfl, .inr ⟨g, 0, cap, (seqL l fstLt).map (Value.int .i64), cur, _, by rw [List.length_map, hsl], by rw [List.length_map, hsl]; exact hcap, hcell, by omega, RepL_ints _, fun i u hu => by rw [Nat.zero_add]; exact hrow' i u hu, rfl⟩⟩
    have hr2 : RepV w2 (fun b => F b ∨ b = g) (ods l) (.slice A l.length c) := RepV_mono (fun b hb => .inl hb) (fun b hb => b12.block b (hF b hb)) hr
    have hs2 : RepV w2 (fun b => F b ∨ b = g) (ints (seqL l fstLt)) (.slice (some ⟨g, 0, none⟩) l.length cap) := RepV_mono (fun b hb => hb.elim False.elim (fun e => .inr e)) (fun _ _ => rfl) (OwnV_rep ho)
    have hc3 := call_finished l (seqL l fstLt) (goodO_all hgd).1 (seqL_in l fstLt) (by omega) hr2 hs2 (fun b hb => by
      rcases hb with hb | rfl
      · exact Nat.lt_of_lt_of_le (hF b hb) b12.size
      · exact hg2)
    go_wp2_with (go_at_call 40; refine hc3.mono ?_)
    rintro e w3 ⟨v, F3, rfl, h3, hF3, b3⟩
    have hc4 := call_greatest (tms l (seqL l fstLt)) (by rw [timesO_len]; omega) h3 hF3
    go_wp2_with (go_at_call 39; refine hc4.mono ?_)
    rintro e w4 ⟨rfl, b4⟩
    go_wp2
    go_ret3
    have b34 := b3.trans (b4.mono b3.size)
    exact ⟨g, cap, cur, rfl, b12.trans (b34.mono b12.size), Nat.le_trans b1.size hgg, (b34.block g hg2).trans hcell, hcap, hcs, hrow'⟩

theorem fstR_len (l : List Od) : (fstR l).length ≤ l.length := by
  unfold fstR
  split
  · rw [seqL_length]
    exact Nat.le_refl _
  · exact Nat.zero_le _
def fFast : List D → Option Out
  | [.arr _ ds] => (odsOf ds).bind fun l => if l.length ≤ 1048576 then some (.ret [ints (fstR l), I (fstM l), B (goodO l)] []) else none
  | _ => none
@[reducible] def S_impl_FastestSequence : FS := { pm := [.dat 2], rm := [.own 1 0 false, .dat 0, .dat 0], f := fFast }
set_option maxRecDepth 100000 in
theorem M_impl_FastestSequence : Meets gl0 Try.prog 30 S_impl_FastestSequence := by
  have he : ∀ args w, (callFunc 30 args).run Try.prog w = .ok (.enter 30 args) w := Go.Proofs.enters_of Try.func30 (by kernel_rfl) rfl
  refine meets_of_calls he fun ds rs us hd args w F ow hg ha hF _ => ?_
  obtain ⟨d, y, rfl, h2, h3⟩ := args_one ha
  replace hd : fFast [d] = some (.ret rs us) := hd
  unfold fFast at hd
  split at hd
  case h_2 => cases hd
  rename_i z ds e
  cases e
  obtain ⟨l, hl, hd'⟩ := Option.bind_eq_some_iff.1 hd
  clear hd
  split at hd'
  case isFalse => cases hd'
  rename_i hz
  cases hd'
  obtain rfl := odsOf_some _ _ hl
  rcases h3 with h3 | h3
  · cases h3
  replace h3 : RepV w F (.arr z (l.map od)) y := h3
  have h3' := h3
  simp only [RepV, RepC] at h3
  obtain ⟨A, c, us', hy, hc, hr, hz2, hA⟩ := h3
  simp only [List.cons.injEq, and_true] at hy
  subst hy
  rw [rep_ods l us' hr] at hA
  rw [size1 h2]
  rw [List.length_map] at hc h3' ⊢
  have hrep : RepV w F (ods l) (.slice A l.length c) := by
    simp only [RepV, RepC]
    refine ⟨A, c, us', by rw [List.length_map], by rw [List.length_map]; exact hc, hr, fun d hd => ?_, fun hne => ?_⟩
    · obtain ⟨x, _, rfl⟩ := List.mem_map.1 hd
      rfl
    · obtain ⟨b, o, h5, h6, h7⟩ := hA hne
      exact ⟨b, o, h5, h6, by rw [rep_ods l us' hr]; exact h7⟩
  refine (fast_walk l hz A c w F hrep (fun b hb => (hF b hb).1) (fun hne => ?_)).mono ?_
  · obtain ⟨b, o, rfl, h5, h6⟩ := hA (by simpa using hne)
    exact ⟨b, o, rfl, h5, cells_ods l o h6⟩
  · rintro e w' ⟨gg, cap, cur, rfl, hB, hgg, hcell, hcap, hcs, hrow⟩
    refine ⟨_, rfl, F, fun b => if b = gg then some 0 else none, [_, _, _], rfl, post_own _ hB hF (fun b j hb => ?_) rfl rfl rfl rfl fun j => ?_⟩
    · split at hb
      · rename_i e
        subst e
        exact ⟨hgg, (Array.getElem?_eq_some_iff.1 hcell).1⟩
      · cases hb
    · match j with
      | 0 =>
        refine .inr ⟨(fstR l).map I, rfl, fun x hx => ?_, .inr ⟨gg, 0, cap, (fstR l).map (Value.int .i64), cur, _, ?_, ?_, hcell, by omega, RepL_ints _, fun i u hu => ?_, by simp, hgg⟩⟩
        · obtain ⟨s, _, rfl⟩ := List.mem_map.1 hx
          rfl
        · rw [List.length_map]
          rfl
        · rw [List.length_map]
          exact hcap
        · rw [Nat.zero_add]
          exact hrow i u hu
      | 1 => exact .inr (RepV_v.2 ⟨rfl, rfl⟩)
      | 2 => exact .inr (RepV_v.2 ⟨rfl, rfl⟩)
      | j + 3 => exact .inl rfl
end Go.Proofs.Ytdgenchlghojlaa
/-
  Contexts and contracts of functions, printed by gen.py.
-/
namespace Go.Proofs.Ytdgenchlghojlaa
open Go.V
set_option maxRecDepth 100000
/-- loop.example/g01054/spec.orEnd -/
@[reducible] noncomputable def c_spec_orEnd : Cx := { K := [.dat 2, .dat 2, .no, .no, .dat 0, .dat 1, .dat 0, .tup [.own 1 0 false, .dat 0], .dat 2, .dat 2, .tup [.own 1 0 false, .dat 0], .dat 1, .dat 0, .dat 1, .dat 0, .dat 0, .dat 1, .dat 1, .dat 0, .dat 0, .dat 1, .dat 0], T := [(3, ty3), (23, ty23)], S := [(36, S_spec_orTimes)], H := [], res := [.tmp 4], ios := [], G := gl0 }
noncomputable def F_spec_orEnd : List D → Option Out := denF c_spec_orEnd Try.f53
@[reducible] noncomputable def S_spec_orEnd : FS := { pm := [.dat 2, .dat 2], rm := [.dat 0], f := F_spec_orEnd }
theorem M_spec_orEnd : Meets gl0 Try.prog 53 S_spec_orEnd := meets_of (P := Try.prog) (c := c_spec_orEnd) (fn := Try.f53) (pm := S_spec_orEnd.pm) (rm := S_spec_orEnd.rm) (by kernel_rfl) (lookCons M_spec_orTimes lookNil) follows_mixed Try.func53 (by kernel_rfl) (by kernel_rfl) rfl
/-- loop.example/g01054/spec.FastestSequence -/
@[reducible] noncomputable def c_spec_FastestSequence : Cx := { K := [.dat 2, .no, .dat 1, .dat 0, .dat 0, .own 1 0 false, .no, .box 4 0 false, .dat 1, .dat 2, .dat 0, .dat 0, .dat 2, .dat 0, .dat 0, .dat 0, .dat 2, .dat 0, .ref 7, .dat 0, .ref 7, .dat 0, .dat 0, .own 1 0 false, .ref 7, .dat 0, .dat 1, .own 1 0 false, .own 1 0 false, .ref 7, .dat 0, .dat 0, .dat 1, .own 1 0 false, .dat 0, .via 5, .dat 1, .dat 1, .dat 2, .dat 1, .dat 0], T := [(3, ty3), (23, ty23), (27, ty27), (45, ty45)], S := [(48, S_spec_orGood), (52, S_spec_orSorted), (53, S_spec_orEnd)], H := [(0, ([0, 5, 12, 13, 14], [0, 5]))], res := [.tmp 2, .tmp 3, .tmp 4], ios := [], G := gl0 }
noncomputable def F_spec_FastestSequence : List D → Option Out := denF c_spec_FastestSequence Try.f29
@[reducible] noncomputable def S_spec_FastestSequence : FS := { pm := [.dat 2], rm := [.dat 1, .dat 0, .dat 0], f := F_spec_FastestSequence }
theorem M_spec_FastestSequence : Meets gl0 Try.prog 29 S_spec_FastestSequence := meets_of (P := Try.prog) (c := c_spec_FastestSequence) (fn := Try.f29) (pm := S_spec_FastestSequence.pm) (rm := S_spec_FastestSequence.rm) (by kernel_rfl) (lookCons M_spec_orGood (lookCons M_spec_orSorted (lookCons M_spec_orEnd lookNil))) follows_mixed Try.func29 (by kernel_rfl) (by kernel_rfl) rfl
/-- loop.example/g01054/laws.FnExactFastestSequence -/
@[reducible] noncomputable def c_laws_FnExactFastestSequence : Cx := { K := [.dat 2, .no, .dat 0, .dat 0, .dat 1, .dat 0, .dat 0, .via 30, .via 34, .dat 0, .dat 0, .dat 0, .dat 0, .dat 0, .dat 1, .dat 0, .dat 0, .dat 2, .dat 0, .dat 0, .dat 0, .dat 0, .tup [.dat 1, .dat 0, .dat 0], .dat 2, .dat 1, .tup [.dat 1, .dat 0, .dat 0], .dat 1, .dat 0, .dat 0, .dat 2, .own 4 0 false, .tup [.own 1 0 false, .dat 0, .dat 0], .via 30, .tup [.own 1 0 false, .dat 0, .dat 0], .own 1 0 false, .dat 0, .dat 0, .via 34, .dat 1, .dat 0, .dat 0, .dat 0, .dat 0, .dat 0, .dat 0, .dat 0, .dat 0, .dat 0, .dat 0, .dat 0, .dat 0, .via 30, .dat 2, .dat 1, .dat 0, .dat 0, .via 30, .dat 0, .dat 0, .dat 0, .dat 0, .dat 0, .via 34, .dat 1, .dat 0, .dat 0, .dat 0, .dat 0, .dat 0, .dat 0, .dat 0, .dat 0, .dat 0, .dat 0, .dat 0, .dat 0, .dat 0, .via 34, .dat 0, .dat 0, .via 34, .dat 0, .dat 0, .dat 0, .dat 0, .dat 0, .dat 0, .dat 0, .tup [.own 1 0 false, .dat 0, .dat 0], .dat 2, .dat 1, .tup [.own 1 0 false, .dat 0, .dat 0], .dat 1, .dat 0, .dat 0, .dat 1, .dat 1, .dat 0, .dat 0, .dat 0, .dat 0, .dat 0, .dat 0, .dat 0, .dat 0, .dat 0, .dat 0, .dat 0, .dat 0, .via 34, .dat 0, .dat 0, .dat 0, .dat 0, .dat 0, .dat 0, .dat 0], T := [(3, ty3), (4, ty4)], S := [(11, S_laws_szOrderS), (13, S_laws_toOrderS), (16, S_laws_eqOrderS), (17, S_laws_eqIntS), (22, S_laws_markOrderS), (23, S_laws_markIntS), (24, S_laws_heldIntS), (29, S_spec_FastestSequence), (30, S_impl_FastestSequence)], H := [], res := [.tmp 2], ios := [], G := gl0 }
noncomputable def F_laws_FnExactFastestSequence : List D → Option Out := denF c_laws_FnExactFastestSequence Try.f8
@[reducible] noncomputable def S_laws_FnExactFastestSequence : FS := { pm := [.dat 2], rm := [.dat 0], f := F_laws_FnExactFastestSequence }
theorem M_laws_FnExactFastestSequence : Meets gl0 Try.prog 8 S_laws_FnExactFastestSequence := meets_of (P := Try.prog) (c := c_laws_FnExactFastestSequence) (fn := Try.f8) (pm := S_laws_FnExactFastestSequence.pm) (rm := S_laws_FnExactFastestSequence.rm) (by kernel_rfl) (lookCons M_laws_szOrderS (lookCons M_laws_toOrderS (lookCons M_laws_eqOrderS (lookCons M_laws_eqIntS (lookCons M_laws_markOrderS (lookCons M_laws_markIntS (lookCons M_laws_heldIntS (lookCons M_spec_FastestSequence (lookCons M_impl_FastestSequence lookNil))))))))) follows_mixed Try.func8 (by kernel_rfl) (by kernel_rfl) rfl
end Go.Proofs.Ytdgenchlghojlaa
/-
  What the functions compute: their evaluated texts, printed.
-/
namespace Go.Proofs.Ytdgenchlghojlaa
open Go Go.V
theorem t_spec_orEnd (x0 x1 : D) : F_spec_orEnd [x0, x1] =
  (callK (F_spec_orTimes [x0, x1]) fun rs _u => (tupAt (D.tup rs) 0).bind fun y => (tupAt (tupCut (D.tup rs) 0) 1).bind fun _u => (lenD false y).bind fun z =>
 (bin BinOp.eql false [] z (D.v (Value.int IntKind.i64 0))).bind fun z => ifD z (some (Out.ret [D.v (Value.int IntKind.i64 0)] [])) ((lenD false y).bind fun z =>
 (bin BinOp.sub false [] z (D.v (Value.int IntKind.i64 1))).bind fun z => (Option.map D.ptr (elemD 1 y z)).bind fun z => ((ldD false 1 z).bind chkV).bind fun z => some (Out.ret [z] []))) := by kernel_rfl
theorem t_spec_FastestSequence (x0 : D) : F_spec_FastestSequence [x0] =
  (callK (F_spec_orGood [x0]) fun rs _u => (un UnOp.not (sl rs 0)).bind fun z => ifD z (some (Out.ret [D.arr 1 [], D.v (Value.int IntKind.i64 0), D.v (Value.bool false)] [])) ((lenD false x0).bind fun z => (loopC (fun s =>
 (bin BinOp.lss false [] (sl s 4) (sl s 3)).bind fun z => ifD z ((Option.map D.ptr (elemD 4 (sl s 2) (sl s 4))).bind fun z => ((ldD true 4 z).bind chkV).bind fun z => (stD 4 (D.agg
 [D.v (Value.int IntKind.i64 0), D.v (Value.int IntKind.i64 0), D.v (Value.int IntKind.i64 0), D.v (Value.int IntKind.i64 0)]) (D.ref 0 0) z).bind fun b => (liveD b (D.ref 0 1)).bind fun z =>
 ((atD b z).bind (takeD false 1)).bind fun z => (liveD b (D.ref 0 2)).bind fun z_1 => ((atD b z_1).bind (takeD false 1)).bind fun z_2 => (bin BinOp.lss false [] z z_2).bind fun z => ifD z
 ((liveD b (D.ref 0 1)).bind fun z => ((atD b z).bind (takeD false 1)).bind fun z => (mkArr 1 [z]).bind fun a => (chkA a).bind fun b => (appD 1 8 (sl s 1) b).bind fun y =>
 (bin BinOp.add false [] (sl s 4) (D.v (Value.int IntKind.i64 1))).bind fun z => some (Out.nrm [sl s 0, y, sl s 2, sl s 3, z])) ((liveD b (D.ref 0 2)).bind fun z => ((atD b z).bind (takeD false 1)).bind fun z =>
 (bin BinOp.sub false [] (D.v (Value.int IntKind.i64 2000)) z).bind fun z => (mkArr 1 [z]).bind fun a => (chkA a).bind fun b => (appD 1 8 (sl s 1) b).bind fun y => (bin BinOp.add false [] (sl s 4)
 (D.v (Value.int IntKind.i64 1))).bind fun z => some (Out.nrm [sl s 0, y, sl s 2, sl s 3, z]))) (some (Out.ext 0 [sl s 0, sl s 1]))) [x0, D.arr 1 [], x0, z, D.v (Value.int IntKind.i64 0)]).bind fun o => outK o (fun i s =>
 ifN (i.beq 0) ((liveD (sl s 1) (D.ref 0 0)).bind fun z => (liveD z (sl s 1)).bind fun i => callK (F_spec_orSorted [i]) fun rs _u => callK (F_spec_orEnd [sl s 0, sl rs 0]) fun rs_1 _u =>
 some (Out.ret [sl rs 0, sl rs_1 0, D.v (Value.bool true)] [])) none) fun a b => some (Out.ret a b))) := by kernel_rfl
theorem t_laws_FnExactFastestSequence (x0 : D) : F_laws_FnExactFastestSequence [x0] =
  (callK (F_laws_szOrderS [x0, D.v (Value.int IntKind.i64 1048576)]) fun rs _u => (bin BinOp.lss false [] (sl rs 0) (D.v (Value.int IntKind.i64 0))).bind fun z => ifD z (some (Out.ret [D.v (Value.bool true)] []))
 (callK (F_laws_toOrderS [x0]) fun rs _u => callK (F_spec_FastestSequence [sl rs 0]) fun rs _u => (tupAt (D.tup rs) 0).bind fun z => (tupAt (D.tup rs) 1).bind fun z_1 => (tupAt (D.tup rs) 2).bind fun z_2 =>
 callK (F_laws_toOrderS [x0]) fun rs _u => (liveD (sl rs 0) (D.ref 0 0)).bind fun z_3 => (liveD z_3 (D.ref 0 0)).bind fun z_4 => (liveD z_4 (sl rs 0)).bind fun i => callK (fFast [i]) fun rs_1 _u =>
 (tupAt (D.tup rs_1) 0).bind fun y => (tupAt (tupCut (D.tup rs_1) 0) 1).bind fun z_5 => (tupAt (tupCut (D.tup rs_1) 0) 2).bind fun z_6 => (liveD y (D.ref 0 0)).bind fun z_7 => (liveD z_7 (D.ref 0 0)).bind fun z_8 =>
 (liveD z_8 y).bind fun i => callK (F_laws_eqIntS [i, z]) fun rs_2 _u => (un UnOp.not (sl rs_2 0)).bind fun z_9 => (gate (D.tup []) z_9 false (some z_5)).bind fun z_10 =>
 (gate (D.tup []) z_9 false (some z_1)).bind fun z_11 => (gate (D.tup []) z_9 false (bin BinOp.neq false [] z_10 z_11)).bind fun z_12 => (pickD z_9 (D.v (Value.bool true)) z_12).bind fun z_13 =>
 (gate (D.tup []) z_13 false (some z_6)).bind fun z_14 => (gate (D.tup []) z_13 false (some z_2)).bind fun z_15 => (gate (D.tup []) z_13 false (bin BinOp.neq true [] z_14 z_15)).bind fun z_16 =>
 (pickD z_13 (D.v (Value.bool true)) z_16).bind fun z_17 => ifD z_17 (some (Out.ret [D.v (Value.bool false)] [])) ((liveD z_3 (D.ref 0 0)).bind fun z_18 => callK (F_laws_toOrderS [x0]) fun rs_3 _u =>
 (liveD z_18 (sl rs 0)).bind fun i => callK (F_laws_eqOrderS [i, sl rs_3 0]) fun rs_4 _u => (un UnOp.not (sl rs_4 0)).bind fun z_19 => ifD z_19 (some (Out.ret [D.v (Value.bool false)] []))
 ((liveD z_3 (D.ref 0 0)).bind fun z_20 => (ref0 z_20 (sl rs 0)).bind fun i => (liveD i i).bind fun i => callK (F_laws_markOrderS [i, D.v (Value.int IntKind.i64 1)]) fun rs _u => (bin BinOp.lss false [] (sl rs 0) (D.v
 (Value.int IntKind.i64 0))).bind fun z_21 => (gate D.bad z_21 false (liveD z_7 (D.ref 0 0))).bind fun z_22 => (gate (D.tup []) z_21 false (some z)).bind fun z_23 => gateC z_21 false ((liveD z_22 y).bind fun i => callK
 (F_laws_eqIntS [i, z_23]) fun rs _u => some (Out.nrm [sl rs 0])) [D.tup []] fun outs => (gate (D.tup []) z_21 false (un UnOp.not (sl outs 0))).bind fun z_24 => (pickD z_21 (D.v (Value.bool true)) z_24).bind fun z_25 =>
 (gate (D.tup []) z_25 false (some z_5)).bind fun z_26 => (gate (D.tup []) z_25 false (some z_1)).bind fun z_27 => (gate (D.tup []) z_25 false (bin BinOp.neq false [] z_26 z_27)).bind fun z_28 => (pickD z_25 (D.v
 (Value.bool true)) z_28).bind fun z_29 => (gate (D.tup []) z_29 false (some z_6)).bind fun z_30 => (gate (D.tup []) z_29 false (some z_2)).bind fun z_31 => (gate (D.tup []) z_29 false (bin BinOp.neq true [] z_30
 z_31)).bind fun z_32 => (pickD z_29 (D.v (Value.bool true)) z_32).bind fun z_33 => ifD z_33 (some (Out.ret [D.v (Value.bool false)] [])) ((liveD z_7 (D.ref 0 0)).bind fun z_34 => (ref0 z_34 y).bind fun i => (liveD i
 i).bind fun i => callK (F_laws_markIntS [i, D.v (Value.int IntKind.i64 1)]) fun rs us => (liveD z_7 (D.ref 0 0)).bind fun z_35 => (liveD z_35 (sl us 0)).bind fun i => callK (F_laws_heldIntS [i, D.v (Value.int IntKind.i64
 1)]) fun rs_5 _u => (bin BinOp.lss false [] (sl rs_5 0) (D.v (Value.int IntKind.i64 0))).bind fun z_36 => ifD z_36 (some (Out.ret [D.v (Value.bool false)] [])) ((bin BinOp.neq false [] (sl rs_5 0) (sl rs 0)).bind fun
 z_37 => ifD z_37 (some (Out.ret [D.v (Value.bool false)] [])) (callK (F_laws_toOrderS [x0]) fun rs_6 _u => callK (fFast [sl rs_6 0]) fun rs_7 _u => (tupAt (D.tup rs_7) 0).bind fun y => (tupAt (tupCut (D.tup rs_7) 0)
 1).bind fun z_38 => (tupAt (tupCut (D.tup rs_7) 0) 2).bind fun z_39 => callK (F_laws_eqIntS [y, z]) fun rs_8 _u => (un UnOp.not (sl rs_8 0)).bind fun z => (gate (D.tup []) z false (some z_38)).bind fun z_40 => (gate
 (D.tup []) z false (some z_1)).bind fun z_41 => (gate (D.tup []) z false (bin BinOp.neq false [] z_40 z_41)).bind fun z_42 => (pickD z (D.v (Value.bool true)) z_42).bind fun z => (gate (D.tup []) z false (some z_39)).bind
 fun z_43 => (gate (D.tup []) z false (some z_2)).bind fun z_44 => (gate (D.tup []) z false (bin BinOp.neq true [] z_43 z_44)).bind fun z_45 => (pickD z (D.v (Value.bool true)) z_45).bind fun z => ifD z (some (Out.ret [D.v
 (Value.bool false)] [])) ((liveD z_7 (D.ref 0 0)).bind fun z => (liveD z (sl us 0)).bind fun i => callK (F_laws_heldIntS [i, D.v (Value.int IntKind.i64 1)]) fun rs_9 _u => (bin BinOp.lss false [] (sl rs_9 0) (D.v
 (Value.int IntKind.i64 0))).bind fun z => ifD z (some (Out.ret [D.v (Value.bool false)] [])) ((bin BinOp.neq false [] (sl rs_9 0) (sl rs 0)).bind fun z => ifD z (some (Out.ret [D.v (Value.bool false)] [])) (some (Out.ret
 [D.v (Value.bool true)] []))))))))))) := by kernel_rfl
end Go.Proofs.Ytdgenchlghojlaa
/-
  The fastest sequence: what the functions compute.
-/
namespace Go.Proofs.Ytdgenchlghojlaa
open Go Go.Proofs Go.V
set_option linter.unusedSimpArgs false

theorem e_spec_orEnd (l : List Od) (s : List Int) (hg : ∀ x ∈ l, isOd x = true) (hs : ∀ k ∈ s, 0 ≤ k ∧ k < l.length) (hl : s.length ≤ 8) : F_spec_orEnd [ods l, ints s] = some (.ret [I (mostL (tms l s))] []) := by
  rw [t_spec_orEnd, most_times hg hs]
  have he := e_spec_orTimes l s hg hs (by omega)
  by_cases hne : s = []
  · subst hne
    simp -implicitDefEqProofs [he, timesO]
  · obtain ⟨s', k, rfl⟩ : ∃ s' k, s = s' ++ [k] := ⟨s.dropLast, s.getLast hne, (List.dropLast_concat_getLast hne).symm⟩
    rw [timesO_snoc] at he
    have hlen := timesO_len l s' (0, 0, 0)
    have hl' : s'.length ≤ 7 := by simp at hl; omega
    generalize ((s' ++ [k]).foldl (runO l) (0, 0, 0)) = r at he
    generalize timesO l (0, 0, 0) s' = T at he hlen
    have hw : IntKind.i64.wrap ((T.length : Int)) = (T.length : Int) := wrap_id (by omega) (by omega)
    have hw1 : IntKind.i64.wrap ((T.length : Int) + 1 - 1) = (T.length : Int) := by rw [wrap_id (by omega) (by omega)]; omega
    have hz : ¬ ((T.length : Int) + 1 = 0) := by omega
    simp -implicitDefEqProofs [he, hw, hw1, hz]
def fstKey (x : Od) : Int := if x.2.1 < x.2.2.1 then x.2.1 else 2000 - x.2.2.1
theorem fst_key {a b : Od} (ha : isOd a = true) (hb : isOd b = true) : fstLt a b = decide (fstKey a < fstKey b) := by
  simp only [isOd, Bool.and_eq_true, decide_eq_true_eq] at ha hb
  unfold fstLt fstKey
  by_cases h1 : a.2.1 < a.2.2.1 <;> by_cases h2 : b.2.1 < b.2.2.1 <;> simp [h1, h2] <;> omega
theorem fstR_key (l : List Od) (h : goodO l = true) : fstR l = nInts (srtK (l.map fstKey) l.length) := by
  unfold fstR
  rw [if_pos h]
  have hg := (goodO_all h).1
  exact seqL_key l fstLt fstKey fun x hx y hy => fst_key (hg x hx) (hg y hy)
theorem e_spec_FastestSequence (l : List Od) (hl : l.length ≤ 1048576) : F_spec_FastestSequence [ods l] = some (.ret [ints (fstR l), I (fstM l), B (goodO l)] []) := by
  rw [t_spec_FastestSequence]
  cases ha : goodO l
  · simp -implicitDefEqProofs [e_spec_orGood l hl, ha, fstR, fstM]
  · have hg := (goodO_all ha).1
    have h8 := (goodO_all ha).2
    simp -implicitDefEqProofs only [e_spec_orGood l hl, ha, callK_ret, sl_zero, un_not, Bool.not_true, Option.bind_some, ifD_B, Bool.false_eq_true, if_false, lenD_arr, List.length_map]
    refine loop_bind (.ext 0 [ods l, ints (l.map fstKey)]) (loop_for l.length (fun i => [ods l, ints ((l.map fstKey).take i), ods l, I l.length, I i]) _ (fun i hi => ?_) ?_ rfl rfl) ?_
    · have hw : IntKind.i64.wrap ((i : Int) + 1) = (i : Int) + 1 := wrap_id (by omega) (by omega)
      have hax := app_ints (l := (l.map fstKey).take i) (m := [fstKey l[i]]) (by simp; omega)
      have ht : (l.map fstKey).take (i + 1) = (l.map fstKey).take i ++ [fstKey l[i]] := by
        rw [List.take_succ_eq_append_getElem (by simpa using hi)]
        simp
      have ho := hg l[i] (List.getElem_mem hi)
      simp only [isOd, Bool.and_eq_true, decide_eq_true_eq] at ho
      have hw2 : IntKind.i64.wrap (2000 - l[i].2.2.1) = 2000 - l[i].2.2.1 := wrap_id (by omega) (by omega)
      rw [ht]
      by_cases hc : l[i].2.1 < l[i].2.2.1
      · have hk : fstKey l[i] = l[i].2.1 := by simp [fstKey, hc]
        rw [hk] at hax ⊢
        simp -implicitDefEqProofs [hi, hw, one_int, chk_int, hax, -appD_eq, hc]
      · have hk : fstKey l[i] = 2000 - l[i].2.2.1 := by simp [fstKey, hc]
        rw [hk] at hax ⊢
        simp -implicitDefEqProofs [hi, hw, hw2, one_int, chk_int, hax, -appD_eq, hc]
    · have ht : (l.map fstKey).take l.length = l.map fstKey := List.take_of_length_le (by simp)
      rw [ht]
      simp
    · have h1 := e_spec_orSorted (l.map fstKey) (by simp; omega)
      rw [List.length_map, ← fstR_key l ha] at h1
      have hr : fstR l = seqL l fstLt := by simp [fstR, ha]
      have h2 := e_spec_orEnd l (fstR l) hg (by rw [hr]; exact seqL_in l fstLt) (by have := fstR_len l; omega)
      have hm : fstM l = mostL (tms l (fstR l)) := by rw [hr]; simp [fstM, ha]
      rw [← hm] at h2
      simp -implicitDefEqProofs [h1, h2]
theorem e_fFast (l : List Od) (hl : l.length ≤ 1048576) : fFast [ods l] = some (.ret [ints (fstR l), I (fstM l), B (goodO l)] []) := by
  simp [fFast, odsOf_map, hl]
theorem law_FastestSequence (l : List Od) (_h : l.length ≤ 9223372036854775807) : F_laws_FnExactFastestSequence [ods l] = some (.ret [B true] []) := by
  rw [t_laws_FnExactFastestSequence]
  obtain ⟨m, h1, h2⟩ := e_laws_szOrderS l 1048576
  by_cases hm : m < 0
  · simp -implicitDefEqProofs [h1, hm]
  have h3 := h2 (by omega)
  rw [wrap_id (by omega) (by omega)] at h3
  have hl : l.length ≤ 1048576 := by omega
  have hn := fstR_len l
  have k1 := e_laws_markOrderS l 1 (by omega) (by omega) (by omega)
  have k3 := e_laws_markIntS (fstR l) 1 (by omega) (by omega) (by omega)
  have k4 := e_laws_heldIntS 1 (fstR l).length (by omega) (by omega) (by omega)
  have p1 : ¬ (1 + 4 * (l.length : Int) < 0) := by omega
  have p2 : ¬ (1 + ((fstR l).length : Int) < 0) := by omega
  simp -implicitDefEqProofs [h1, hm, e_laws_toOrderS l hl, e_spec_FastestSequence l hl, e_fFast l hl, e_laws_eqOrderS l (by omega), e_laws_eqIntS (fstR l) (by omega), k1, k3, k4, p1, p2]
end Go.Proofs.Ytdgenchlghojlaa
