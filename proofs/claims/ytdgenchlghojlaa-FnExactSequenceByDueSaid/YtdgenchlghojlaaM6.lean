/-
  The library's insertion sort and the reference's: plain facts.
-/
import Derived.Test.YtdgenchlghojlaaRows
import Derived.Test.YtdgenchlghojlaaM5
namespace Go.Proofs.Ytdgenchlghojlaa
open Go Go.Proofs Go.V Go.Sort
set_option linter.unusedSimpArgs false

/-- Where a number comes to stand, from a place on backwards. -/
def posG (lt : Nat → Nat → Bool) (x : Nat) (A : List Nat) : Nat → Nat
  | 0 => 0
  | k + 1 => if lt x (A.getD k 0) = true then posG lt x A k else k + 1
def insS (lt : Nat → Nat → Bool) (x : Nat) (A : List Nat) : List Nat := A.take (posG lt x A A.length) ++ x :: A.drop (posG lt x A A.length)
def srt (lt : Nat → Nat → Bool) (l a : List Nat) : List Nat := l.foldl (fun o x => insS lt x o) a
theorem posG_le (lt : Nat → Nat → Bool) (x : Nat) (A : List Nat) : ∀ k, posG lt x A k ≤ k
  | 0 => Nat.le_refl _
  | k + 1 => by
    unfold posG
    split
    · exact Nat.le_succ_of_le (posG_le lt x A k)
    · exact Nat.le_refl _
theorem posG_app (lt : Nat → Nat → Bool) (x y : Nat) (A : List Nat) : ∀ k, k ≤ A.length → posG lt x (A ++ [y]) k = posG lt x A k
  | 0, _ => rfl
  | k + 1, h => by
    have e : (A ++ [y]).getD k 0 = A.getD k 0 := by
      rw [List.getD_eq_getElem?_getD, List.getD_eq_getElem?_getD, List.getElem?_append_left (by omega)]
    unfold posG
    rw [e, posG_app lt x y A k (by omega)]
theorem getD_last (A : List Nat) (y : Nat) : (A ++ [y]).getD A.length 0 = y := by simp
theorem insS_lt {lt : Nat → Nat → Bool} {x y : Nat} (A : List Nat) (h : lt x y = true) : insS lt x (A ++ [y]) = insS lt x A ++ [y] := by
  have e : posG lt x (A ++ [y]) (A ++ [y]).length = posG lt x A A.length := by
    rw [List.length_append]
    have hs : posG lt x (A ++ [y]) (A.length + 1) = if lt x ((A ++ [y]).getD A.length 0) = true then posG lt x (A ++ [y]) A.length else A.length + 1 := rfl
    show posG lt x (A ++ [y]) (A.length + 1) = _
    rw [hs, getD_last, if_pos h, posG_app _ _ _ _ _ (Nat.le_refl _)]
  have hp := posG_le lt x A A.length
  unfold insS
  rw [e, List.take_append_of_le_length hp, List.drop_append_of_le_length hp, List.append_assoc, List.cons_append]
theorem insS_ge {lt : Nat → Nat → Bool} {x y : Nat} (A : List Nat) (h : lt x y = false) : insS lt x (A ++ [y]) = A ++ [y, x] := by
  have e : posG lt x (A ++ [y]) (A ++ [y]).length = (A ++ [y]).length := by
    rw [List.length_append]
    have hs : posG lt x (A ++ [y]) (A.length + 1) = if lt x ((A ++ [y]).getD A.length 0) = true then posG lt x (A ++ [y]) A.length else A.length + 1 := rfl
    show posG lt x (A ++ [y]) (A.length + 1) = A.length + 1
    rw [hs, getD_last, if_neg (by rw [h]; exact Bool.false_ne_true)]
  unfold insS
  rw [e, List.take_of_length_le (Nat.le_refl _), List.drop_of_length_le (Nat.le_refl _), List.append_assoc]
  rfl
theorem insS_length (lt : Nat → Nat → Bool) (x : Nat) (A : List Nat) : (insS lt x A).length = A.length + 1 := by
  have hp := posG_le lt x A A.length
  unfold insS
  simp
  omega
theorem swp_last (A B : List Nat) (y x : Nat) : swp (A ++ [y] ++ x :: B).toArray (A.length + 1) A.length = (A ++ x :: y :: B).toArray := by
  have e1 : (A ++ [y] ++ x :: B).toArray[A.length + 1]! = x := by simp
  have e2 : (A ++ [y] ++ x :: B).toArray[A.length]! = y := by simp
  unfold swp
  rw [e1, e2]
  simp
theorem ins_kit (lt : Nat → Nat → Bool) (x : Nat) : ∀ (n : Nat) (A B : List Nat), A.length = n → insInner lt 0 n (A ++ x :: B).toArray = (insS lt x A ++ B).toArray
  | 0, A, B, h => by
    have h0 : A = [] := List.eq_nil_of_length_eq_zero h
    subst h0
    rw [insInner]
    rfl
  | n + 1, A, B, h => by
    have hne : A ≠ [] := fun e => by rw [e] at h; cases h
    obtain ⟨A', y, rfl⟩ : ∃ A' y, A = A' ++ [y] := ⟨A.dropLast, A.getLast hne, (List.dropLast_concat_getLast hne).symm⟩
    have hn : A'.length = n := by simpa using h
    have e1 : (A' ++ [y] ++ x :: B).toArray[n + 1]! = x := by rw [← hn]; simp
    have e2 : (A' ++ [y] ++ x :: B).toArray[n + 1 - 1]! = y := by rw [← hn]; simp
    cases hl : lt x y
    · rw [insInner_stop lt 0 (n + 1) _ (.inr (by rw [e1, e2]; exact hl)), insS_ge A' hl]
      simp
    · rw [insInner_go lt 0 (n + 1) _ (Nat.succ_pos n) (by rw [e1, e2]; exact hl), insS_lt A' hl, Nat.add_sub_cancel]
      rw [← hn, swp_last, hn, ins_kit lt x n A' (y :: B) hn]
      simp
theorem out_kit (lt : Nat → Nat → Bool) (n : Nat) : ∀ (r a : List Nat), a.length + r.length = n → insOuter lt 0 n a.length (a ++ r).toArray = (srt lt r a).toArray
  | [], a, h => by
    rw [insOuter_stop lt 0 n a.length _ (by simp at h; omega)]
    simp [srt]
  | x :: r, a, h => by
    simp only [List.length_cons] at h
    rw [insOuter_go lt 0 n a.length _ (by omega), ins_kit lt x a.length a r rfl]
    have := out_kit lt n r (insS lt x a) (by rw [insS_length]; omega)
    rw [insS_length] at this
    rw [this]
    rfl
theorem sort_kit (lt : Nat → Nat → Bool) (l : List Nat) : Sort.insertionSort lt l.toArray 0 l.length = (srt lt l []).toArray := by
  unfold Sort.insertionSort
  cases l with
  | nil => rw [insOuter_stop _ _ _ _ _ (by simp)]; rfl
  | cons x r => exact out_kit lt (x :: r).length r [x] (by simp; omega)
theorem mem_insS {lt : Nat → Nat → Bool} {x y : Nat} {A : List Nat} (h : y ∈ insS lt x A) : y = x ∨ y ∈ A := by
  unfold insS at h
  rcases List.mem_append.1 h with h | h
  · exact .inr (List.mem_of_mem_take h)
  · rcases List.mem_cons.1 h with h | h
    · exact .inl h
    · exact .inr (List.mem_of_mem_drop h)
theorem mem_srt {lt : Nat → Nat → Bool} {y : Nat} : ∀ (l a : List Nat), y ∈ srt lt l a → y ∈ l ∨ y ∈ a
  | [], a, h => .inr h
  | x :: l, a, h => by
    rcases mem_srt l (insS lt x a) h with h | h
    · exact .inl (by simp [h])
    · rcases mem_insS h with rfl | h
      · exact .inl (by simp)
      · exact .inr h
theorem posG_congr {lt lt' : Nat → Nat → Bool} {x : Nat} {A : List Nat} (h : ∀ y ∈ A, lt x y = lt' x y) : ∀ k, k ≤ A.length → posG lt x A k = posG lt' x A k
  | 0, _ => rfl
  | k + 1, hk => by
    have hm : A.getD k 0 ∈ A := by
      rw [List.getD_eq_getElem?_getD, List.getElem?_eq_getElem (by omega)]
      exact List.getElem_mem _
    unfold posG
    rw [h _ hm, posG_congr h k (by omega)]
theorem insS_congr {lt lt' : Nat → Nat → Bool} {x : Nat} {A : List Nat} (h : ∀ y ∈ A, lt x y = lt' x y) : insS lt x A = insS lt' x A := by
  unfold insS
  rw [posG_congr h _ (Nat.le_refl _)]
theorem srt_congr {lt lt' : Nat → Nat → Bool} (n : Nat) (h : ∀ x y, x < n → y < n → lt x y = lt' x y) : ∀ (l a : List Nat), (∀ x ∈ l, x < n) → (∀ x ∈ a, x < n) → srt lt l a = srt lt' l a
  | [], _, _, _ => rfl
  | x :: l, a, hl, ha => by
    have hx : x < n := hl x (by simp)
    show srt lt l (insS lt x a) = srt lt' l (insS lt' x a)
    rw [insS_congr (fun y hy => h x y hx (ha y hy))]
    refine srt_congr n h l _ (fun y hy => hl y (by simp [hy])) fun y hy => ?_
    rcases mem_insS hy with rfl | hy
    · exact hx
    · exact ha y hy
/-- The order of keys. -/
def ltK (ks : List Int) (x y : Nat) : Bool := decide (ks.getD x 0 < ks.getD y 0)
/-- The indices of numbers, sorted. -/
def srtK (ks : List Int) (n : Nat) : List Nat := srt (ltK ks) (List.range n) []
theorem srtK_succ (ks : List Int) (n : Nat) : srtK ks (n + 1) = insS (ltK ks) n (srtK ks n) := by
  simp [srtK, srt, List.range_succ]
theorem srtK_length (ks : List Int) : ∀ n, (srtK ks n).length = n
  | 0 => rfl
  | n + 1 => by rw [srtK_succ, insS_length, srtK_length ks n]
theorem srtK_lt (ks : List Int) (n : Nat) : ∀ x ∈ srtK ks n, x < n := fun x hx => by
  rcases mem_srt _ _ hx with h | h
  · simpa using h
  · cases h
abbrev nInts (l : List Nat) : List Int := l.map fun (n : Nat) => (n : Int)
theorem seqL_key (l : List Od) (lt : Od → Od → Bool) (key : Od → Int) (h : ∀ x ∈ l, ∀ y ∈ l, lt x y = decide (key x < key y)) : seqL l lt = nInts (srtK (l.map key) l.length) := by
  have e : sortN l lt = (srtK (l.map key) l.length).toArray := by
    unfold sortN
    have h1 := sort_kit (ltN l lt) (List.range l.length)
    rw [List.length_range] at h1
    rw [h1]
    unfold srtK
    refine congrArg List.toArray (srt_congr l.length (fun x y hx hy => ?_) _ _ (fun x hx => by simpa using hx) (fun x hx => by cases hx))
    have o1 : oN l x = l[x] := by
      unfold oN
      rw [Nat.mod_eq_of_lt hx, List.getD_eq_getElem?_getD, List.getElem?_eq_getElem hx]
      rfl
    have o2 : oN l y = l[y] := by
      unfold oN
      rw [Nat.mod_eq_of_lt hy, List.getD_eq_getElem?_getD, List.getElem?_eq_getElem hy]
      rfl
    unfold ltN ltK
    rw [o1, o2, h _ (List.getElem_mem hx) _ (List.getElem_mem hy)]
    simp [hx, hy]
  unfold seqL
  rw [e]
  refine List.map_congr_left fun x hx => ?_
  rw [Nat.mod_eq_of_lt (srtK_lt _ _ x hx)]
end Go.Proofs.Ytdgenchlghojlaa
/-
  Contexts and contracts of functions, printed by gen.py.
-/
namespace Go.Proofs.Ytdgenchlghojlaa
open Go.V
set_option maxRecDepth 100000
/-- loop.example/g01054/spec.orSorted -/
@[reducible] noncomputable def c_spec_orSorted : Cx := { K := [.dat 2, .no, .dat 1, .dat 1, .dat 0, .dat 0, .dat 2, .dat 0, .dat 0, .dat 0, .dat 0, .dat 1, .dat 0, .dat 0, .dat 0, .dat 0, .dat 2, .dat 1, .dat 0, .dat 0, .dat 1, .dat 0, .dat 2, .dat 0, .dat 2, .dat 0, .dat 2, .dat 0, .dat 0, .dat 0, .dat 0, .dat 0, .own 1 0 false, .dat 1, .dat 0, .dat 1, .own 1 0 false, .dat 0, .dat 1, .own 1 0 false, .dat 1, .dat 0, .dat 1, .dat 1, .dat 0, .dat 1], T := [(3, ty3), (23, ty23)], S := [], H := [(0, ([0, 3, 7, 8], [3])), (2, ([0, 3, 4, 5, 7, 8], [0, 3, 4, 5, 7, 8]))], res := [.tmp 2], ios := [], G := gl0 }
noncomputable def F_spec_orSorted : List D → Option Out := denF c_spec_orSorted Try.f52
@[reducible] noncomputable def S_spec_orSorted : FS := { pm := [.dat 2], rm := [.dat 1], f := F_spec_orSorted }
theorem M_spec_orSorted : Meets gl0 Try.prog 52 S_spec_orSorted := meets_of (P := Try.prog) (c := c_spec_orSorted) (fn := Try.f52) (pm := S_spec_orSorted.pm) (rm := S_spec_orSorted.rm) (by kernel_rfl) lookNil follows_mixed Try.func52 (by kernel_rfl) (by kernel_rfl) rfl
/-- loop.example/g01054/spec.orByDue -/
@[reducible] noncomputable def c_spec_orByDue : Cx := { K := [.dat 2, .no, .dat 1, .own 1 0 false, .no, .box 4 0 false, .dat 2, .dat 0, .dat 0, .dat 0, .dat 2, .dat 0, .own 1 0 false, .ref 5, .dat 0, .dat 1, .own 1 0 false, .dat 0, .via 3, .dat 1], T := [(3, ty3), (23, ty23), (27, ty27), (45, ty45)], S := [(52, S_spec_orSorted)], H := [(0, ([3, 6, 7, 8], [3]))], res := [.tmp 2], ios := [], G := gl0 }
noncomputable def F_spec_orByDue : List D → Option Out := denF c_spec_orByDue Try.f49
@[reducible] noncomputable def S_spec_orByDue : FS := { pm := [.dat 2], rm := [.dat 1], f := F_spec_orByDue }
theorem M_spec_orByDue : Meets gl0 Try.prog 49 S_spec_orByDue := meets_of (P := Try.prog) (c := c_spec_orByDue) (fn := Try.f49) (pm := S_spec_orByDue.pm) (rm := S_spec_orByDue.rm) (by kernel_rfl) (lookCons M_spec_orSorted lookNil) follows_mixed Try.func49 (by kernel_rfl) (by kernel_rfl) rfl
/-- loop.example/g01054/spec.SequenceByDue -/
@[reducible] noncomputable def c_spec_SequenceByDue : Cx := { K := [.dat 2, .no, .dat 1, .dat 0, .dat 2, .dat 0, .dat 0, .dat 2, .dat 1], T := [(23, ty23)], S := [(48, S_spec_orGood), (49, S_spec_orByDue)], H := [], res := [.tmp 2, .tmp 3], ios := [], G := gl0 }
noncomputable def F_spec_SequenceByDue : List D → Option Out := denF c_spec_SequenceByDue Try.f27
@[reducible] noncomputable def S_spec_SequenceByDue : FS := { pm := [.dat 2], rm := [.dat 1, .dat 0], f := F_spec_SequenceByDue }
theorem M_spec_SequenceByDue : Meets gl0 Try.prog 27 S_spec_SequenceByDue := meets_of (P := Try.prog) (c := c_spec_SequenceByDue) (fn := Try.f27) (pm := S_spec_SequenceByDue.pm) (rm := S_spec_SequenceByDue.rm) (by kernel_rfl) (lookCons M_spec_orGood (lookCons M_spec_orByDue lookNil)) follows_mixed Try.func27 (by kernel_rfl) (by kernel_rfl) rfl
/-- loop.example/g01054/impl.byDue -/
@[reducible] noncomputable def c_impl_byDue : Cx := { K := [.dat 2, .no, .own 1 0 false, .dat 2, .own 1 0 false], T := [(23, ty23)], S := [(54, S_impl_sequenceOf)], H := [], res := [.tmp 2], ios := [], G := gl0 }
noncomputable def F_impl_byDue : List D → Option Out := denF c_impl_byDue Try.f51
@[reducible] noncomputable def S_impl_byDue : FS := { pm := [.dat 2], rm := [.own 1 0 false], f := F_impl_byDue }
theorem M_impl_byDue : Meets gl0 Try.prog 51 S_impl_byDue := meets_of (P := Try.prog) (c := c_impl_byDue) (fn := Try.f51) (pm := S_impl_byDue.pm) (rm := S_impl_byDue.rm) (by kernel_rfl) (lookCons M_impl_sequenceOf lookNil) follows_mixed Try.func51 (by kernel_rfl) (by kernel_rfl) rfl
/-- loop.example/g01054/impl.SequenceByDue -/
@[reducible] noncomputable def c_impl_SequenceByDue : Cx := { K := [.dat 2, .no, .own 1 0 false, .dat 0, .dat 2, .dat 0, .dat 0, .own 1 0 false, .dat 2, .own 1 0 false], T := [(3, ty3), (23, ty23)], S := [(50, S_impl_AreOrders), (51, S_impl_byDue)], H := [], res := [.tmp 2, .tmp 3], ios := [], G := gl0 }
noncomputable def F_impl_SequenceByDue : List D → Option Out := denF c_impl_SequenceByDue Try.f28
@[reducible] noncomputable def S_impl_SequenceByDue : FS := { pm := [.dat 2], rm := [.own 1 0 false, .dat 0], f := F_impl_SequenceByDue }
theorem M_impl_SequenceByDue : Meets gl0 Try.prog 28 S_impl_SequenceByDue := meets_of (P := Try.prog) (c := c_impl_SequenceByDue) (fn := Try.f28) (pm := S_impl_SequenceByDue.pm) (rm := S_impl_SequenceByDue.rm) (by kernel_rfl) (lookCons M_impl_AreOrders (lookCons M_impl_byDue lookNil)) follows_mixed Try.func28 (by kernel_rfl) (by kernel_rfl) rfl
/-- loop.example/g01054/laws.FnExactSequenceByDue -/
@[reducible] noncomputable def c_laws_FnExactSequenceByDue : Cx := { K := [.dat 2, .no, .dat 0, .dat 0, .dat 1, .dat 0, .via 26, .via 30, .dat 0, .dat 0, .dat 0, .dat 0, .dat 1, .dat 0, .dat 2, .dat 0, .dat 0, .dat 0, .dat 0, .tup [.dat 1, .dat 0], .dat 2, .dat 1, .tup [.dat 1, .dat 0], .dat 1, .dat 0, .dat 2, .own 4 0 false, .tup [.own 1 0 false, .dat 0], .via 26, .tup [.own 1 0 false, .dat 0], .own 1 0 false, .dat 0, .via 30, .dat 1, .dat 0, .dat 0, .dat 0, .dat 0, .dat 0, .dat 0, .dat 0, .via 26, .dat 2, .dat 1, .dat 0, .dat 0, .via 26, .dat 0, .dat 0, .dat 0, .dat 0, .dat 0, .via 30, .dat 1, .dat 0, .dat 0, .dat 0, .dat 0, .dat 0, .dat 0, .dat 0, .dat 0, .via 30, .dat 0, .dat 0, .via 30, .dat 0, .dat 0, .dat 0, .dat 0, .dat 0, .dat 0, .dat 0, .tup [.own 1 0 false, .dat 0], .dat 2, .dat 1, .tup [.own 1 0 false, .dat 0], .dat 1, .dat 0, .dat 1, .dat 1, .dat 0, .dat 0, .dat 0, .dat 0, .dat 0, .dat 0, .dat 0, .via 30, .dat 0, .dat 0, .dat 0, .dat 0, .dat 0, .dat 0, .dat 0], T := [(3, ty3), (4, ty4)], S := [(11, S_laws_szOrderS), (13, S_laws_toOrderS), (16, S_laws_eqOrderS), (17, S_laws_eqIntS), (22, S_laws_markOrderS), (23, S_laws_markIntS), (24, S_laws_heldIntS), (27, S_spec_SequenceByDue), (28, S_impl_SequenceByDue)], H := [], res := [.tmp 2], ios := [], G := gl0 }
noncomputable def F_laws_FnExactSequenceByDue : List D → Option Out := denF c_laws_FnExactSequenceByDue Try.f7
@[reducible] noncomputable def S_laws_FnExactSequenceByDue : FS := { pm := [.dat 2], rm := [.dat 0], f := F_laws_FnExactSequenceByDue }
theorem M_laws_FnExactSequenceByDue : Meets gl0 Try.prog 7 S_laws_FnExactSequenceByDue := meets_of (P := Try.prog) (c := c_laws_FnExactSequenceByDue) (fn := Try.f7) (pm := S_laws_FnExactSequenceByDue.pm) (rm := S_laws_FnExactSequenceByDue.rm) (by kernel_rfl) (lookCons M_laws_szOrderS (lookCons M_laws_toOrderS (lookCons M_laws_eqOrderS (lookCons M_laws_eqIntS (lookCons M_laws_markOrderS (lookCons M_laws_markIntS (lookCons M_laws_heldIntS (lookCons M_spec_SequenceByDue (lookCons M_impl_SequenceByDue lookNil))))))))) follows_mixed Try.func7 (by kernel_rfl) (by kernel_rfl) rfl
end Go.Proofs.Ytdgenchlghojlaa
/-
  What the functions compute: their evaluated texts, printed.
-/
namespace Go.Proofs.Ytdgenchlghojlaa
open Go Go.V
theorem t_spec_orSorted (x0 : D) : F_spec_orSorted [x0] =
  ((lenD false x0).bind fun z => (loopC (fun s => (bin BinOp.lss false [] (sl s 3) (sl s 2)).bind fun z => ifD z ((lenD false (sl s 1)).bind fun z => (loopC (fun s =>
 (bin BinOp.gtr false [] (sl s 3) (D.v (Value.int IntKind.i64 0))).bind fun z => (gate (D.tup []) z true (some (sl s 0))).bind fun z_1 => (gate (D.tup []) z true (some (sl s 1))).bind fun z_2 =>
 (gate (D.tup []) z true (some (sl s 3))).bind fun z_3 => (gate (D.tup []) z true (bin BinOp.sub false [] z_3 (D.v (Value.int IntKind.i64 1)))).bind fun z_4 =>
 (gate (D.tup []) z true (Option.map D.ptr (elemD 1 z_2 z_4))).bind fun z_5 => (gate (D.tup []) z true ((ldD false 1 z_5).bind chkV)).bind fun z_6 =>
 (gate (D.tup []) z true (Option.map D.ptr (elemD 1 z_1 z_6))).bind fun z_7 => (gate (D.tup []) z true ((ldD false 1 z_7).bind chkV)).bind fun z_8 => (gate (D.tup []) z true (some (sl s 0))).bind fun z_9 =>
 (gate (D.tup []) z true (some (sl s 2))).bind fun z_10 => (gate (D.tup []) z true (Option.map D.ptr (elemD 1 z_9 z_10))).bind fun z_11 => (gate (D.tup []) z true ((ldD false 1 z_11).bind chkV)).bind fun z_12 =>
 (gate (D.tup []) z true (bin BinOp.gtr false [] z_8 z_12)).bind fun z_13 => (pickD z z_13 (D.v (Value.bool false))).bind fun z => ifD z ((bin BinOp.sub false [] (sl s 3) (D.v (Value.int IntKind.i64 1))).bind fun z =>
 some (Out.nrm [sl s 0, sl s 1, sl s 2, z, sl s 4, sl s 5])) (some (Out.ext 2 [sl s 0, sl s 1, sl s 2, sl s 3, sl s 4, sl s 5]))) [sl s 0, sl s 1, sl s 3, z, sl s 2, sl s 3]).bind fun o => outK o (fun i s => ifN (i.beq 2)
 ((mkArr 1 []).bind fun a => (sliceD false 1 (sl s 1) (D.v (Value.int IntKind.i64 0)) (sl s 3)).bind fun z => (chkA z).bind fun b => (appD 1 8 a b).bind fun y => (mkArr 1 [sl s 2]).bind fun a => (chkA a).bind fun b =>
 (appD 1 8 y b).bind fun y => (sliceHi false 1 (sl s 1) (sl s 3)).bind fun z => (appD 1 8 y z).bind fun y => (bin BinOp.add false [] (sl s 5) (D.v (Value.int IntKind.i64 1))).bind
 fun z => some (Out.nrm [sl s 0, y, sl s 4, z])) (ifN (i.beq 1) ((bin BinOp.add false [] (sl s 5) (D.v (Value.int IntKind.i64 1))).bind fun z => some (Out.nrm [sl s 0, sl s 1, sl s 4, z])) (some (Out.ext i [sl s 1]))))
 fun a b => some (Out.ret a b)) (some (Out.ext 0 [sl s 1]))) [x0, D.arr 1 [], z, D.v (Value.int IntKind.i64 0)]).bind
 fun o => outK o (fun i s => ifN (i.beq 0) (some (Out.ret [sl s 0] [])) none) fun a b => some (Out.ret a b)) := by kernel_rfl
theorem t_spec_orByDue (x0 : D) : F_spec_orByDue [x0] =
  ((lenD false x0).bind fun z => (loopC (fun s => (bin BinOp.lss false [] (sl s 3) (sl s 2)).bind fun z => ifD z ((Option.map D.ptr (elemD 4 (sl s 1) (sl s 3))).bind fun z => ((ldD true 4 z).bind chkV).bind fun z => (stD 4
 (D.agg [D.v (Value.int IntKind.i64 0), D.v (Value.int IntKind.i64 0), D.v (Value.int IntKind.i64 0), D.v (Value.int IntKind.i64 0)]) (D.ref 0 0) z).bind fun b => (liveD b (D.ref 0 3)).bind fun z =>
 ((atD b z).bind (takeD false 1)).bind fun z => (mkArr 1 [z]).bind fun a => (chkA a).bind fun b => (appD 1 8 (sl s 0) b).bind fun y => (bin BinOp.add false [] (sl s 3) (D.v (Value.int IntKind.i64 1))).bind fun z =>
 some (Out.nrm [y, sl s 1, sl s 2, z])) (some (Out.ext 0 [sl s 0]))) [D.arr 1 [], x0, z, D.v (Value.int IntKind.i64 0)]).bind fun o => outK o (fun i s => ifN (i.beq 0) ((liveD (sl s 0) (D.ref 0 0)).bind fun z =>
 (liveD z (sl s 0)).bind fun i => callK (F_spec_orSorted [i]) fun rs _u => some (Out.ret [sl rs 0] [])) none) fun a b => some (Out.ret a b)) := by kernel_rfl
theorem t_spec_SequenceByDue (x0 : D) : F_spec_SequenceByDue [x0] =
  (callK (F_spec_orGood [x0]) fun rs _u => (un UnOp.not (sl rs 0)).bind fun z => ifD z (some (Out.ret [D.arr 1 [], D.v (Value.bool false)] []))
 (callK (F_spec_orByDue [x0]) fun rs _u => some (Out.ret [sl rs 0, D.v (Value.bool true)] []))) := by kernel_rfl
theorem t_impl_byDue (x0 : D) : F_impl_byDue [x0] =
  (callK (fSeq [x0, D.clo 70 []]) fun rs _u => some (Out.ret [sl rs 0] [])) := by kernel_rfl
theorem t_impl_SequenceByDue (x0 : D) : F_impl_SequenceByDue [x0] =
  (callK (F_impl_AreOrders [x0]) fun rs _u => (un UnOp.not (sl rs 0)).bind fun z => ifD z ((mkArr 1 []).bind fun a => some (Out.ret [a, D.v (Value.bool false)] []))
 (callK (F_impl_byDue [x0]) fun rs _u => some (Out.ret [sl rs 0, D.v (Value.bool true)] []))) := by kernel_rfl
theorem t_laws_FnExactSequenceByDue (x0 : D) : F_laws_FnExactSequenceByDue [x0] =
  (callK (F_laws_szOrderS [x0, D.v (Value.int IntKind.i64 1048576)]) fun rs _u => (bin BinOp.lss false [] (sl rs 0) (D.v (Value.int IntKind.i64 0))).bind fun z => ifD z (some (Out.ret [D.v (Value.bool true)] []))
 (callK (F_laws_toOrderS [x0]) fun rs _u => callK (F_spec_SequenceByDue [sl rs 0]) fun rs _u => (tupAt (D.tup rs) 0).bind fun z => (tupAt (D.tup rs) 1).bind fun z_1 => callK (F_laws_toOrderS [x0]) fun rs _u =>
 (liveD (sl rs 0) (D.ref 0 0)).bind fun z_2 => (liveD z_2 (D.ref 0 0)).bind fun z_3 => (liveD z_3 (sl rs 0)).bind fun i => callK (F_impl_SequenceByDue [i]) fun rs_1 _u => (tupAt (D.tup rs_1) 0).bind fun y =>
 (tupAt (tupCut (D.tup rs_1) 0) 1).bind fun z_4 => (liveD y (D.ref 0 0)).bind fun z_5 => (liveD z_5 (D.ref 0 0)).bind fun z_6 => (liveD z_6 y).bind fun i => callK (F_laws_eqIntS [i, z]) fun rs_2 _u =>
 (un UnOp.not (sl rs_2 0)).bind fun z_7 => (gate (D.tup []) z_7 false (some z_4)).bind fun z_8 => (gate (D.tup []) z_7 false (some z_1)).bind fun z_9 =>
 (gate (D.tup []) z_7 false (bin BinOp.neq true [] z_8 z_9)).bind fun z_10 => (pickD z_7 (D.v (Value.bool true)) z_10).bind fun z_11 => ifD z_11 (some (Out.ret [D.v (Value.bool false)] []))
 ((liveD z_2 (D.ref 0 0)).bind fun z_12 => callK (F_laws_toOrderS [x0]) fun rs_3 _u => (liveD z_12 (sl rs 0)).bind fun i => callK (F_laws_eqOrderS [i, sl rs_3 0]) fun rs_4 _u => (un UnOp.not (sl rs_4 0)).bind fun z_13 =>
 ifD z_13 (some (Out.ret [D.v (Value.bool false)] [])) ((liveD z_2 (D.ref 0 0)).bind fun z_14 => (ref0 z_14 (sl rs 0)).bind fun i => (liveD i i).bind fun i => callK (F_laws_markOrderS [i, D.v (Value.int IntKind.i64 1)])
 fun rs _u => (bin BinOp.lss false [] (sl rs 0) (D.v (Value.int IntKind.i64 0))).bind fun z_15 => (gate D.bad z_15 false (liveD z_5 (D.ref 0 0))).bind fun z_16 => (gate (D.tup []) z_15 false (some z)).bind fun z_17 =>
 gateC z_15 false ((liveD z_16 y).bind fun i => callK (F_laws_eqIntS [i, z_17]) fun rs _u => some (Out.nrm [sl rs 0])) [D.tup []] fun outs => (gate (D.tup []) z_15 false (un UnOp.not (sl outs 0))).bind fun z_18 =>
 (pickD z_15 (D.v (Value.bool true)) z_18).bind fun z_19 => (gate (D.tup []) z_19 false (some z_4)).bind fun z_20 => (gate (D.tup []) z_19 false (some z_1)).bind fun z_21 => (gate (D.tup []) z_19 false
 (bin BinOp.neq true [] z_20 z_21)).bind fun z_22 => (pickD z_19 (D.v (Value.bool true)) z_22).bind fun z_23 => ifD z_23 (some (Out.ret [D.v (Value.bool false)] [])) ((liveD z_5 (D.ref 0 0)).bind fun z_24 =>
 (ref0 z_24 y).bind fun i => (liveD i i).bind fun i => callK (F_laws_markIntS [i, D.v (Value.int IntKind.i64 1)]) fun rs us => (liveD z_5 (D.ref 0 0)).bind fun z_25 => (liveD z_25 (sl us 0)).bind fun i => callK
 (F_laws_heldIntS [i, D.v (Value.int IntKind.i64 1)]) fun rs_5 _u => (bin BinOp.lss false [] (sl rs_5 0) (D.v (Value.int IntKind.i64 0))).bind fun z_26 => ifD z_26 (some (Out.ret [D.v (Value.bool false)] [])) ((bin
 BinOp.neq false [] (sl rs_5 0) (sl rs 0)).bind fun z_27 => ifD z_27 (some (Out.ret [D.v (Value.bool false)] [])) (callK (F_laws_toOrderS [x0]) fun rs_6 _u => callK (F_impl_SequenceByDue [sl rs_6 0]) fun rs_7 _u => (tupAt
 (D.tup rs_7) 0).bind fun y => (tupAt (tupCut (D.tup rs_7) 0) 1).bind fun z_28 => callK (F_laws_eqIntS [y, z]) fun rs_8 _u => (un UnOp.not (sl rs_8 0)).bind fun z => (gate (D.tup []) z false (some z_28)).bind fun z_29 =>
 (gate (D.tup []) z false (some z_1)).bind fun z_30 => (gate (D.tup []) z false (bin BinOp.neq true [] z_29 z_30)).bind fun z_31 => (pickD z (D.v (Value.bool true)) z_31).bind fun z => ifD z (some (Out.ret [D.v (Value.bool
 false)] [])) ((liveD z_5 (D.ref 0 0)).bind fun z => (liveD z (sl us 0)).bind fun i => callK (F_laws_heldIntS [i, D.v (Value.int IntKind.i64 1)]) fun rs_9 _u => (bin BinOp.lss false [] (sl rs_9 0) (D.v (Value.int
 IntKind.i64 0))).bind fun z => ifD z (some (Out.ret [D.v (Value.bool false)] [])) ((bin BinOp.neq false [] (sl rs_9 0) (sl rs 0)).bind fun z => ifD z (some (Out.ret [D.v (Value.bool false)] [])) (some (Out.ret [D.v
 (Value.bool true)] []))))))))))) := by kernel_rfl
end Go.Proofs.Ytdgenchlghojlaa
/-
  Orders by their keys: what the functions compute.
-/
namespace Go.Proofs.Ytdgenchlghojlaa
open Go Go.Proofs Go.V
set_option linter.unusedSimpArgs false

theorem e_spec_orSorted (ks : List Int) (h : ks.length ≤ 8) : F_spec_orSorted [ints ks] = some (.ret [ints (nInts (srtK ks ks.length))] []) := by
  rw [t_spec_orSorted]
  simp only [lenD_arr, List.length_map, Option.bind_some]
  refine loop_bind (.ext 0 [ints (nInts (srtK ks ks.length))]) (loop_for ks.length (fun i => [ints ks, ints (nInts (srtK ks i)), I ks.length, I i]) _ (fun i hi => ?_) ?_ rfl rfl) ?_
  · have hlen := srtK_length ks i
    have hmem := srtK_lt ks i
    rw [srtK_succ]
    generalize srtK ks i = O at hlen hmem
    have hw : IntKind.i64.wrap ((i : Int) + 1) = (i : Int) + 1 := wrap_id (by omega) (by omega)
    simp -implicitDefEqProofs only [sl_zero, sl_succ, bin_lss, hi, Option.bind_some, ifD_B, decide_true, if_true, lenD_arr, List.length_map, hlen]
    rw [if_pos (by simp [hi])]
    refine loop_wf_bind (fun r => r = some (Out.nrm [ints ks, ints (nInts (insS (ltK ks) i O)), I (ks.length : Int), I ((i + 1 : Nat) : Int)])) (fun (k : Nat) => [ints ks, ints (nInts O), I (i : Int), I (k : Int), I (ks.length : Int), I (i : Int)]) (fun k => k ≤ i ∧ posG (ltK ks) i O k = posG (ltK ks) i O i) (fun k => k)
      (fun o => o = .ext 2 [ints ks, ints (nInts O), I (i : Int), I ((posG (ltK ks) i O i : Nat) : Int), I (ks.length : Int), I (i : Int)]) (fun k hk => ?_) i ⟨Nat.le_refl _, rfl⟩ rfl ?_
    · obtain ⟨hk, hp⟩ := hk
      cases k with
      | zero =>
        refine .inr ⟨_, ?_, rfl, rfl⟩
        rw [← hp]
        simp -implicitDefEqProofs [posG]
      | succ k =>
        have hko : k < O.length := by omega
        have hm := hmem _ (List.getElem_mem hko)
        have hm2 : O[k] < ks.length := by omega
        have hw2 : IntKind.i64.wrap (((k + 1 : Nat) : Int) - 1) = (k : Int) := by rw [wrap_id (by omega) (by omega)]; omega
        have hw3 : IntKind.i64.wrap (k : Int) = (k : Int) := wrap_id (by omega) (by omega)
        have hpos : (0 : Int) < ((k + 1 : Nat) : Int) := by omega
        have hps : posG (ltK ks) i O (k + 1) = if ltK ks i (O.getD k 0) = true then posG (ltK ks) i O k else k + 1 := rfl
        have hgd : O.getD k 0 = O[k] := by rw [List.getD_eq_getElem?_getD, List.getElem?_eq_getElem hko]; rfl
        rw [hgd] at hps
        have hlt : ltK ks i O[k] = decide (ks[i] < ks[O[k]]) := by simp [ltK, hi, hm2]
        by_cases hc : ks[i] < ks[O[k]]
        · refine .inl ⟨k, ?_, ⟨by omega, ?_⟩, Nat.lt_succ_self _⟩
          · simp -implicitDefEqProofs [hpos, hw2, hw3, hko, hm2, hi, hc]
          · rw [← hp, hps, hlt, if_pos (by simp [hc])]
        · refine .inr ⟨_, ?_, rfl, rfl⟩
          rw [← hp, hps, hlt, if_neg (by simp [hc])]
          simp -implicitDefEqProofs [hpos, hw2, hw3, hko, hm2, hi, hc]
    · rintro o rfl
      have hp := posG_le (ltK ks) i O i
      have hin : insS (ltK ks) i O = O.take (posG (ltK ks) i O i) ++ i :: O.drop (posG (ltK ks) i O i) := by rw [← hlen]; rfl
      rw [hin]
      generalize posG (ltK ks) i O i = p at hp
      have s1 : sliceD false 1 (ints (nInts O)) (I ((0 : Nat) : Int)) (I (p : Int)) = some (ints (nInts (O.take p))) := by
        have := sliceD_nat (z := 1) (l := (nInts O).map I) (i := 0) (j := p) (k := .i64) (k' := .i64) (Nat.zero_le _) (by simp; omega)
        rw [this]
        simp [List.map_take]
      have s2 : sliceHi false 1 (ints (nInts O)) (I (p : Int)) = some (ints (nInts (O.drop p))) := by
        have := sliceHi_nat (z := 1) (l := (nInts O).map I) (i := p) (k := .i64) (by simp; omega)
        rw [this]
        simp [List.map_drop]
      have a1 : appD 1 8 (ints []) (ints (nInts (O.take p))) = some (ints (nInts (O.take p))) := app_ints (l := []) (by simp; omega)
      have a2 : appD 1 8 (ints (nInts (O.take p))) (ints [(i : Int)]) = some (ints (nInts (O.take p) ++ [(i : Int)])) := app_ints (by simp; omega)
      have a3 : appD 1 8 (ints (nInts (O.take p) ++ [(i : Int)])) (ints (nInts (O.drop p))) = some (ints (nInts (O.take p) ++ [(i : Int)] ++ nInts (O.drop p))) := app_ints (by simp; omega)
      have c1 : ∀ l, chkA (ints l) = some (ints l) := fun l => chkA_map fun _ => rfl
      have m1 : mkArr 1 [] = some (ints []) := rfl
      have hb : (Nat.beq 2 2) = true := rfl
      simp -implicitDefEqProofs only [outK, sl_zero, sl_succ, hb, ifN_B, if_true, m1, one_int, c1, Option.bind_some]
      rw [show (D.v (Value.int IntKind.i64 0)) = I ((0 : Nat) : Int) from rfl, s1]
      simp -implicitDefEqProofs only [Option.bind_some, c1, a1, a2, s2, a3, bin_add, hw]
      simp [nInts]
  · simp
  · simp

theorem e_spec_orByDue (l : List Od) (h : l.length ≤ 8) : F_spec_orByDue [ods l] = some (.ret [ints (nInts (srtK (l.map fun x => x.2.2.2) l.length))] []) := by
  rw [t_spec_orByDue]
  simp only [lenD_arr, List.length_map, Option.bind_some]
  refine loop_bind (.ext 0 [ints (l.map fun x => x.2.2.2)]) (loop_for l.length (fun i => [ints ((l.map fun x => x.2.2.2).take i), ods l, I l.length, I i]) _ (fun i hi => ?_) ?_ rfl rfl) ?_
  · have hw : IntKind.i64.wrap ((i : Int) + 1) = (i : Int) + 1 := wrap_id (by omega) (by omega)
    have ha := app_ints (l := (l.map fun x => x.2.2.2).take i) (m := [l[i].2.2.2]) (by simp; omega)
    have ht : (l.map fun x => x.2.2.2).take (i + 1) = (l.map fun x => x.2.2.2).take i ++ [l[i].2.2.2] := by
      rw [List.take_succ_eq_append_getElem (by simpa using hi)]
      simp
    rw [ht]
    simp -implicitDefEqProofs [hi, hw, one_int, chk_int, ha, -appD_eq]
  · have ht : (l.map fun x => x.2.2.2).take l.length = l.map fun x => x.2.2.2 := List.take_of_length_le (by simp)
    rw [ht]
    simp
  · have := e_spec_orSorted (l.map fun x => x.2.2.2) (by simp; omega)
    rw [List.length_map] at this
    simp -implicitDefEqProofs [this]
/-- The orders by due times. -/
def dueR (l : List Od) : List Int := if goodO l = true then nInts (srtK (l.map fun x => x.2.2.2) l.length) else []
theorem goodO_len {l : List Od} (h : goodO l = true) : l.length ≤ 8 := by
  simp only [goodO, Bool.and_eq_true, decide_eq_true_eq] at h
  exact h.2
theorem dueR_len (l : List Od) : (dueR l).length ≤ l.length := by
  unfold dueR
  split
  · simp [srtK_length]
  · exact Nat.zero_le _
theorem e_impl_byDue (l : List Od) (h : l.length ≤ 8) : F_impl_byDue [ods l] = some (.ret [ints (nInts (srtK (l.map fun x => x.2.2.2) l.length))] []) := by
  rw [t_impl_byDue, ← seqL_key l dueLt (fun x => x.2.2.2) (fun _ _ _ _ => rfl)]
  simp -implicitDefEqProofs [fSeq, odsOf_map, h]
theorem e_spec_SequenceByDue (l : List Od) (hl : l.length ≤ 1048576) : F_spec_SequenceByDue [ods l] = some (.ret [ints (dueR l), B (goodO l)] []) := by
  rw [t_spec_SequenceByDue]
  unfold dueR
  cases ha : goodO l
  · simp -implicitDefEqProofs [e_spec_orGood l hl, ha]
  · simp -implicitDefEqProofs [e_spec_orGood l hl, ha, e_spec_orByDue l (goodO_len ha)]
theorem e_impl_SequenceByDue (l : List Od) (hl : l.length ≤ 1048576) : F_impl_SequenceByDue [ods l] = some (.ret [ints (dueR l), B (goodO l)] []) := by
  rw [t_impl_SequenceByDue]
  unfold dueR
  cases ha : goodO l
  · simp -implicitDefEqProofs [e_impl_AreOrders l hl, ha, mkArr_nil]
  · simp -implicitDefEqProofs [e_impl_AreOrders l hl, ha, e_impl_byDue l (goodO_len ha)]
theorem law_SequenceByDue (l : List Od) (_h : l.length ≤ 9223372036854775807) : F_laws_FnExactSequenceByDue [ods l] = some (.ret [B true] []) := by
  rw [t_laws_FnExactSequenceByDue]
  obtain ⟨m, h1, h2⟩ := e_laws_szOrderS l 1048576
  by_cases hm : m < 0
  · simp -implicitDefEqProofs [h1, hm]
  have h3 := h2 (by omega)
  rw [wrap_id (by omega) (by omega)] at h3
  have hl : l.length ≤ 1048576 := by omega
  have hn := dueR_len l
  have k1 := e_laws_markOrderS l 1 (by omega) (by omega) (by omega)
  have k3 := e_laws_markIntS (dueR l) 1 (by omega) (by omega) (by omega)
  have k4 := e_laws_heldIntS 1 (dueR l).length (by omega) (by omega) (by omega)
  have p1 : ¬ (1 + 4 * (l.length : Int) < 0) := by omega
  have p2 : ¬ (1 + ((dueR l).length : Int) < 0) := by omega
  simp -implicitDefEqProofs [h1, hm, e_laws_toOrderS l hl, e_spec_SequenceByDue l hl, e_impl_SequenceByDue l hl, e_laws_eqOrderS l (by omega), e_laws_eqIntS (dueR l) (by omega), k1, k3, k4, p1, p2]
end Go.Proofs.Ytdgenchlghojlaa
