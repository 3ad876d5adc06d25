/-
  The text of a shop.
-/
import Derived.Test.YtfjkapnonljdeaaDoorQ3
namespace Go.Proofs.YtfjkapnonljdeaaDoor
open Go Go.V
set_option linter.unusedSimpArgs false

theorem shopOk_parts {s : Sp} (h : shopOk s = true) : (∀ (j : Nat) (hj : j < s.2.1.length), isFm s.1 s.2.1[j] = true) ∧ goodC s.1 = true ∧ s.2.1.length ≤ 5 ∧ (0 ≤ s.2.2.1 ∧ s.2.2.1 ≤ 9999) := by
  simp only [shopOk, Bool.and_eq_true, decide_eq_true_eq] at h
  obtain ⟨⟨⟨⟨h1, h2⟩, h3⟩, h4⟩, _⟩ := h
  have key : ∀ (l : List Fm) (i : Nat), allI (pS s) i l = true → ∀ x ∈ l, isFm s.1 x = true := by
    intro l
    induction l with
    | nil => intro i _ x hx; simp at hx
    | cons y l ih =>
      intro i hp x hx
      simp only [allI, Bool.and_eq_true, pS] at hp
      rcases List.mem_cons.1 hx with rfl | hx
      · exact hp.1.1
      · exact ih (i + 1) (by simpa [pS] using hp.2) x hx
  exact ⟨fun j hj => key _ 0 h1 _ (List.getElem_mem hj), h2, by omega, h4⟩
theorem isFm_set {l : List Bx} {x : Fm} (h : isFm l x = true) : x.2.1.length ≤ 40 := by
  simp only [isFm, Bool.and_eq_true, Bool.not_eq_true', decide_eq_false_iff_not] at h
  omega
theorem isFm_id {l : List Bx} {x : Fm} (h : isFm l x = true) : 1 ≤ x.1 ∧ x.1 ≤ 99 := by
  simp only [isFm, Bool.and_eq_true, decide_eq_true_eq] at h
  exact h.1.1.1.1
theorem shopOk_sheets {s : Sp} (h : shopOk s = true) : 0 ≤ s.2.2.2 ∧ s.2.2.2 ≤ 1000000 := by
  have hp : 0 ≤ printed s.2.1 := by
    have key : ∀ (l : List Fm) (a : Int), 0 ≤ a → (∀ x ∈ l, 0 ≤ x.2.2.2) → 0 ≤ l.foldl (fun a x => a + x.2.2.2) a := by
      intro l
      induction l with
      | nil => exact fun a h _ => h
      | cons y l ih => exact fun a h hx => ih _ (show 0 ≤ a + y.2.2.2 by have := hx y (by simp); omega) fun x hm => hx x (by simp [hm])
    refine key _ 0 (by omega) fun x hx => ?_
    obtain ⟨j, hj, rfl⟩ := List.getElem_of_mem hx
    exact (isFm_printed ((shopOk_parts h).1 j hj)).1
  simp only [shopOk, Bool.and_eq_true, decide_eq_true_eq] at h
  obtain ⟨_, h5⟩ := h
  omega

/-- What a forme adds to the text of its shop. -/
def fmT (t : ByteArray) (x : Fm) : ByteArray :=
  if x.2.2.1 = true then t ++ ((intT x.1 ++ ⟨#[58]⟩) ++ intT x.2.1.length) ++ ⟨#[42]⟩ ++ ((⟨#[112]⟩ ++ intT x.2.2.2) ++ ⟨#[32]⟩)
  else t ++ ((intT x.1 ++ ⟨#[58]⟩) ++ intT x.2.1.length) ++ ((⟨#[112]⟩ ++ intT x.2.2.2) ++ ⟨#[32]⟩)
def fmsT (l : List Fm) : ByteArray := l.foldl fmT ⟨#[]⟩
def shopT (s : Sp) : ByteArray := fmsT s.2.1 ++ ⟨#[108, 111, 115, 116, 32]⟩ ++ intT s.2.2.1 ++ ⟨#[32, 115, 104, 101, 101, 116, 115, 32]⟩ ++ intT s.2.2.2
theorem fmT_size {l : List Bx} {x : Fm} (h : isFm l x = true) (t : ByteArray) : (fmT t x).size ≤ t.size + 50 := by
  have h1 := isFm_id h
  have h2 := isFm_set h
  have h3 := isFm_printed h
  have s1 := intT_size 9 (n := x.1) (by omega) (by omega)
  have s2 := intT_size 9 (n := (x.2.1.length : Int)) (by omega) (by omega)
  have s3 := intT_size 9 (n := x.2.2.2) (by omega) (by omega)
  unfold fmT
  split <;> simp only [ByteArray.size_append, sz1] <;> omega
theorem fmsT_take {l : List Fm} {i : Nat} (hi : i < l.length) : fmsT (l.take (i + 1)) = fmT (fmsT (l.take i)) l[i] := by
  unfold fmsT
  rw [List.take_succ_eq_append_getElem hi, List.foldl_append]
  rfl
theorem fmsT_size {s : Sp} (h : ∀ (j : Nat) (hj : j < s.2.1.length), isFm s.1 s.2.1[j] = true) : ∀ i, i ≤ s.2.1.length → (fmsT (s.2.1.take i)).size ≤ 50 * i
  | 0, _ => by
    show (⟨#[]⟩ : ByteArray).size ≤ _
    exact Nat.zero_le _
  | i + 1, hi => by
    rw [fmsT_take (by omega)]
    have h1 := fmsT_size h i (by omega)
    have h2 := fmT_size (h i (by omega)) (fmsT (s.2.1.take i))
    omega
theorem sz5 (a b c d e : UInt8) : (⟨#[a, b, c, d, e]⟩ : ByteArray).size = 5 := rfl
theorem sz8 (a b c d e f g h : UInt8) : (⟨#[a, b, c, d, e, f, g, h]⟩ : ByteArray).size = 8 := rfl

theorem e_spec_ShopText (s : Sp) (h : okSp s) : F_spec_ShopText [sp s] = some (.ret [T (if shopOk s then shopT s else ⟨#[]⟩), B (shopOk s)] []) := by
  rw [t_spec_ShopText]
  cases hs : shopOk s
  · simp -implicitDefEqProofs [e_spec_shGood s h, hs]
  obtain ⟨hf, _, hl, hlost⟩ := shopOk_parts hs
  have hsh := shopOk_sheets hs
  have bf : (boxD 4 (sp s)) = some (sp s) := by simp
  have ff : fldD true 4 0 (sp s) = some (sp s) := by simp
  simp only [bf, ff, e_spec_shGood s h, hs, Option.bind_some, callK_ret, sl_zero, un_not, Bool.not_true, ifD_B, Bool.false_eq_true, if_false, liveD_agg, atD_agg, if_true]
  have t1 : takeD false 1 (List.drop 1 [bxs s.1, fms s.2.1, I s.2.2.1, I s.2.2.2]) = some (fms s.2.1) := rfl
  simp only [t1, Option.bind_some, lenD_arr, List.length_map]
  refine loop_bind _ (loop_for s.2.1.length (fun i => [sp s, T (fmsT (s.2.1.take i)), fms s.2.1, I s.2.1.length, I i]) (.ext 0 [sp s, T (fmsT s.2.1)]) (fun i hi => ?_) ?_ rfl rfl) ?_
  · have hw : IntKind.i64.wrap ((i : Int) + 1) = (i : Int) + 1 := wrap_id (by omega) (by omega)
    have hx := hf i hi
    have h1 := isFm_id hx
    have h2 := isFm_set hx
    have h3 := isFm_printed hx
    have n1 := e_spec_l1Num (n := s.2.1[i].1) (by omega) (by omega)
    have n2 := e_spec_l1Num (n := (s.2.1[i].2.1.length : Int)) (by omega) (by omega)
    have n3 := e_spec_l1Num (n := s.2.1[i].2.2.2) (by omega) (by omega)
    have s1 := intT_size 9 (n := s.2.1[i].1) (by omega) (by omega)
    have s2 := intT_size 9 (n := (s.2.1[i].2.1.length : Int)) (by omega) (by omega)
    have s3 := intT_size 9 (n := s.2.1[i].2.2.2) (by omega) (by omega)
    have s0 := fmsT_size hf i (by omega)
    rw [fmsT_take hi]
    cases hk : s.2.1[i].2.2.1 <;>
      simp -implicitDefEqProofs (disch := (first | assumption | (simp only [ByteArray.size_append, sz1]; omega))) [hi, hw, n1, n2, n3, addS, -bin_addS, fmT, hk]
  · simp
  · have n1 := e_spec_l1Num (n := s.2.2.1) (by omega) (by omega)
    have n2 := e_spec_l1Num (n := s.2.2.2) (by omega) (by omega)
    have s1 := intT_size 9 (n := s.2.2.1) (by omega) (by omega)
    have s2 := intT_size 9 (n := s.2.2.2) (by omega) (by omega)
    have s0 := fmsT_size hf s.2.1.length (by omega)
    rw [List.take_length] at s0
    simp -implicitDefEqProofs (disch := (simp only [ByteArray.size_append, sz5, sz8]; omega)) [n1, n2, addS, -bin_addS, shopT]
theorem e_impl_ShopText (s : Sp) (h : okSp s) : F_impl_ShopText [sp s] = some (.ret [T (if shopOk s then shopT s else ⟨#[]⟩), B (shopOk s)] []) := by
  rw [t_impl_ShopText]
  cases hs : shopOk s
  · simp -implicitDefEqProofs [e_impl_IsShop s h, hs]
  obtain ⟨hf, _, hl, hlost⟩ := shopOk_parts hs
  have hsh := shopOk_sheets hs
  have bf : (boxD 4 (sp s)) = some (sp s) := by simp
  have ff : fldD true 4 0 (sp s) = some (sp s) := by simp
  simp only [bf, ff, e_impl_IsShop s h, hs, Option.bind_some, callK_ret, sl_zero, un_not, Bool.not_true, ifD_B, Bool.false_eq_true, if_false, liveD_agg, atD_agg, if_true]
  have t1 : takeD false 1 (List.drop 1 [bxs s.1, fms s.2.1, I s.2.2.1, I s.2.2.2]) = some (fms s.2.1) := rfl
  simp only [t1, Option.bind_some, lenD_arr, List.length_map]
  refine loop_bind _ (loop_for s.2.1.length (fun i => [sp s, T (fmsT (s.2.1.take i)), fms s.2.1, I s.2.1.length, I i]) (.ext 0 [sp s, T (fmsT s.2.1)]) (fun i hi => ?_) ?_ rfl rfl) ?_
  · have hw : IntKind.i64.wrap ((i : Int) + 1) = (i : Int) + 1 := wrap_id (by omega) (by omega)
    have hx := hf i hi
    have h1 := isFm_id hx
    have h2 := isFm_set hx
    have h3 := isFm_printed hx
    have n1 := e_Itoa (n := s.2.1[i].1) (by omega) (by omega)
    have n2 := e_Itoa (n := (s.2.1[i].2.1.length : Int)) (by omega) (by omega)
    have n3 := e_Itoa (n := s.2.1[i].2.2.2) (by omega) (by omega)
    have s1 := intT_size 9 (n := s.2.1[i].1) (by omega) (by omega)
    have s2 := intT_size 9 (n := (s.2.1[i].2.1.length : Int)) (by omega) (by omega)
    have s3 := intT_size 9 (n := s.2.1[i].2.2.2) (by omega) (by omega)
    have s0 := fmsT_size hf i (by omega)
    rw [fmsT_take hi]
    cases hk : s.2.1[i].2.2.1 <;>
      simp -implicitDefEqProofs (disch := (first | assumption | (simp only [ByteArray.size_append, sz1]; omega))) [hi, hw, n1, n2, n3, addS, -bin_addS, fmT, hk]
  · simp
  · have n1 := e_Itoa (n := s.2.2.1) (by omega) (by omega)
    have n2 := e_Itoa (n := s.2.2.2) (by omega) (by omega)
    have s1 := intT_size 9 (n := s.2.2.1) (by omega) (by omega)
    have s2 := intT_size 9 (n := s.2.2.2) (by omega) (by omega)
    have s0 := fmsT_size hf s.2.1.length (by omega)
    rw [List.take_length] at s0
    simp -implicitDefEqProofs (disch := (simp only [ByteArray.size_append, sz5, sz8]; omega)) [n1, n2, addS, -bin_addS, shopT]

theorem law_ShopText (s : Sp) (h : inSp s) : F_laws_FnExactShopText [sp s] = some (.ret [B true] []) := by
  rw [t_laws_FnExactShopText]
  obtain ⟨m, e, _, k⟩ := e_laws_szShop s h
  by_cases hm : m < 0
  · simp -implicitDefEqProofs [e, hm]
  · have hk := k (by omega)
    simp -implicitDefEqProofs [e, hm, e_laws_toShop s hk, e_spec_ShopText s hk, e_impl_ShopText s hk, e_laws_eqShop s hk]

end Go.Proofs.YtfjkapnonljdeaaDoor
