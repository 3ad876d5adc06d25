/-
  The contract of impl.sequenceOf.
-/
import Derived.Test.YtaphcpfkgpaefaaGreatRows
import Derived.Test.YtaphcpfkgpaefaaGreatM6
import Derived.OwnWalk
import Derived.Handy
import Derived.StillTactics
namespace Go.Proofs.YtaphcpfkgpaefaaGreat
open Go Go.Proofs Go.V Go.RowKit
set_option linter.unusedSimpArgs false

/-- Orders out of data. -/
def odOf : D → Option Od
  | .agg [.v (.int .i64 a), .v (.int .i64 b), .v (.int .i64 c), .v (.int .i64 d)] => some (a, b, c, d)
  | _ => none
theorem odOf_some {d : D} {x : Od} (h : odOf d = some x) : d = od x := by
  unfold odOf at h
  split at h
  · cases h; rfl
  · cases h
def odsOf : List D → Option (List Od)
  | [] => some []
  | d :: l => (odOf d).bind fun x => (odsOf l).map (x :: ·)
theorem odsOf_some : ∀ (ds : List D) (l : List Od), odsOf ds = some l → ds = l.map od
  | [], l, h => by cases h; rfl
  | d :: ds, l, h => by
    simp only [odsOf, Option.bind_eq_some_iff, Option.map_eq_some_iff] at h
    obtain ⟨x, h1, m, h2, rfl⟩ := h
    rw [odOf_some h1, odsOf_some ds m h2]
    rfl
theorem odsOf_map : ∀ (l : List Od), odsOf (l.map od) = some l
  | [] => rfl
  | x :: l => by
    simp only [List.map_cons, odsOf, odsOf_map l]
    rfl
theorem rep_ods {w : World} {F : Nat → Prop} : ∀ (l : List Od) (us : List Value), RepL w F (l.map od) us → us = l.flatMap cellsO
  | [], us, h => RepL_nil.1 h
  | x :: l, us, h => by
    obtain ⟨v1, v2, rfl, h1, h2⟩ := RepL_cons.1 h
    rw [rep_ods l v2 h2]
    simp only [RepC] at h1
    obtain ⟨u1, r1, rfl, g1, h1⟩ := RepL_cons.1 h1.1
    obtain ⟨u2, r2, rfl, g2, h1⟩ := RepL_cons.1 h1
    obtain ⟨u3, r3, rfl, g3, h1⟩ := RepL_cons.1 h1
    obtain ⟨u4, r4, rfl, g4, h1⟩ := RepL_cons.1 h1
    simp only [RepC] at g1 g2 g3 g4
    rw [g1.1, g2.1, g3.1, g4.1, RepL_nil.1 h1]
    rfl
theorem cells_ods {w : World} {b : Nat} : ∀ (l : List Od) (o : Nat), CellsAt w b o (l.flatMap cellsO) → ∀ (i : Nat) (x : Od), l[i]? = some x → CellsAt w b (o + i * 4) (cellsO x)
  | [], _, _, i, x, hx => by simp at hx
  | y :: l, o, h, 0, x, hx => by
    simp only [List.getElem?_cons_zero, Option.some.injEq] at hx
    subst hx
    intro j u hu
    have := h j u (by rw [List.flatMap_cons, List.getElem?_append_left (List.getElem?_eq_some_iff.1 hu).1]; exact hu)
    simpa using this
  | y :: l, o, h, i + 1, x, hx => by
    have := cells_ods l (o + 4) (by
      have := h.drop 4
      exact this) i x (by simpa using hx)
    rw [show o + (i + 1) * 4 = o + 4 + i * 4 by omega]
    exact this
theorem RepL_ints {w : World} {F : Nat → Prop} : ∀ (l : List Int), RepL w F (l.map I) (l.map (Value.int .i64))
  | [] => RepL_nil.2 rfl
  | x :: l => RepL_cons.2 ⟨[.int .i64 x], l.map (Value.int .i64), rfl, by simp only [RepC]; exact ⟨trivial, rfl⟩, RepL_ints l⟩

/-- The indices, sorted. -/
def seqL (l : List Od) (lt : Od → Od → Bool) : List Int := (sortN l lt).toList.map fun (x : Nat) => ((x % l.length : Nat) : Int)
theorem seqL_length (l : List Od) (lt : Od → Od → Bool) : (seqL l lt).length = l.length := by
  simp [seqL, size_sortN]
def fSeq : List D → Option Out
  | [.arr _ ds, .clo g []] => (odsOf ds).bind fun l => if l.length ≤ 8 then (if g = 52 then some (.ret [ints (seqL l dueLt)] []) else none) else none
  | _ => none
@[reducible] def S_impl_sequenceOf : FS := { pm := [.dat 2, .dat 0], rm := [.own 1 0 false], f := fSeq }
set_option maxRecDepth 100000 in
theorem M_impl_sequenceOf : Meets gl0 Tryz.prog 51 S_impl_sequenceOf := by
  have he : ∀ args w, (callFunc 51 args).run Tryz.prog w = .ok (.enter 51 args) w := Go.Proofs.enters_of Tryz.func51 (by kernel_rfl) rfl
  refine meets_of_calls he fun ds rs us hd args w F ow hg ha hF _ => ?_
  obtain ⟨d, y, d', y', rfl, h2, h3, h4⟩ := args_two ha
  replace hd : fSeq [d, d'] = some (.ret rs us) := hd
  unfold fSeq at hd
  split at hd
  case h_2 => cases hd
  rename_i z ds g e
  cases e
  obtain ⟨l, hl, hd'⟩ := Option.bind_eq_some_iff.1 hd
  clear hd
  split at hd'
  case isFalse => cases hd'
  rename_i hz
  obtain rfl := odsOf_some _ _ hl
  rcases h3 with h3 | h3
  · cases h3
  rcases h4 with h4 | h4
  · cases h4
  simp only [RepV, RepC] at h3 h4
  obtain ⟨A, c, us', hy, hc, hr, _, hA⟩ := h3
  obtain ⟨us2, hy2, hr2⟩ := h4
  simp only [List.cons.injEq, and_true] at hy hy2
  subst hy
  subst hy2
  obtain rfl := RepL_nil.1 hr2
  rw [rep_ods l us' hr] at hA
  rw [size2 h2]
  rw [List.length_map] at hc ⊢
  have key : ∀ lt, LessO g lt → rs = [ints (seqL l lt)] → us = [] → Calls Tryz.prog 51 #[.slice A l.length c, .func (.func g) #[] [].toArray] w fun e w' => ∃ v, e = .returned v ∧ ∃ F' R vs, v = resV vs ∧ CallPost S_impl_sequenceOf #[.slice A l.length c, .func (.func g) #[] [].toArray] rs us w F ow F' R vs w' := by
    rintro lt hlt rfl rfl
    refine (seq_walk hlt l hz A c w (fun hne => ?_)).mono ?_
    · obtain ⟨b, o, rfl, h5, h6⟩ := hA (by simpa using hne)
      exact ⟨b, o, rfl, (hF b h5).1, cells_ods l o h6⟩
    · rintro e w' ⟨gg, cap, cur, rfl, hB, hgg, hcell, hcap, hcs, hrow⟩
      refine ⟨_, rfl, F, fun b => if b = gg then some 0 else none, [_], rfl, post_own _ hB hF (fun b j hb => ?_) rfl rfl rfl rfl fun j => ?_⟩
      · split at hb
        · rename_i e
          subst e
          exact ⟨hgg, (Array.getElem?_eq_some_iff.1 hcell).1⟩
        · cases hb
      · match j with
        | 0 =>
          refine .inr ⟨(seqL l lt).map I, rfl, fun x hx => ?_, .inr ⟨gg, 0, cap, (seqL l lt).map (Value.int .i64), cur, _, ?_, ?_, hcell, by omega, RepL_ints _, fun i u hu => ?_, by simp, hgg⟩⟩
          · obtain ⟨s, _, rfl⟩ := List.mem_map.1 hx
            rfl
          · rw [List.length_map, seqL_length]
            rfl
          · rw [List.length_map, seqL_length]
            exact hcap
          · rw [Nat.zero_add]
            refine hrow i u ?_
            rw [← hu]
            simp only [seqL, List.map_map]
            rfl
        | j + 1 => exact .inl rfl
  split at hd'
  · rename_i hg70
    cases hd'
    subst hg70
    exact key dueLt due_walk rfl rfl
  · cases hd'
end Go.Proofs.YtaphcpfkgpaefaaGreat
/-
  impl.LeastLateness: walked by hand, for it calls itself through a function value that keeps the best one in boxes.
-/
namespace Go.Proofs.YtaphcpfkgpaefaaGreat
open Go Go.Proofs Go.V Go.RowKit
set_option linter.unusedSimpArgs false

theorem size1 {args : Array Value} {y : Value} (h : args.toList = [y]) : args = #[y] := by
  apply Array.ext'
  rw [h]
/-- All blocks but two are as they were. -/
structure KeptB (B : Nat) (w w' : World) : Prop where
  os : w'.os = w.os
  tape : w'.tape = w.tape
  output : w'.output = w.output
  size : w.heap.size ≤ w'.heap.size
  block : ∀ b, b < w.heap.size → b ≠ B + 3 → b ≠ B + 4 → w'.heap[b]? = w.heap[b]?
theorem KeptB.trans {B : Nat} {a b c : World} (h : KeptB B a b) (k : KeptB B b c) : KeptB B a c :=
  ⟨k.os.trans h.os, k.tape.trans h.tape, k.output.trans h.output, Nat.le_trans h.size k.size, fun i hi h1 h2 => (k.block i (Nat.lt_of_lt_of_le hi h.size) h1 h2).trans (h.block i hi h1 h2)⟩
theorem KeptB.refl (B : Nat) (w : World) : KeptB B w w := ⟨rfl, rfl, rfl, Nat.le_refl _, fun _ _ _ _ => rfl⟩
theorem KeptB.of {B : Nat} {a b : World} (h : Below a.heap.size a b) : KeptB B a b := ⟨h.os, h.tape, h.output, h.size, fun i hi _ _ => h.block i hi⟩
theorem KeptB.below {B : Nat} {a b : World} (h : KeptB B a b) (hs : B ≤ a.heap.size) : Below B a b := ⟨h.os, h.tape, h.output, h.size, fun i hi => h.block i (by omega) (by omega) (by omega)⟩
/-- A list of numbers in a block of its own. -/
def RowI (W : World) (B : Nat) (v : Value) (o : List Int) : Prop := ∃ g cap cur, v = .slice (some ⟨g, 0, none⟩) o.length cap ∧ B ≤ g ∧ g ≠ B + 3 ∧ g ≠ B + 4 ∧ W.heap[g]? = some (.cells cur 3 (0, 0)) ∧
  o.length ≤ cap ∧ cap ≤ cur.size ∧ ∀ (i : Nat) (u : Value), (o.map (Value.int .i64))[i]? = some u → cur[i]? = some u
theorem RowI.kept {W W' : World} {B : Nat} {v : Value} {o : List Int} (h : RowI W B v o) (hk : KeptB B W W') : RowI W' B v o := by
  obtain ⟨g, cap, cur, h1, h2, h3, h4, h5, h6⟩ := h
  exact ⟨g, cap, cur, h1, h2, h3, h4, (hk.block g (Array.getElem?_eq_some_iff.1 h5).1 h3 h4).trans h5, h6⟩
theorem RowI.rep {W : World} {B : Nat} {v : Value} {o : List Int} (h : RowI W B v o) : ∃ g, g < W.heap.size ∧ RepV W (fun b => b = g) (ints o) v := by
  obtain ⟨g, cap, cur, rfl, h2, h3, h4, h5, h6, h7, h8⟩ := h
  refine ⟨g, (Array.getElem?_eq_some_iff.1 h5).1, ?_⟩
  have ho : OwnV W (fun _ => False) (fun b => b = g) 1 (ints o) (.slice (some ⟨g, 0, none⟩) o.length cap) :=
    ⟨o.map I, rfl, fun x hx => by obtain ⟨s, _, rfl⟩ := List.mem_map.1 hx; rfl, .inr ⟨g, 0, cap, o.map (Value.int .i64), cur, _, by rw [List.length_map], by rw [List.length_map]; exact h6, h5, by omega, RepL_ints _, fun i u hu => by rw [Nat.zero_add]; exact h8 i u hu, rfl⟩⟩
  exact RepV_mono (fun b hb => hb.elim False.elim id) (fun _ _ => rfl) (OwnV_rep ho)
/-- The boxes of the search, and the best one so far. L: the orders' box; from B on: the number, the cost, nothing, the best one, its lateness. -/
structure LO (l : List Od) (A : Option Addr) (c : Nat) (F : Nat → Prop) (L B : Nat) (W : World) (s : List Int × Int) : Prop where
  rep : RepV W F (ods l) (.slice A l.length c)
  fF : ∀ b, F b → b < B
  fL : L < B
  bL : W.heap[L]? = some (.cells #[.slice A l.length c] 23 (0, 0))
  bn : W.heap[B]? = some (.cells #[.int .i64 l.length] 3 (0, 0))
  bc : W.heap[B + 1]? = some (.cells #[.func (.func 39) #[] #[.pointer (some ⟨L, 0, none⟩)]] 44 (0, 0))
  bl : W.heap[B + 4]? = some (.cells #[.int .i64 s.2] 3 (0, 0))
  bb : ∃ v, W.heap[B + 3]? = some (.cells #[v] 24 (0, 0)) ∧ RowI W B v s.1
  sz : B + 5 ≤ W.heap.size
/-- What touches none of the boxes. -/
theorem LO.kept {l : List Od} {A : Option Addr} {c : Nat} {F : Nat → Prop} {L B : Nat} {W W' : World} {s : List Int × Int} (h : LO l A c F L B W s) (hb : Below W.heap.size W W') : LO l A c F L B W' s := by
  have hz := h.sz
  have hL := h.fL
  have hk : KeptB B W W' := KeptB.of hb
  obtain ⟨v, h1, h2⟩ := h.bb
  exact ⟨RepV_mono (fun _ hb => hb) (fun b hf => hb.block b (by have := h.fF b hf; omega)) h.rep, h.fF, hL, (hb.block _ (by omega)).trans h.bL, (hb.block _ (by omega)).trans h.bn, (hb.block _ (by omega)).trans h.bc, (hb.block _ (by omega)).trans h.bl, ⟨v, (hb.block _ (by omega)).trans h1, h2.kept hk⟩, Nat.le_trans hz hb.size⟩

set_option maxRecDepth 100000 in
theorem call_AreOrders {w : World} {F : Nat → Prop} (l : List Od) (h : l.length ≤ 1048576) {y : Value} (hr : RepV w F (ods l) y) (hF : ∀ b, F b → b < w.heap.size) :
    Calls Tryz.prog 28 #[y] w fun e w' => e = .returned (.bool (goodO l)) ∧ Below w.heap.size w w' :=
  calls_flat1 (Go.Proofs.enters_of Tryz.func28 (by kernel_rfl) rfl) M_impl_AreOrders F_impl_AreOrders rfl (e_impl_AreOrders l h) rfl (F := F) gOk_nil
    (show ArgOk w _ _ (.dat 2) (ods l) y ∧ True from ⟨.inr hr, trivial⟩) hF
set_option maxRecDepth 100000 in
theorem call_greatest {w : World} {F : Nat → Prop} (l : List Int) (h : l.length ≤ 1048577) {y : Value} (hr : RepV w F (ints l) y) (hF : ∀ b, F b → b < w.heap.size) :
    Calls Tryz.prog 40 #[y] w fun e w' => e = .returned (.int .i64 (mostL l)) ∧ Below w.heap.size w w' :=
  calls_flat1 (Go.Proofs.enters_of Tryz.func40 (by kernel_rfl) rfl) M_impl_greatest F_impl_greatest rfl (e_impl_greatest l h) rfl (F := F) gOk_nil
    (show ArgOk w _ _ (.dat 2) (ints l) y ∧ True from ⟨.inr hr, trivial⟩) hF
set_option maxRecDepth 100000 in
theorem call_hasNumber {w : World} {F : Nat → Prop} (l : List Int) (n : Int) (h : l.length ≤ 1048577) {y : Value} (hr : RepV w F (ints l) y) (hF : ∀ b, F b → b < w.heap.size) :
    Calls Tryz.prog 33 #[y, .int .i64 n] w fun e w' => e = .returned (.bool (decide (n ∈ l))) ∧ Below w.heap.size w w' :=
  calls_flat1 (Go.Proofs.enters_of Tryz.func33 (by kernel_rfl) rfl) M_impl_hasNumber F_impl_hasNumber rfl (e_impl_hasNumber l n h) rfl (F := F) gOk_nil
    (show ArgOk w _ _ (.dat 2) (ints l) y ∧ ArgOk w _ _ (.dat 0) (I n) (.int .i64 n) ∧ True from ⟨.inr hr, .inr (RepV_v.2 ⟨rfl, rfl⟩), trivial⟩) hF
set_option maxRecDepth 100000 in
theorem call_lateness {w : World} {F : Nat → Prop} (l : List Od) (s : List Int) (hg : ∀ x ∈ l, isOd x = true) (hs : ∀ k ∈ s, 0 ≤ k ∧ k < l.length) (hl : s.length ≤ 8) {y z : Value} (h1 : RepV w F (ods l) y) (h2 : RepV w F (ints s) z) (hF : ∀ b, F b → b < w.heap.size) :
    Calls Tryz.prog 21 #[y, z] w fun e w' => ∃ v F', e = .returned v ∧ RepV w' F' (ints (lateO l s s.length)) v ∧ (∀ b, F' b → b < w'.heap.size) ∧ Below w.heap.size w w' := by
  refine (calls_of_meets' (ow := fun _ => none) (F := F) (ds := [ods l, ints s]) (rs := [ints (lateO l s s.length)]) (us := []) (args := #[y, z]) (Go.Proofs.enters_of Tryz.func21 (by kernel_rfl) rfl) M_impl_lateness (e_impl_lateness l s hg hs (by omega)) gOk_nil
    (show ArgOk w _ _ (.dat 2) (ods l) y ∧ ArgOk w _ _ (.dat 2) (ints s) z ∧ True from ⟨.inr h1, .inr h2, trivial⟩) (fun b hb => ⟨hF b hb, rfl⟩) (fun b i h => by cases h)).mono ?_
  rintro e w' ⟨v, rfl, F', R, vs, rfl, hp⟩
  have hl := hp.len
  obtain ⟨u, rfl⟩ := List.length_eq_one_iff.1 (hl.trans rfl)
  have h0 := hp.res 0
  rcases h0 with h0 | h0
  · cases h0
  refine ⟨u, _, rfl, OwnV_rep h0, fun b hb => ?_, ⟨hp.os, hp.tape, hp.output, hp.size, fun b hb => hp.keep b hb rfl⟩⟩
  rcases hb with hb | hb
  · exact hb.elim
  · exact (hp.rn b 0 hb.1).2

set_option maxHeartbeats 2000000 in
set_option maxRecDepth 1000000 in
theorem cost_walk {l : List Od} {A : Option Addr} {c : Nat} {F : Nat → Prop} {L B : Nat} {W : World} {s : List Int × Int} (h : LO l A c F L B W s) (hg : ∀ x ∈ l, isOd x = true) {v : Value} {o : List Int} (hr : RowI W B v o) (hs : ∀ k ∈ o, 0 ≤ k ∧ k < l.length) (hl : o.length ≤ 8) :
    Calls Tryz.prog 39 #[v, .pointer (some ⟨L, 0, none⟩)] W fun e W' => e = .returned (.int .i64 (costO l o)) ∧ Below W.heap.size W W' := by
  obtain ⟨g, hgz, hv⟩ := hr.rep
  have hz := h.sz
  obtain ⟨s0, s00⟩ := box_cell h.bL
  have hc1 := call_lateness l o hg hs hl (RepV_mono (F' := fun b => F b ∨ b = g) (fun b hb => .inl hb) (fun _ _ => rfl) h.rep) (RepV_mono (F' := fun b => F b ∨ b = g) (fun b hb => .inr hb) (fun _ _ => rfl) hv) (fun b hb => by
    rcases hb with hb | rfl
    · have := h.fF b hb; omega
    · exact hgz)
  go_enter Tryz.func39, Tryz.ntmps39
  go_wp2_with (go_at_call 21; refine hc1.mono ?_)
  rintro e w3 ⟨v3, F3, rfl, h3, hF3, b3⟩
  have hc2 := call_greatest (lateO l o o.length) (by rw [lateO_len]; omega) h3 hF3
  go_wp2_with (go_at_call 40; refine hc2.mono ?_)
  rintro e w4 ⟨rfl, b4⟩
  go_wp2
  go_ret
  exact ⟨rfl, b3.trans (b4.mono b3.size)⟩
end Go.Proofs.YtaphcpfkgpaefaaGreat
/-
  impl.LeastLateness, walked by hand: the function value, the search, the best one.
-/
namespace Go.Proofs.YtaphcpfkgpaefaaGreat
open Go Go.Proofs Go.V Go.RowKit
set_option linter.unusedSimpArgs false

theorem nodup_len : ∀ (n : Nat) (b : List Int), b.Nodup → (∀ x ∈ b, 0 ≤ x ∧ x < n) → b.length ≤ n
  | 0, b, _, h => by
    cases b with
    | nil => simp
    | cons x b => have := h x (by simp); omega
  | n + 1, b, hd, h => by
    by_cases hn : (n : Int) ∈ b
    · have := nodup_len n (b.erase n) (hd.erase _) fun x hx => by
        have h1 := (hd.mem_erase_iff).1 hx
        have h2 := h x h1.2
        have h3 := h1.1
        omega
      rw [List.length_erase_of_mem hn] at this
      omega
    · have := nodup_len n b hd fun x hx => by
        have h2 := h x hx
        have h3 : x ≠ n := fun e => hn (e ▸ hx)
        omega
      omega
theorem nodup_full {n : Nat} {b : List Int} (hd : b.Nodup) (h : ∀ x ∈ b, 0 ≤ x ∧ x < n) (hl : b.length = n) (i : Nat) (hi : i < n) : (i : Int) ∈ b := by
  apply Classical.byContradiction
  intro hc
  have := nodup_len n ((i : Int) :: b) (List.nodup_cons.2 ⟨hc, hd⟩) fun x hx => by
    rcases List.mem_cons.1 hx with rfl | hx
    · omega
    · exact h x hx
  rw [List.length_cons] at this
  omega

def foundS (l : List Od) (o : List Int) (s : List Int × Int) : List Int × Int := if o.length < l.length then s else combB s (o, costO l o)
set_option maxHeartbeats 2000000 in
set_option maxRecDepth 1000000 in
theorem found_walk {l : List Od} {A : Option Addr} {c : Nat} {F : Nat → Prop} {L B : Nat} {W : World} {s : List Int × Int} (h : LO l A c F L B W s) (hg : ∀ x ∈ l, isOd x = true) {v : Value} {o : List Int} (hr : RowI W B v o) (hs : ∀ k ∈ o, 0 ≤ k ∧ k < l.length) (hl : o.length ≤ 8) :
    Calls Tryz.prog 58 #[v, .pointer (some ⟨B, 0, none⟩), .pointer (some ⟨B + 1, 0, none⟩), .pointer (some ⟨B + 4, 0, none⟩), .pointer (some ⟨B + 3, 0, none⟩)] W fun e W' => e = .returned (.tuple #[]) ∧ LO l A c F L B W' (foundS l o s) ∧ KeptB B W W' := by
  have hz := h.sz
  have hc1 := cost_walk h hg hr hs hl
  obtain ⟨n0, n00⟩ := box_cell h.bn
  obtain ⟨c0, c00⟩ := box_cell h.bc
  have hr' := hr
  obtain ⟨g, cap, cur, rfl, g1, g2, g3, g4, g5, g6, g7⟩ := hr'
  go_enter Tryz.func58, Tryz.ntmps58
  by_cases hlt : o.length < l.length
  · have hlt' : (o.length : Int) < l.length := by omega
    have e : foundS l o s = s := by unfold foundS; rw [if_pos hlt]
    rw [e]
    go_wp2
    go_returns
    exact ⟨rfl, h, KeptB.refl _ _⟩
  · have hlt' : ¬ (o.length : Int) < l.length := by omega
    have e : foundS l o s = combB s (o, costO l o) := by unfold foundS; rw [if_neg hlt]
    rw [e]
    generalize hR : combB s (o, costO l o) = R
    go_wp2_with (go_at_call 39; refine hc1.mono ?_)
    intro e W1 he b1
    subst he
    have h1 := h.kept b1
    have k1 : KeptB B W W1 := KeptB.of b1
    obtain ⟨l0, l00⟩ := box_cell h1.bl
    obtain ⟨v0, p1, p2⟩ := h1.bb
    obtain ⟨b0, b00⟩ := box_cell p1
    have hz1 := h1.sz
    have fin : LO l A c F L B ((W1.setCell ⟨B + 3, 0, none⟩ (.slice (some ⟨g, 0, none⟩) o.length cap)).setCell ⟨B + 4, 0, none⟩ (.int .i64 (costO l o))) (o, costO l o) ∧ KeptB B W ((W1.setCell ⟨B + 3, 0, none⟩ (.slice (some ⟨g, 0, none⟩) o.length cap)).setCell ⟨B + 4, 0, none⟩ (.int .i64 (costO l o))) := by
      have hh : ∀ b, b ≠ B + 3 → b ≠ B + 4 → ((W1.setCell ⟨B + 3, 0, none⟩ (.slice (some ⟨g, 0, none⟩) o.length cap)).setCell ⟨B + 4, 0, none⟩ (.int .i64 (costO l o))).heap[b]? = W1.heap[b]? := fun b h1 h2 => by
        rw [heap_setCell_other _ _ _ _ (by simpa using h2), heap_setCell_other _ _ _ _ (by simpa using h1)]
      have hsz : ((W1.setCell ⟨B + 3, 0, none⟩ (.slice (some ⟨g, 0, none⟩) o.length cap)).setCell ⟨B + 4, 0, none⟩ (.int .i64 (costO l o))).heap.size = W1.heap.size := by simp [World.setCell]
      have kk : KeptB B W1 ((W1.setCell ⟨B + 3, 0, none⟩ (.slice (some ⟨g, 0, none⟩) o.length cap)).setCell ⟨B + 4, 0, none⟩ (.int .i64 (costO l o))) := ⟨rfl, rfl, rfl, by rw [hsz]; exact Nat.le_refl _, fun b _ h1 h2 => hh b h1 h2⟩
      have hL := h1.fL
      refine ⟨⟨RepV_mono (fun _ hb => hb) (fun b hf => hh b (by have := h1.fF b hf; omega) (by have := h1.fF b hf; omega)) h1.rep, h1.fF, hL, (hh _ (by omega) (by omega)).trans h1.bL, (hh _ (by omega) (by omega)).trans h1.bn, (hh _ (by omega) (by omega)).trans h1.bc, ?_, ⟨.slice (some ⟨g, 0, none⟩) o.length cap, ?_, (hr.kept k1).kept kk⟩, by rw [hsz]; exact hz1⟩, k1.trans kk⟩
      · rw [heap_setCell_same _ _ _ _ _ _ ((heap_setCell_other _ _ _ _ (by simp)).trans h1.bl)]
        rfl
      · rw [heap_setCell_other _ _ _ _ (by simp), heap_setCell_same _ _ _ _ _ _ p1]
        rfl
    by_cases h0 : s.2 < 0
    · have e2 : combB s (o, costO l o) = (o, costO l o) := by unfold combB; rw [if_pos (.inl h0)]
      obtain rfl : R = _ := hR.symm.trans e2
      go_wp2
      go_returns
      exact ⟨rfl, fin.1, fin.2⟩
    · by_cases h2 : costO l o < s.2
      · have e2 : combB s (o, costO l o) = (o, costO l o) := by unfold combB; rw [if_pos (.inr h2)]
        obtain rfl : R = _ := hR.symm.trans e2
        go_wp2
        go_returns
        exact ⟨rfl, fin.1, fin.2⟩
      · have e2 : combB s (o, costO l o) = s := by unfold combB; rw [if_neg (fun h => h.elim h0 h2)]
        obtain rfl : s = R := e2.symm.trans hR
        go_wp2
        go_returns
        exact ⟨rfl, h1, k1⟩
end Go.Proofs.YtaphcpfkgpaefaaGreat
/-
  impl.eachOrder, walked by hand with what it is given by impl.leastOrder.
-/
namespace Go.Proofs.YtaphcpfkgpaefaaGreat
open Go Go.Proofs Go.V Go.RowKit
set_option linter.unusedSimpArgs false
set_option linter.unusedVariables false

abbrev clF (B : Nat) : Value := .func (.func 58) #[] #[.pointer (some ⟨B, 0, none⟩), .pointer (some ⟨B + 1, 0, none⟩), .pointer (some ⟨B + 4, 0, none⟩), .pointer (some ⟨B + 3, 0, none⟩)]
def stE (l : List Od) (k : Nat) (o : List Int) (s : List Int × Int) (i : Nat) : List Int × Int :=
  match k with
  | 0 => combB s (o, costO l o)
  | k + 1 => (List.range i).foldl (fun s (j : Nat) => if (j : Int) ∈ o then s else eachF l k (o ++ [(j : Int)]) s) s
theorem stE_zero (l : List Od) (k : Nat) (o : List Int) (s : List Int × Int) (h : o.length + k = l.length) : stE l k o s 0 = foundS l o s := by
  unfold stE foundS
  cases k with
  | zero => rw [if_neg (by omega)]
  | succ k => rw [if_pos (by omega)]; rfl
theorem stE_end (l : List Od) (k : Nat) (o : List Int) (s : List Int × Int) : stE l k o s l.length = eachF l k o s := by
  cases k <;> rfl
theorem stE_in (l : List Od) (k : Nat) (o : List Int) (s : List Int × Int) (i : Nat) (h : (i : Int) ∈ o) : stE l k o s (i + 1) = stE l k o s i := by
  unfold stE
  cases k with
  | zero => rfl
  | succ k => simp only [List.range_succ, List.foldl_append, List.foldl_cons, List.foldl_nil, if_pos h]
theorem stE_out (l : List Od) (k : Nat) (o : List Int) (s : List Int × Int) (i : Nat) (h : (i : Int) ∉ o) : stE l (k + 1) o s (i + 1) = eachF l k (o ++ [(i : Int)]) (stE l (k + 1) o s i) := by
  unfold stE
  simp only [List.range_succ, List.foldl_append, List.foldl_cons, List.foldl_nil, if_neg h]
theorem add_zero_at (g j : Nat) : ((⟨g, 0, none⟩ : Addr).add j) = ⟨g, j, none⟩ := by cases j <;> simp [Addr.add]
theorem take_get {xs : List Value} {cur : Array Value} {n : Nat} (h : cur.toList.take n = xs) : ∀ (i : Nat) (u : Value), xs[i]? = some u → cur[i]? = some u := fun i u hu => by
  subst h
  rw [List.getElem?_take] at hu
  split at hu
  · simpa using hu
  · cases hu
/-- An own row is a list in a block of its own. -/
theorem RowI.of {W : World} {B b : Nat} {v : Value} {o : List Int} (h : W.ownsRow b 3 1 v o.length (o.map (Value.int .i64))) (hb : B + 5 ≤ b) (hn : v ≠ .slice none 0 0) : RowI W B v o := by
  obtain ⟨_, ⟨hv, _⟩ | ⟨g, cap, cur, rfl, hge, hg, hcap, _, hcs, ht⟩⟩ := h
  · exact absurd hv hn
  · exact ⟨g, cap, cur, rfl, by omega, by omega, by omega, hg, hcap, by omega, take_get ht⟩
set_option maxHeartbeats 4000000 in
set_option maxRecDepth 1000000 in
theorem each_walk {l : List Od} {A : Option Addr} {c : Nat} {F : Nat → Prop} {L B : Nat} (hg : ∀ x ∈ l, isOd x = true) (h8 : l.length ≤ 8) (k : Nat) : ∀ (W : World) (s : List Int × Int) (v : Value) (o : List Int), o.length + k = l.length → o.Nodup → (∀ x ∈ o, 0 ≤ x ∧ x < l.length) → LO l A c F L B W s → RowI W B v o →
    Calls Tryz.prog 57 #[.int .i64 l.length, v, clF B] W fun e W' => e = .returned (.tuple #[]) ∧ LO l A c F L B W' (eachF l k o s) ∧ KeptB B W W' := by
  induction k using Nat.strongRecOn with
  | ind k ih =>
  intro W s v o hlen hd hin hO hr
  obtain ⟨i0, hi, hz0, hz1, hz2⟩ := info_parts info3
  have hc1 := found_walk hO hg hr hin (by omega)
  go_enter Tryz.func57, Tryz.ntmps57
  go_wp2_with (go_at_call 58; refine hc1.mono ?_)
  rintro e W1 ⟨rfl, hO1, k1⟩
  rw [← stE_zero l k o s hlen] at hO1
  go_wp2
  go_loopw [6] (fun vi wr => ∃ i : Nat, vi = .int .i64 i ∧ i ≤ l.length ∧ LO l A c F L B wr (stE l k o s i) ∧ KeptB B W wr) (fun vi _ => l.length - (intOf vi).toNat)
  case atStart => exact ⟨0, rfl, Nat.zero_le _, hO1, k1⟩
  case round =>
    obtain ⟨i, rfl, hil, hOi, ki⟩ := hrel
    have hri := hr.kept ki
    by_cases hp : i < l.length
    · have hpi : (i : Int) < (l.length : Int) := by omega
      obtain ⟨g, hgz, hv⟩ := hri.rep
      have hc2 := call_hasNumber o i (by omega) hv (fun b hb => by subst hb; exact hgz)
      by_cases hm : (i : Int) ∈ o
      · rw [decide_eq_true hm] at hc2
        go_wp2_with (go_at_call 33; refine hc2.mono ?_)
        rintro e W2 ⟨rfl, b2⟩
        go_wp2
        refine ⟨⟨i + 1, congrArg (Value.int .i64) (by omega), by omega, ?_, ki.trans (KeptB.of b2)⟩, ?_⟩
        · rw [stE_in l k o s i hm]
          exact hOi.kept b2
        · show l.length - ((i : Int) + 1).toNat < l.length - (i : Int).toNat
          omega
      · rw [decide_eq_false hm] at hc2
        cases k with
        | zero => exact absurd (nodup_full hd hin hlen i hp) hm
        | succ k =>
        go_wp2_with (go_at_call 33; refine hc2.mono ?_)
        rintro e W2 ⟨rfl, b2⟩
        have hO2 := hOi.kept b2
        have hr2 := hri.kept (KeptB.of b2)
        have z2 := hO2.sz
        have hr2' := hr2
        obtain ⟨g, cap, cur, rfl, g1, g2, g3, g4, g5, g6, g7⟩ := hr2'
        have hgl : g < W2.heap.size := (Array.getElem?_eq_some_iff.1 g4).1
        have hn1 : ∀ (j : Nat) (u : Value), (o.map (Value.int .i64))[j]? = some u → (W2.alloc (.cells #[] 3)).cell? ((⟨g, 0, none⟩ : Addr).add j) = some u := fun j u hu => by
          rw [add_zero_at, Lib.cell_of_heap (past_alloc _ g4)]
          exact g7 j u hu
        have hn2 : ∀ u ∈ o.map (Value.int .i64), u.oneCell' = true := fun u hu => by
          obtain ⟨x, _, rfl⟩ := List.mem_map.1 hu
          rfl
        have hmx : o.length + 1 ≤ maxLen := by unfold maxLen; omega
        have hlen2 : (o ++ [(i : Int)]).length = o.length + 1 := by simp
        have hC := fun (w4 : World) (v2 : Value) => ih k (by omega) w4 (stE l (k + 1) o s i) v2 (o ++ [(i : Int)]) (by rw [hlen2]; omega)
          (List.nodup_append.2 ⟨hd, by simp, fun x hx y hy e => by rw [List.mem_singleton.1 hy] at e; exact hm (e ▸ hx)⟩)
          (fun x hx => by
            rcases List.mem_append.1 hx with hx | hx
            · exact hin x hx
            · rw [List.mem_singleton.1 hx]
              omega)
        go_wp2_with (first
          | (at_builtin; refine wpList_append_own _ rfl _ _ 24 rfl W2.heap.size 3 i0 (.int .i64 0) 1 8 Tryz.underlying24 hi hz0 hz1 hz2 rfl (by decide) (.slice (some ⟨W2.heap.size, 0, none⟩) 0 0) 0 [] rfl ⟨rfl, .inr ⟨_, 0, #[], rfl, Nat.le_refl _, at_alloc _ rfl, Nat.le_refl _, Nat.zero_le _, rfl, rfl⟩⟩ ⟨g, 0, none⟩ o.length cap (o.map (Value.int .i64)) rfl (by rw [List.length_map, Nat.mul_one]) hn1 hn2 (by omega) (by omega) (World.grownBy_alloc W2 _ none).size ?_; intro v1 w3 hown1 hgrow1 hnil1; rw [Nat.zero_add, List.nil_append] at hown1; have bw3 : Below W2.heap.size W2 w3 := ((Below.refl _ W2).alloc (Nat.le_refl _) _).grown hgrow1 (World.grownBy_alloc W2 _ none).size (fun j hj => by have : W2.heap.size = j := Option.some.inj hj; omega); have hne1 : v1 ≠ .slice none 0 0 := fun e => by simpa using (hnil1.1 e).1)
          | (at_builtin; refine wpList_append_own _ rfl _ _ 24 rfl W2.heap.size 3 i0 (.int .i64 0) 1 8 Tryz.underlying24 hi hz0 hz1 hz2 rfl (by decide) v1 _ _ rfl (hown1.alloc _) ⟨w3.heap.size, 0, none⟩ 1 1 [.int .i64 i] rfl rfl (cell_one_new _ _ _) (by intro u hu; simp at hu; subst hu; rfl) hmx (by omega) (Nat.le_trans bw3.size (World.grownBy_alloc w3 _ none).size) ?_; intro v2 w4 hown2 hgrow2 hnil2; have bw4 : Below W2.heap.size W2 w4 := (bw3.alloc bw3.size _).grown hgrow2 (Nat.le_trans bw3.size (World.grownBy_alloc w3 _ none).size) (fun j hj => (hown1.lt j hj).1); have hne2 : v2 ≠ .slice none 0 0 := fun e => hne1 (hnil2.1 e).1; have hr4 : RowI w4 B v2 (o ++ [(i : Int)]) := RowI.of (b := W2.heap.size) (by rw [hlen2, List.map_append]; exact hown2) z2 hne2; have hc3 := hC w4 v2 (hO2.kept bw4) hr4)
          | (go_at_call 57; refine hc3.mono ?_))
        rintro e W5 ⟨rfl, hO5, k5⟩
        go_wp2
        refine ⟨⟨i + 1, congrArg (Value.int .i64) (by omega), by omega, ?_, ((ki.trans (KeptB.of b2)).trans (KeptB.of bw4)).trans k5⟩, ?_⟩
        · rw [stE_out l k o s i hm]
          exact hO5
        · show l.length - ((i : Int) + 1).toNat < l.length - (i : Int).toNat
          omega
    · have hpi : ¬ (i : Int) < (l.length : Int) := by omega
      have hin' : i = l.length := by omega
      subst hin'
      rw [stE_end] at hOi
      go_wp2
      go_returns
      exact ⟨rfl, hOi, ki⟩
end Go.Proofs.YtaphcpfkgpaefaaGreat
/-
  impl.leastOrder and impl.LeastLateness, walked by hand; what they come to.
-/
namespace Go.Proofs.YtaphcpfkgpaefaaGreat
open Go Go.Proofs Go.V Go.RowKit
set_option linter.unusedSimpArgs false
set_option linter.unusedVariables false

set_option maxHeartbeats 4000000 in
set_option maxRecDepth 1000000 in
theorem least_walk {l : List Od} {A : Option Addr} {c : Nat} {F : Nat → Prop} {L : Nat} (hg : ∀ x ∈ l, isOd x = true) (h8 : l.length ≤ 8) (W : World) (hrep : RepV W F (ods l) (.slice A l.length c)) (hF : ∀ b, F b → b < W.heap.size) (hL : L < W.heap.size)
    (bL : W.heap[L]? = some (.cells #[.slice A l.length c] 23 (0, 0))) :
    Calls Tryz.prog 38 #[.int .i64 l.length, .func (.func 39) #[] #[.pointer (some ⟨L, 0, none⟩)]] W fun e W' =>
      ∃ v, e = .returned (.tuple #[v, .int .i64 (firstS l l.length []).2]) ∧ RowI W' W.heap.size v (firstS l l.length []).1 ∧ Below W.heap.size W W' := by
  go_enter Tryz.func38, Tryz.ntmps38
  have hb6 : ∀ a0 a1 a2 a3 a4 a5, Below W.heap.size W ((((((W.alloc a0).alloc a1).alloc a2).alloc a3).alloc a4).alloc a5) := fun a0 a1 a2 a3 a4 a5 =>
    ((((((Below.refl _ W).alloc (Nat.le_refl _) _).alloc (by simp) _).alloc (by simp; omega) _).alloc (by simp; omega) _).alloc (by simp; omega) _).alloc (by simp; omega) _
  go_wp2_with (go_at_call 57; refine (each_walk (B := W.heap.size) (L := L) (F := F) (A := A) (c := c) hg h8 l.length _ ([], -1) _ [] (by simp) (by simp) (by simp) ?_ ?_).mono ?_)
  · refine ⟨RepV_mono (fun _ h => h) (fun b hb => (hb6 _ _ _ _ _ _).block b (hF b hb)) hrep, hF, hL, ((hb6 _ _ _ _ _ _).block L hL).trans bL, ?_, ?_, ?_, ⟨.slice (some ⟨W.heap.size + 1 + 1, 0, none⟩) 0 0, ?_, ?_⟩, by simp⟩
    · exact past_alloc _ (past_alloc _ (past_alloc _ (past_alloc _ (past_alloc _ (at_alloc _ rfl)))))
    · exact past_alloc _ (past_alloc _ (past_alloc _ (past_alloc _ (at_alloc _ (by simp)))))
    · exact past_alloc _ (at_alloc _ (by simp))
    · exact past_alloc _ (past_alloc _ (at_alloc _ (by simp)))
    · exact ⟨W.heap.size + 1 + 1, 0, #[], rfl, by omega, by omega, by omega, past_alloc _ (past_alloc _ (past_alloc _ (at_alloc _ (by simp)))), Nat.le_refl _, Nat.le_refl _, fun i u hu => by simp at hu⟩
  · exact ⟨W.heap.size + 1 + 1 + 1 + 1 + 1, 0, #[], rfl, by omega, by omega, by omega, at_alloc _ (by simp), Nat.le_refl _, Nat.le_refl _, fun i u hu => by simp at hu⟩
  rintro e W1 ⟨rfl, hO, k1⟩
  rw [each_all] at hO
  obtain ⟨v, p1, p2⟩ := hO.bb
  obtain ⟨b0, b00⟩ := box_cell p1
  obtain ⟨l0, l00⟩ := box_cell hO.bl
  go_wp2
  go_still (by kernel_rfl)
  change Exit.then _ _ _ _ W1.drew
  go_wp2
  go_ret2
  exact ⟨v, rfl, p2, ((hb6 _ _ _ _ _ _).trans (k1.below (by simp; omega))).drew⟩

def lstR (l : List Od) : List Int := if goodO l = true then (firstS l l.length []).1 else []
def lstM (l : List Od) : Int := if goodO l = true then (firstS l l.length []).2 else 0
set_option maxHeartbeats 2000000 in
set_option maxRecDepth 1000000 in
theorem lateness_walk (l : List Od) (h : l.length ≤ 1048576) (A : Option Addr) (c : Nat) (w : World) (F : Nat → Prop) (hr : RepV w F (ods l) (.slice A l.length c)) (hF : ∀ b, F b → b < w.heap.size) :
    Calls Tryz.prog 16 #[.slice A l.length c] w fun e w' => ∃ g cap cur, e = .returned (.tuple #[.slice (some ⟨g, 0, none⟩) (lstR l).length cap, .int .i64 (lstM l), .bool (goodO l)]) ∧ Below w.heap.size w w' ∧ w.heap.size ≤ g ∧
      w'.heap[g]? = some (.cells cur 3 (0, 0)) ∧ (lstR l).length ≤ cap ∧ cap ≤ cur.size ∧ ∀ (i : Nat) (u : Value), ((lstR l).map (Value.int .i64))[i]? = some u → cur[i]? = some u := by
  have hb0 : ∀ o, Below w.heap.size w (w.alloc o) := fun o => (Below.refl _ w).alloc (Nat.le_refl _) _
  have hr0 : ∀ o, RepV (w.alloc o) F (ods l) (.slice A l.length c) := fun o => RepV_mono (fun _ h => h) (fun b hb => (hb0 o).block b (hF b hb)) hr
  have hF0 : ∀ o, ∀ b, F b → b < (w.alloc o).heap.size := fun o b hb => Nat.lt_of_lt_of_le (hF b hb) (hb0 o).size
  have hc1 := fun o => call_AreOrders l h (hr0 o) (hF0 o)
  go_enter Tryz.func16, Tryz.ntmps16
  cases hgd : goodO l
  · rw [hgd] at hc1
    go_wp2_with (go_at_call 28; refine (hc1 _).mono ?_)
    rintro e w1 ⟨rfl, b1⟩
    go_wp2
    go_ret3
    have e1 : lstR l = [] := by simp [lstR, hgd]
    have e2 : lstM l = 0 := by simp [lstM, hgd]
    rw [e1, e2]
    have b01 := (hb0 _).trans (b1.mono (hb0 _).size)
    exact ⟨w1.heap.size, 0, #[], rfl, b01.alloc b01.size _, b01.size, at_alloc _ rfl, Nat.le_refl _, Nat.le_refl _, fun i u hu => by simp at hu⟩
  · rw [hgd] at hc1
    have hl8 := (goodO_all hgd).2
    have e1 : lstR l = (firstS l l.length []).1 := by simp [lstR, hgd]
    have e2 : lstM l = (firstS l l.length []).2 := by simp [lstM, hgd]
    rw [e1, e2]
    go_wp2_with (go_at_call 28; refine (hc1 _).mono ?_)
    rintro e w1 ⟨rfl, b1⟩
    have hbL : w1.heap[w.heap.size]? = some (.cells #[.slice A l.length c] 23 (0, 0)) := (b1.block _ (by simp)).trans (at_alloc _ rfl)
    obtain ⟨x0, x00⟩ := box_cell hbL
    have b01 := (hb0 (.cells #[.slice A l.length c] 23 (0, 0))).trans (b1.mono (hb0 _).size)
    have hL1 : w.heap.size < w1.heap.size := (Array.getElem?_eq_some_iff.1 hbL).1
    have hc2 := least_walk (goodO_all hgd).1 hl8 w1 (RepV_mono (fun _ h => h) (fun b hb => b01.block b (hF b hb)) hr) (fun b hb => Nat.lt_of_lt_of_le (hF b hb) b01.size) hL1 hbL
    go_wp2_with (go_at_call 38; refine hc2.mono ?_)
    rintro e w2 ⟨v, rfl, hrow, b2⟩
    obtain ⟨g, cap, cur, rfl, g1, g2, g3, g4, g5, g6, g7⟩ := hrow
    go_wp2
    go_ret3
    exact ⟨g, cap, cur, rfl, b01.trans (b2.mono b01.size), Nat.le_trans b01.size g1, g4, g5, g6, g7⟩
end Go.Proofs.YtaphcpfkgpaefaaGreat
/-
  impl.LeastLateness's contract; the other side.
-/
namespace Go.Proofs.YtaphcpfkgpaefaaGreat
open Go Go.Proofs Go.V Go.RowKit
set_option linter.unusedSimpArgs false
set_option linter.unusedVariables false

theorem lstR_len (l : List Od) (h8 : l.length ≤ 100) : (lstR l).length ≤ 100 := by
  unfold lstR
  split
  · exact first_len l l.length [] (by simpa using h8)
  · simp
theorem e_spec_l1Has0 (n : Int) : F_spec_l1Has [D.arr 0 [], I n] = some (.ret [B false] []) := by
  rw [t_spec_l1Has]
  refine loop_bind _ (loop_all ([] : List Int) (fun i => [I n, D.arr 0 [], I 0, I i]) (fun _ x => !decide (x = n)) (.ret [B true] []) (.ext 0 []) (fun i hi => absurd hi (Nat.not_lt_zero _)) ?_ rfl rfl rfl) ?_
  · simp
  · simp [allI]
theorem e_spec_l1Own0 : F_spec_l1Own [D.arr 0 []] = some (.ret [ints []] []) := by
  rw [t_spec_l1Own]
  simp [mkArr, lenOkD, chkA, appD]
set_option maxHeartbeats 1000000 in
theorem e_first0 (l : List Od) (hg : ∀ x ∈ l, isOd x = true) (h8 : l.length ≤ 8) (k : Nat) (hk : l.length = k + 1) : F_spec_orFirst [ods l, D.arr 0 []] = some (.ret [ints (firstS l (k + 1) []).1, I (firstS l (k + 1) []).2] []) := by
  have hne : ¬ (0 : Int) = l.length := by omega
  have ho := e_spec_l1Own0
  unfold F_spec_orFirst
  rw [t_spec_orFirst]
  simp -implicitDefEqProofs only [sl_zero, sl_succ, liveD_agg, liveD_ref, liveD_arr, ref0_eq, Option.bind_some, Option.map_some, callK_ret, gate_t, gate_f, gate_s, gateC_t, gateC_f, gateC_s, nrmK_some, pickD_B, ifD_B, ifN_B, if_true, if_false, Bool.false_eq_true, un_not, Bool.not_true, Bool.not_false, decide_true, decide_false, and_self, outK_ext, Nat.beq_refl, bin_lss, bin_gtr, bin_leq, bin_geq, bin_eql, bin_neq, bin_add, bin_sub, bin_mul, lenD_arr, lenD_str, List.length_map, ldD_ptr, takeD_f, chkV_v, offD_ptr, List.drop_zero, List.drop_succ_cons, atD_agg, mkArr_nil, Int.reduceLT, Int.reduceLE, Int.reduceEq, hne, List.length_nil, Int.natCast_zero]
  refine loop_bind _ (loop_for l.length (fun i => [ods l, D.arr 0 [], ints ((List.range i).foldl (stepF l (firstS l k) []) ([], -1)).1, I ((List.range i).foldl (stepF l (firstS l k) []) ([], -1)).2, I l.length, I i]) (.ext 0 [ints (firstS l (k + 1) []).1, I (firstS l (k + 1) []).2]) (fun i hi => ?_) ?_ rfl rfl) ?_
  · have hw : IntKind.i64.wrap ((i : Int) + 1) = (i : Int) + 1 := wrap_id (by omega) (by omega)
    rw [List.range_succ, List.foldl_append, List.foldl_cons, List.foldl_nil]
    generalize (List.range i).foldl (stepF l (firstS l k) []) ([], -1) = s
    obtain ⟨sb, sm⟩ := s
    have hh := e_spec_l1Has0 i
    have hi' : (i : Int) < l.length := by omega
    have hmem : ¬ (i : Int) ∈ ([] : List Int) := by simp
    have ha := app_ints (l := []) (m := [(i : Int)]) (by simp)
    rw [List.nil_append] at ha
    have hin2 : ∀ x ∈ [(i : Int)], 0 ≤ x ∧ x < l.length := fun x hx => by
      have := List.mem_singleton.1 hx
      omega
    have hw1 := e_spec_orWorst l [(i : Int)] hg hin2 (by simp)
    have ih := e_first l hg h8 k 8 [(i : Int)] (by omega) (by simp; omega) hin2
    by_cases h0 : 0 ≤ sm
    · have hn : ¬ sm < 0 := by omega
      by_cases hc : sm ≤ costO l [(i : Int)]
      · have e : stepF l (firstS l k) [] (sb, sm) i = (sb, sm) := by unfold stepF; rw [if_neg hmem, List.nil_append, if_pos ⟨h0, hc⟩]
        rw [e]
        simp -implicitDefEqProofs only [sl_zero, sl_succ, liveD_agg, liveD_ref, liveD_arr, ref0_eq, Option.bind_some, Option.map_some, callK_ret, gate_t, gate_f, gate_s, gateC_t, gateC_f, gateC_s, nrmK_some, pickD_B, ifD_B, ifN_B, if_true, if_false, Bool.false_eq_true, un_not, Bool.not_true, Bool.not_false, decide_true, decide_false, and_self, outK_ext, Nat.beq_refl, bin_lss, bin_gtr, bin_leq, bin_geq, bin_eql, bin_neq, bin_add, bin_sub, bin_mul, lenD_arr, lenD_str, List.length_map, ldD_ptr, takeD_f, chkV_v, offD_ptr, List.drop_zero, List.drop_succ_cons, atD_agg, mkArr_nil, Int.reduceLT, Int.reduceLE, Int.reduceEq, hi', hh, hw, ho, one_int, ha, h0, hw1, hc, Int.natCast_add, Int.natCast_one]
      · by_cases hlt : (firstS l k [(i : Int)]).2 < sm
        · have e : stepF l (firstS l k) [] (sb, sm) i = firstS l k [(i : Int)] := by unfold stepF; rw [if_neg hmem, List.nil_append, if_neg (fun h => hc h.2)]; unfold combB; rw [if_pos (.inr hlt)]
          rw [e]
          simp -implicitDefEqProofs only [sl_zero, sl_succ, liveD_agg, liveD_ref, liveD_arr, ref0_eq, Option.bind_some, Option.map_some, callK_ret, gate_t, gate_f, gate_s, gateC_t, gateC_f, gateC_s, nrmK_some, pickD_B, ifD_B, ifN_B, if_true, if_false, Bool.false_eq_true, un_not, Bool.not_true, Bool.not_false, decide_true, decide_false, and_self, outK_ext, Nat.beq_refl, bin_lss, bin_gtr, bin_leq, bin_geq, bin_eql, bin_neq, bin_add, bin_sub, bin_mul, lenD_arr, lenD_str, List.length_map, ldD_ptr, takeD_f, chkV_v, offD_ptr, List.drop_zero, List.drop_succ_cons, atD_agg, mkArr_nil, Int.reduceLT, Int.reduceLE, Int.reduceEq, hi', hh, hw, ho, one_int, ha, h0, hw1, hc, ih, hn, hlt, tupAt_ints0, tupAt_v1, Int.natCast_add, Int.natCast_one]
        · have e : stepF l (firstS l k) [] (sb, sm) i = (sb, sm) := by unfold stepF; rw [if_neg hmem, List.nil_append, if_neg (fun h => hc h.2)]; unfold combB; rw [if_neg (fun h => h.elim hn hlt)]
          rw [e]
          simp -implicitDefEqProofs only [sl_zero, sl_succ, liveD_agg, liveD_ref, liveD_arr, ref0_eq, Option.bind_some, Option.map_some, callK_ret, gate_t, gate_f, gate_s, gateC_t, gateC_f, gateC_s, nrmK_some, pickD_B, ifD_B, ifN_B, if_true, if_false, Bool.false_eq_true, un_not, Bool.not_true, Bool.not_false, decide_true, decide_false, and_self, outK_ext, Nat.beq_refl, bin_lss, bin_gtr, bin_leq, bin_geq, bin_eql, bin_neq, bin_add, bin_sub, bin_mul, lenD_arr, lenD_str, List.length_map, ldD_ptr, takeD_f, chkV_v, offD_ptr, List.drop_zero, List.drop_succ_cons, atD_agg, mkArr_nil, Int.reduceLT, Int.reduceLE, Int.reduceEq, hi', hh, hw, ho, one_int, ha, h0, hw1, hc, ih, hn, hlt, tupAt_ints0, tupAt_v1, Int.natCast_add, Int.natCast_one]
    · have hn : sm < 0 := by omega
      have e : stepF l (firstS l k) [] (sb, sm) i = firstS l k [(i : Int)] := by unfold stepF; rw [if_neg hmem, List.nil_append, if_neg (fun h => h0 h.1)]; unfold combB; rw [if_pos (.inl hn)]
      rw [e]
      simp -implicitDefEqProofs only [sl_zero, sl_succ, liveD_agg, liveD_ref, liveD_arr, ref0_eq, Option.bind_some, Option.map_some, callK_ret, gate_t, gate_f, gate_s, gateC_t, gateC_f, gateC_s, nrmK_some, pickD_B, ifD_B, ifN_B, if_true, if_false, Bool.false_eq_true, un_not, Bool.not_true, Bool.not_false, decide_true, decide_false, and_self, outK_ext, Nat.beq_refl, bin_lss, bin_gtr, bin_leq, bin_geq, bin_eql, bin_neq, bin_add, bin_sub, bin_mul, lenD_arr, lenD_str, List.length_map, ldD_ptr, takeD_f, chkV_v, offD_ptr, List.drop_zero, List.drop_succ_cons, atD_agg, mkArr_nil, Int.reduceLT, Int.reduceLE, Int.reduceEq, hi', hh, hw, ho, one_int, ha, h0, ih, hn, tupAt_ints0, tupAt_v1, Int.natCast_add, Int.natCast_one]
  · simp -implicitDefEqProofs only [sl_zero, sl_succ, liveD_agg, liveD_ref, liveD_arr, ref0_eq, Option.bind_some, Option.map_some, callK_ret, gate_t, gate_f, gate_s, gateC_t, gateC_f, gateC_s, nrmK_some, pickD_B, ifD_B, ifN_B, if_true, if_false, Bool.false_eq_true, un_not, Bool.not_true, Bool.not_false, decide_true, decide_false, and_self, outK_ext, Nat.beq_refl, bin_lss, bin_gtr, bin_leq, bin_geq, bin_eql, bin_neq, bin_add, bin_sub, bin_mul, lenD_arr, lenD_str, List.length_map, ldD_ptr, takeD_f, chkV_v, offD_ptr, List.drop_zero, List.drop_succ_cons, atD_agg, mkArr_nil, Int.reduceLT, Int.reduceLE, Int.reduceEq, Int.lt_irrefl]
    rfl
  · simp -implicitDefEqProofs only [sl_zero, sl_succ, liveD_agg, liveD_ref, liveD_arr, ref0_eq, Option.bind_some, Option.map_some, callK_ret, gate_t, gate_f, gate_s, gateC_t, gateC_f, gateC_s, nrmK_some, pickD_B, ifD_B, ifN_B, if_true, if_false, Bool.false_eq_true, un_not, Bool.not_true, Bool.not_false, decide_true, decide_false, and_self, outK_ext, Nat.beq_refl, bin_lss, bin_gtr, bin_leq, bin_geq, bin_eql, bin_neq, bin_add, bin_sub, bin_mul, lenD_arr, lenD_str, List.length_map, ldD_ptr, takeD_f, chkV_v, offD_ptr, List.drop_zero, List.drop_succ_cons, atD_agg, mkArr_nil, Int.reduceLT, Int.reduceLE, Int.reduceEq]
theorem orWorst0 : F_spec_orWorst [ods [], D.arr 0 []] = some (.ret [I (costO [] [])] []) := by
  have h1 : F_spec_orTimes [ods [], D.arr 0 []] = some (.ret [ints [], I 0] []) := by
    rw [t_spec_orTimes]
    refine loop_bind _ (loop_for 0 (fun i => [ods [], D.arr 1 [], I 0, I 0, I 0, D.arr 0 [], I 0, I i]) (.ext 0 [D.arr 1 [], I 0]) (fun i hi => absurd hi (Nat.not_lt_zero _)) ?_ rfl rfl) ?_
    · simp
    · simp
  have h2 : F_spec_orLate [ods [], D.arr 0 []] = some (.ret [ints []] []) := by
    rw [t_spec_orLate, h1]
    refine loop_bind _ (loop_for 0 (fun i => [ods [], ints [], D.arr 1 [], D.arr 0 [], I 0, I i]) (.ext 0 [D.arr 1 []]) (fun i hi => absurd hi (Nat.not_lt_zero _)) ?_ rfl rfl) ?_
    · simp
    · simp
  rw [t_spec_orWorst, h2]
  refine loop_bind _ (loop_for 0 (fun i => [I 0, ints [], I 0, I i]) (.ext 0 [I 0]) (fun i hi => absurd hi (Nat.not_lt_zero _)) ?_ rfl rfl) ?_
  · simp
  · simp [costO, mostL, lateO]
/-- What the other side hands back. -/
def lstW (l : List Od) : D := if goodO l = true ∧ l = [] then D.arr 0 [] else ints (lstR l)
theorem e_spec_LeastLateness (l : List Od) (h : l.length ≤ 1048576) : F_spec_LeastLateness [ods l] = some (.ret [lstW l, I (lstM l), B (goodO l)] []) := by
  have h1 := e_spec_orGood l h
  rw [t_spec_LeastLateness]
  cases hgd : goodO l
  · rw [hgd] at h1
    have e1 : lstW l = D.arr 1 [] := by simp [lstW, lstR, hgd]
    have e2 : lstM l = 0 := by simp [lstM, hgd]
    rw [e1, e2]
    simp -implicitDefEqProofs only [sl_zero, sl_succ, liveD_agg, liveD_ref, liveD_arr, ref0_eq, Option.bind_some, Option.map_some, callK_ret, gate_t, gate_f, gate_s, gateC_t, gateC_f, gateC_s, nrmK_some, pickD_B, ifD_B, ifN_B, if_true, if_false, Bool.false_eq_true, un_not, Bool.not_true, Bool.not_false, decide_true, decide_false, and_self, outK_ext, Nat.beq_refl, bin_lss, bin_gtr, bin_leq, bin_geq, bin_eql, bin_neq, bin_add, bin_sub, bin_mul, lenD_arr, lenD_str, List.length_map, ldD_ptr, takeD_f, chkV_v, offD_ptr, List.drop_zero, List.drop_succ_cons, atD_agg, mkArr_nil, Int.reduceLT, Int.reduceLE, Int.reduceEq, h1]
  · rw [hgd] at h1
    have hl8 := (goodO_all hgd).2
    cases hk : l.length with
    | zero =>
      have e0 := List.length_eq_zero_iff.1 hk
      subst e0
      have e1 : lstW [] = D.arr 0 [] := by simp [lstW, hgd]
      have e2 : lstM [] = costO [] [] := by simp [lstM, hgd, firstS]
      rw [e1, e2]
      have hf : F_spec_orFirst [ods [], D.arr 0 []] = some (.ret [D.arr 0 [], I (costO [] [])] []) := by
        have hw0 := orWorst0
        unfold F_spec_orFirst
        rw [t_spec_orFirst]
        simp -implicitDefEqProofs only [sl_zero, sl_succ, liveD_agg, liveD_ref, liveD_arr, ref0_eq, Option.bind_some, Option.map_some, callK_ret, gate_t, gate_f, gate_s, gateC_t, gateC_f, gateC_s, nrmK_some, pickD_B, ifD_B, ifN_B, if_true, if_false, Bool.false_eq_true, un_not, Bool.not_true, Bool.not_false, decide_true, decide_false, and_self, outK_ext, Nat.beq_refl, bin_lss, bin_gtr, bin_leq, bin_geq, bin_eql, bin_neq, bin_add, bin_sub, bin_mul, lenD_arr, lenD_str, List.length_map, ldD_ptr, takeD_f, chkV_v, offD_ptr, List.drop_zero, List.drop_succ_cons, atD_agg, mkArr_nil, Int.reduceLT, Int.reduceLE, Int.reduceEq, List.length_nil, eq_self, hw0, List.map_nil]
      simp -implicitDefEqProofs only [sl_zero, sl_succ, liveD_agg, liveD_ref, liveD_arr, ref0_eq, Option.bind_some, Option.map_some, callK_ret, gate_t, gate_f, gate_s, gateC_t, gateC_f, gateC_s, nrmK_some, pickD_B, ifD_B, ifN_B, if_true, if_false, Bool.false_eq_true, un_not, Bool.not_true, Bool.not_false, decide_true, decide_false, and_self, outK_ext, Nat.beq_refl, bin_lss, bin_gtr, bin_leq, bin_geq, bin_eql, bin_neq, bin_add, bin_sub, bin_mul, lenD_arr, lenD_str, List.length_map, ldD_ptr, takeD_f, chkV_v, offD_ptr, List.drop_zero, List.drop_succ_cons, atD_agg, mkArr_nil, Int.reduceLT, Int.reduceLE, Int.reduceEq, h1, hf]
      rfl
    | succ k =>
      have hf := e_first0 l (goodO_all hgd).1 hl8 k hk
      have hne : l ≠ [] := fun e => by rw [e] at hk; simp at hk
      have e1 : lstW l = ints (firstS l (k + 1) []).1 := by simp [lstW, lstR, hgd, hne, hk]
      have e2 : lstM l = (firstS l (k + 1) []).2 := by simp [lstM, hgd, hk]
      rw [e1, e2]
      simp -implicitDefEqProofs only [sl_zero, sl_succ, liveD_agg, liveD_ref, liveD_arr, ref0_eq, Option.bind_some, Option.map_some, callK_ret, gate_t, gate_f, gate_s, gateC_t, gateC_f, gateC_s, nrmK_some, pickD_B, ifD_B, ifN_B, if_true, if_false, Bool.false_eq_true, un_not, Bool.not_true, Bool.not_false, decide_true, decide_false, and_self, outK_ext, Nat.beq_refl, bin_lss, bin_gtr, bin_leq, bin_geq, bin_eql, bin_neq, bin_add, bin_sub, bin_mul, lenD_arr, lenD_str, List.length_map, ldD_ptr, takeD_f, chkV_v, offD_ptr, List.drop_zero, List.drop_succ_cons, atD_agg, mkArr_nil, Int.reduceLT, Int.reduceLE, Int.reduceEq, h1, hf, tupAt_ints0, tupAt_v1]

def fLst : List D → Option Out
  | [.arr _ ds] => (odsOf ds).bind fun l => if l.length ≤ 1048576 then some (.ret [ints (lstR l), I (lstM l), B (goodO l)] []) else none
  | _ => none
@[reducible] def S_impl_LeastLateness : FS := { pm := [.dat 2], rm := [.own 1 0 false, .dat 0, .dat 0], f := fLst }
set_option maxRecDepth 100000 in
theorem M_impl_LeastLateness : Meets gl0 Tryz.prog 16 S_impl_LeastLateness := by
  have he : ∀ args w, (callFunc 16 args).run Tryz.prog w = .ok (.enter 16 args) w := Go.Proofs.enters_of Tryz.func16 (by kernel_rfl) rfl
  refine meets_of_calls he fun ds rs us hd args w F ow hg ha hF _ => ?_
  obtain ⟨d, y, rfl, h2, h3⟩ := args_one ha
  replace hd : fLst [d] = some (.ret rs us) := hd
  unfold fLst at hd
  split at hd
  case h_2 => cases hd
  rename_i z ds e
  cases e
  obtain ⟨l, hl, hd'⟩ := Option.bind_eq_some_iff.1 hd
  clear hd
  split at hd'
  case isFalse => cases hd'
  rename_i hz
  cases hd'
  obtain rfl := odsOf_some _ _ hl
  rcases h3 with h3 | h3
  · cases h3
  replace h3 : RepV w F (.arr z (l.map od)) y := h3
  have h3' := h3
  simp only [RepV, RepC] at h3
  obtain ⟨A, c, us', hy, hc, hr, hz2, hA⟩ := h3
  simp only [List.cons.injEq, and_true] at hy
  subst hy
  rw [rep_ods l us' hr] at hA
  rw [size1 h2]
  rw [List.length_map] at hc h3' ⊢
  have hrep : RepV w F (ods l) (.slice A l.length c) := by
    simp only [RepV, RepC]
    refine ⟨A, c, us', by rw [List.length_map], by rw [List.length_map]; exact hc, hr, fun d hd => ?_, fun hne => ?_⟩
    · obtain ⟨x, _, rfl⟩ := List.mem_map.1 hd
      rfl
    · obtain ⟨b, o, h5, h6, h7⟩ := hA hne
      exact ⟨b, o, h5, h6, by rw [rep_ods l us' hr]; exact h7⟩
  refine (lateness_walk l hz A c w F hrep (fun b hb => (hF b hb).1)).mono ?_
  · rintro e w' ⟨gg, cap, cur, rfl, hB, hgg, hcell, hcap, hcs, hrow⟩
    refine ⟨_, rfl, F, fun b => if b = gg then some 0 else none, [_, _, _], rfl, post_own _ hB hF (fun b j hb => ?_) rfl rfl rfl rfl fun j => ?_⟩
    · split at hb
      · rename_i e
        subst e
        exact ⟨hgg, (Array.getElem?_eq_some_iff.1 hcell).1⟩
      · cases hb
    · match j with
      | 0 =>
        refine .inr ⟨(lstR l).map I, rfl, fun x hx => ?_, .inr ⟨gg, 0, cap, (lstR l).map (Value.int .i64), cur, _, ?_, ?_, hcell, by omega, RepL_ints _, fun i u hu => ?_, by simp, hgg⟩⟩
        · obtain ⟨s, _, rfl⟩ := List.mem_map.1 hx
          rfl
        · rw [List.length_map]
          rfl
        · rw [List.length_map]
          exact hcap
        · rw [Nat.zero_add]
          exact hrow i u hu
      | 1 => exact .inr (RepV_v.2 ⟨rfl, rfl⟩)
      | 2 => exact .inr (RepV_v.2 ⟨rfl, rfl⟩)
      | j + 3 => exact .inl rfl
end Go.Proofs.YtaphcpfkgpaefaaGreat
/-
  The library's insertion sort and the reference's: plain facts.
-/
namespace Go.Proofs.YtaphcpfkgpaefaaGreat
open Go Go.Proofs Go.V Go.Sort
set_option linter.unusedSimpArgs false

/-- Where a number comes to stand, from a place on backwards. -/
def posG (lt : Nat → Nat → Bool) (x : Nat) (A : List Nat) : Nat → Nat
  | 0 => 0
  | k + 1 => if lt x (A.getD k 0) = true then posG lt x A k else k + 1
def insS (lt : Nat → Nat → Bool) (x : Nat) (A : List Nat) : List Nat := A.take (posG lt x A A.length) ++ x :: A.drop (posG lt x A A.length)
def srt (lt : Nat → Nat → Bool) (l a : List Nat) : List Nat := l.foldl (fun o x => insS lt x o) a
theorem posG_le (lt : Nat → Nat → Bool) (x : Nat) (A : List Nat) : ∀ k, posG lt x A k ≤ k
  | 0 => Nat.le_refl _
  | k + 1 => by
    unfold posG
    split
    · exact Nat.le_succ_of_le (posG_le lt x A k)
    · exact Nat.le_refl _
theorem posG_app (lt : Nat → Nat → Bool) (x y : Nat) (A : List Nat) : ∀ k, k ≤ A.length → posG lt x (A ++ [y]) k = posG lt x A k
  | 0, _ => rfl
  | k + 1, h => by
    have e : (A ++ [y]).getD k 0 = A.getD k 0 := by
      rw [List.getD_eq_getElem?_getD, List.getD_eq_getElem?_getD, List.getElem?_append_left (by omega)]
    unfold posG
    rw [e, posG_app lt x y A k (by omega)]
theorem getD_last (A : List Nat) (y : Nat) : (A ++ [y]).getD A.length 0 = y := by simp
theorem insS_lt {lt : Nat → Nat → Bool} {x y : Nat} (A : List Nat) (h : lt x y = true) : insS lt x (A ++ [y]) = insS lt x A ++ [y] := by
  have e : posG lt x (A ++ [y]) (A ++ [y]).length = posG lt x A A.length := by
    rw [List.length_append]
    have hs : posG lt x (A ++ [y]) (A.length + 1) = if lt x ((A ++ [y]).getD A.length 0) = true then posG lt x (A ++ [y]) A.length else A.length + 1 := rfl
    show posG lt x (A ++ [y]) (A.length + 1) = _
    rw [hs, getD_last, if_pos h, posG_app _ _ _ _ _ (Nat.le_refl _)]
  have hp := posG_le lt x A A.length
  unfold insS
  rw [e, List.take_append_of_le_length hp, List.drop_append_of_le_length hp, List.append_assoc, List.cons_append]
theorem insS_ge {lt : Nat → Nat → Bool} {x y : Nat} (A : List Nat) (h : lt x y = false) : insS lt x (A ++ [y]) = A ++ [y, x] := by
  have e : posG lt x (A ++ [y]) (A ++ [y]).length = (A ++ [y]).length := by
    rw [List.length_append]
    have hs : posG lt x (A ++ [y]) (A.length + 1) = if lt x ((A ++ [y]).getD A.length 0) = true then posG lt x (A ++ [y]) A.length else A.length + 1 := rfl
    show posG lt x (A ++ [y]) (A.length + 1) = A.length + 1
    rw [hs, getD_last, if_neg (by rw [h]; exact Bool.false_ne_true)]
  unfold insS
  rw [e, List.take_of_length_le (Nat.le_refl _), List.drop_of_length_le (Nat.le_refl _), List.append_assoc]
  rfl
theorem insS_length (lt : Nat → Nat → Bool) (x : Nat) (A : List Nat) : (insS lt x A).length = A.length + 1 := by
  have hp := posG_le lt x A A.length
  unfold insS
  simp
  omega
theorem swp_last (A B : List Nat) (y x : Nat) : swp (A ++ [y] ++ x :: B).toArray (A.length + 1) A.length = (A ++ x :: y :: B).toArray := by
  have e1 : (A ++ [y] ++ x :: B).toArray[A.length + 1]! = x := by simp
  have e2 : (A ++ [y] ++ x :: B).toArray[A.length]! = y := by simp
  unfold swp
  rw [e1, e2]
  simp
theorem ins_kit (lt : Nat → Nat → Bool) (x : Nat) : ∀ (n : Nat) (A B : List Nat), A.length = n → insInner lt 0 n (A ++ x :: B).toArray = (insS lt x A ++ B).toArray
  | 0, A, B, h => by
    have h0 : A = [] := List.eq_nil_of_length_eq_zero h
    subst h0
    rw [insInner]
    rfl
  | n + 1, A, B, h => by
    have hne : A ≠ [] := fun e => by rw [e] at h; cases h
    obtain ⟨A', y, rfl⟩ : ∃ A' y, A = A' ++ [y] := ⟨A.dropLast, A.getLast hne, (List.dropLast_concat_getLast hne).symm⟩
    have hn : A'.length = n := by simpa using h
    have e1 : (A' ++ [y] ++ x :: B).toArray[n + 1]! = x := by rw [← hn]; simp
    have e2 : (A' ++ [y] ++ x :: B).toArray[n + 1 - 1]! = y := by rw [← hn]; simp
    cases hl : lt x y
    · rw [insInner_stop lt 0 (n + 1) _ (.inr (by rw [e1, e2]; exact hl)), insS_ge A' hl]
      simp
    · rw [insInner_go lt 0 (n + 1) _ (Nat.succ_pos n) (by rw [e1, e2]; exact hl), insS_lt A' hl, Nat.add_sub_cancel]
      rw [← hn, swp_last, hn, ins_kit lt x n A' (y :: B) hn]
      simp
theorem out_kit (lt : Nat → Nat → Bool) (n : Nat) : ∀ (r a : List Nat), a.length + r.length = n → insOuter lt 0 n a.length (a ++ r).toArray = (srt lt r a).toArray
  | [], a, h => by
    rw [insOuter_stop lt 0 n a.length _ (by simp at h; omega)]
    simp [srt]
  | x :: r, a, h => by
    simp only [List.length_cons] at h
    rw [insOuter_go lt 0 n a.length _ (by omega), ins_kit lt x a.length a r rfl]
    have := out_kit lt n r (insS lt x a) (by rw [insS_length]; omega)
    rw [insS_length] at this
    rw [this]
    rfl
theorem sort_kit (lt : Nat → Nat → Bool) (l : List Nat) : Sort.insertionSort lt l.toArray 0 l.length = (srt lt l []).toArray := by
  unfold Sort.insertionSort
  cases l with
  | nil => rw [insOuter_stop _ _ _ _ _ (by simp)]; rfl
  | cons x r => exact out_kit lt (x :: r).length r [x] (by simp; omega)
theorem mem_insS {lt : Nat → Nat → Bool} {x y : Nat} {A : List Nat} (h : y ∈ insS lt x A) : y = x ∨ y ∈ A := by
  unfold insS at h
  rcases List.mem_append.1 h with h | h
  · exact .inr (List.mem_of_mem_take h)
  · rcases List.mem_cons.1 h with h | h
    · exact .inl h
    · exact .inr (List.mem_of_mem_drop h)
theorem mem_srt {lt : Nat → Nat → Bool} {y : Nat} : ∀ (l a : List Nat), y ∈ srt lt l a → y ∈ l ∨ y ∈ a
  | [], a, h => .inr h
  | x :: l, a, h => by
    rcases mem_srt l (insS lt x a) h with h | h
    · exact .inl (by simp [h])
    · rcases mem_insS h with rfl | h
      · exact .inl (by simp)
      · exact .inr h
theorem posG_congr {lt lt' : Nat → Nat → Bool} {x : Nat} {A : List Nat} (h : ∀ y ∈ A, lt x y = lt' x y) : ∀ k, k ≤ A.length → posG lt x A k = posG lt' x A k
  | 0, _ => rfl
  | k + 1, hk => by
    have hm : A.getD k 0 ∈ A := by
      rw [List.getD_eq_getElem?_getD, List.getElem?_eq_getElem (by omega)]
      exact List.getElem_mem _
    unfold posG
    rw [h _ hm, posG_congr h k (by omega)]
theorem insS_congr {lt lt' : Nat → Nat → Bool} {x : Nat} {A : List Nat} (h : ∀ y ∈ A, lt x y = lt' x y) : insS lt x A = insS lt' x A := by
  unfold insS
  rw [posG_congr h _ (Nat.le_refl _)]
theorem srt_congr {lt lt' : Nat → Nat → Bool} (n : Nat) (h : ∀ x y, x < n → y < n → lt x y = lt' x y) : ∀ (l a : List Nat), (∀ x ∈ l, x < n) → (∀ x ∈ a, x < n) → srt lt l a = srt lt' l a
  | [], _, _, _ => rfl
  | x :: l, a, hl, ha => by
    have hx : x < n := hl x (by simp)
    show srt lt l (insS lt x a) = srt lt' l (insS lt' x a)
    rw [insS_congr (fun y hy => h x y hx (ha y hy))]
    refine srt_congr n h l _ (fun y hy => hl y (by simp [hy])) fun y hy => ?_
    rcases mem_insS hy with rfl | hy
    · exact hx
    · exact ha y hy
/-- The order of keys. -/
def ltK (ks : List Int) (x y : Nat) : Bool := decide (ks.getD x 0 < ks.getD y 0)
/-- The indices of numbers, sorted. -/
def srtK (ks : List Int) (n : Nat) : List Nat := srt (ltK ks) (List.range n) []
theorem srtK_succ (ks : List Int) (n : Nat) : srtK ks (n + 1) = insS (ltK ks) n (srtK ks n) := by
  simp [srtK, srt, List.range_succ]
theorem srtK_length (ks : List Int) : ∀ n, (srtK ks n).length = n
  | 0 => rfl
  | n + 1 => by rw [srtK_succ, insS_length, srtK_length ks n]
theorem srtK_lt (ks : List Int) (n : Nat) : ∀ x ∈ srtK ks n, x < n := fun x hx => by
  rcases mem_srt _ _ hx with h | h
  · simpa using h
  · cases h
abbrev nInts (l : List Nat) : List Int := l.map fun (n : Nat) => (n : Int)
theorem seqL_key (l : List Od) (lt : Od → Od → Bool) (key : Od → Int) (h : ∀ x ∈ l, ∀ y ∈ l, lt x y = decide (key x < key y)) : seqL l lt = nInts (srtK (l.map key) l.length) := by
  have e : sortN l lt = (srtK (l.map key) l.length).toArray := by
    unfold sortN
    have h1 := sort_kit (ltN l lt) (List.range l.length)
    rw [List.length_range] at h1
    rw [h1]
    unfold srtK
    refine congrArg List.toArray (srt_congr l.length (fun x y hx hy => ?_) _ _ (fun x hx => by simpa using hx) (fun x hx => by cases hx))
    have o1 : oN l x = l[x] := by
      unfold oN
      rw [Nat.mod_eq_of_lt hx, List.getD_eq_getElem?_getD, List.getElem?_eq_getElem hx]
      rfl
    have o2 : oN l y = l[y] := by
      unfold oN
      rw [Nat.mod_eq_of_lt hy, List.getD_eq_getElem?_getD, List.getElem?_eq_getElem hy]
      rfl
    unfold ltN ltK
    rw [o1, o2, h _ (List.getElem_mem hx) _ (List.getElem_mem hy)]
    simp [hx, hy]
  unfold seqL
  rw [e]
  refine List.map_congr_left fun x hx => ?_
  rw [Nat.mod_eq_of_lt (srtK_lt _ _ x hx)]
end Go.Proofs.YtaphcpfkgpaefaaGreat
/-
  Orders by their keys: what the functions compute.
-/
namespace Go.Proofs.YtaphcpfkgpaefaaGreat
open Go Go.Proofs Go.V
set_option linter.unusedSimpArgs false

theorem e_spec_orSorted (ks : List Int) (h : ks.length ≤ 8) : F_spec_orSorted [ints ks] = some (.ret [ints (nInts (srtK ks ks.length))] []) := by
  rw [t_spec_orSorted]
  simp only [lenD_arr, List.length_map, Option.bind_some]
  refine loop_bind (.ext 0 [ints (nInts (srtK ks ks.length))]) (loop_for ks.length (fun i => [ints ks, ints (nInts (srtK ks i)), I ks.length, I i]) _ (fun i hi => ?_) ?_ rfl rfl) ?_
  · have hlen := srtK_length ks i
    have hmem := srtK_lt ks i
    rw [srtK_succ]
    generalize srtK ks i = O at hlen hmem
    have hw : IntKind.i64.wrap ((i : Int) + 1) = (i : Int) + 1 := wrap_id (by omega) (by omega)
    simp -implicitDefEqProofs only [sl_zero, sl_succ, bin_lss, hi, Option.bind_some, ifD_B, decide_true, if_true, lenD_arr, List.length_map, hlen]
    rw [if_pos (by simp [hi])]
    refine loop_wf_bind (fun r => r = some (Out.nrm [ints ks, ints (nInts (insS (ltK ks) i O)), I (ks.length : Int), I ((i + 1 : Nat) : Int)])) (fun (k : Nat) => [ints ks, ints (nInts O), I (i : Int), I (k : Int), I (ks.length : Int), I (i : Int)]) (fun k => k ≤ i ∧ posG (ltK ks) i O k = posG (ltK ks) i O i) (fun k => k)
      (fun o => o = .ext 2 [ints ks, ints (nInts O), I (i : Int), I ((posG (ltK ks) i O i : Nat) : Int), I (ks.length : Int), I (i : Int)]) (fun k hk => ?_) i ⟨Nat.le_refl _, rfl⟩ rfl ?_
    · obtain ⟨hk, hp⟩ := hk
      cases k with
      | zero =>
        refine .inr ⟨_, ?_, rfl, rfl⟩
        rw [← hp]
        simp -implicitDefEqProofs [posG]
      | succ k =>
        have hko : k < O.length := by omega
        have hm := hmem _ (List.getElem_mem hko)
        have hm2 : O[k] < ks.length := by omega
        have hw2 : IntKind.i64.wrap (((k + 1 : Nat) : Int) - 1) = (k : Int) := by rw [wrap_id (by omega) (by omega)]; omega
        have hw3 : IntKind.i64.wrap (k : Int) = (k : Int) := wrap_id (by omega) (by omega)
        have hpos : (0 : Int) < ((k + 1 : Nat) : Int) := by omega
        have hps : posG (ltK ks) i O (k + 1) = if ltK ks i (O.getD k 0) = true then posG (ltK ks) i O k else k + 1 := rfl
        have hgd : O.getD k 0 = O[k] := by rw [List.getD_eq_getElem?_getD, List.getElem?_eq_getElem hko]; rfl
        rw [hgd] at hps
        have hlt : ltK ks i O[k] = decide (ks[i] < ks[O[k]]) := by simp [ltK, hi, hm2]
        by_cases hc : ks[i] < ks[O[k]]
        · refine .inl ⟨k, ?_, ⟨by omega, ?_⟩, Nat.lt_succ_self _⟩
          · simp -implicitDefEqProofs [hpos, hw2, hw3, hko, hm2, hi, hc]
          · rw [← hp, hps, hlt, if_pos (by simp [hc])]
        · refine .inr ⟨_, ?_, rfl, rfl⟩
          rw [← hp, hps, hlt, if_neg (by simp [hc])]
          simp -implicitDefEqProofs [hpos, hw2, hw3, hko, hm2, hi, hc]
    · rintro o rfl
      have hp := posG_le (ltK ks) i O i
      have hin : insS (ltK ks) i O = O.take (posG (ltK ks) i O i) ++ i :: O.drop (posG (ltK ks) i O i) := by rw [← hlen]; rfl
      rw [hin]
      generalize posG (ltK ks) i O i = p at hp
      have s1 : sliceD false 1 (ints (nInts O)) (I ((0 : Nat) : Int)) (I (p : Int)) = some (ints (nInts (O.take p))) := by
        have := sliceD_nat (z := 1) (l := (nInts O).map I) (i := 0) (j := p) (k := .i64) (k' := .i64) (Nat.zero_le _) (by simp; omega)
        rw [this]
        simp [List.map_take]
      have s2 : sliceHi false 1 (ints (nInts O)) (I (p : Int)) = some (ints (nInts (O.drop p))) := by
        have := sliceHi_nat (z := 1) (l := (nInts O).map I) (i := p) (k := .i64) (by simp; omega)
        rw [this]
        simp [List.map_drop]
      have a1 : appD 1 8 (ints []) (ints (nInts (O.take p))) = some (ints (nInts (O.take p))) := app_ints (l := []) (by simp; omega)
      have a2 : appD 1 8 (ints (nInts (O.take p))) (ints [(i : Int)]) = some (ints (nInts (O.take p) ++ [(i : Int)])) := app_ints (by simp; omega)
      have a3 : appD 1 8 (ints (nInts (O.take p) ++ [(i : Int)])) (ints (nInts (O.drop p))) = some (ints (nInts (O.take p) ++ [(i : Int)] ++ nInts (O.drop p))) := app_ints (by simp; omega)
      have c1 : ∀ l, chkA (ints l) = some (ints l) := fun l => chkA_map fun _ => rfl
      have m1 : mkArr 1 [] = some (ints []) := rfl
      have hb : (Nat.beq 2 2) = true := rfl
      simp -implicitDefEqProofs only [outK, sl_zero, sl_succ, hb, ifN_B, if_true, m1, one_int, c1, Option.bind_some]
      rw [show (D.v (Value.int IntKind.i64 0)) = I ((0 : Nat) : Int) from rfl, s1]
      simp -implicitDefEqProofs only [Option.bind_some, c1, a1, a2, s2, a3, bin_add, hw]
      simp [nInts]
  · simp
  · simp

theorem e_spec_orByDue (l : List Od) (h : l.length ≤ 8) : F_spec_orByDue [ods l] = some (.ret [ints (nInts (srtK (l.map fun x => x.2.2.2) l.length))] []) := by
  rw [t_spec_orByDue]
  simp only [lenD_arr, List.length_map, Option.bind_some]
  refine loop_bind (.ext 0 [ints (l.map fun x => x.2.2.2)]) (loop_for l.length (fun i => [ints ((l.map fun x => x.2.2.2).take i), ods l, I l.length, I i]) _ (fun i hi => ?_) ?_ rfl rfl) ?_
  · have hw : IntKind.i64.wrap ((i : Int) + 1) = (i : Int) + 1 := wrap_id (by omega) (by omega)
    have ha := app_ints (l := (l.map fun x => x.2.2.2).take i) (m := [l[i].2.2.2]) (by simp; omega)
    have ht : (l.map fun x => x.2.2.2).take (i + 1) = (l.map fun x => x.2.2.2).take i ++ [l[i].2.2.2] := by
      rw [List.take_succ_eq_append_getElem (by simpa using hi)]
      simp
    rw [ht]
    simp -implicitDefEqProofs [hi, hw, one_int, chk_int, ha, -appD_eq]
  · have ht : (l.map fun x => x.2.2.2).take l.length = l.map fun x => x.2.2.2 := List.take_of_length_le (by simp)
    rw [ht]
    simp
  · have := e_spec_orSorted (l.map fun x => x.2.2.2) (by simp; omega)
    rw [List.length_map] at this
    simp -implicitDefEqProofs [this]
/-- The orders by due times. -/
def dueR (l : List Od) : List Int := if goodO l = true then nInts (srtK (l.map fun x => x.2.2.2) l.length) else []
theorem goodO_len {l : List Od} (h : goodO l = true) : l.length ≤ 8 := by
  simp only [goodO, Bool.and_eq_true, decide_eq_true_eq] at h
  exact h.2
theorem dueR_len (l : List Od) : (dueR l).length ≤ l.length := by
  unfold dueR
  split
  · simp [srtK_length]
  · exact Nat.zero_le _
end Go.Proofs.YtaphcpfkgpaefaaGreat
/-
  Late orders: what the functions compute.
-/
namespace Go.Proofs.YtaphcpfkgpaefaaGreat
open Go Go.Proofs Go.V
set_option linter.unusedSimpArgs false

/-- A number put into an increasing list. -/
def putI : List Int → Int → List Int
  | [], n => [n]
  | x :: l, n => if x < n then x :: putI l n else if x = n then x :: l else n :: x :: l
def lead (n : Int) : List Int → Nat
  | [] => 0
  | x :: l => if x < n then lead n l + 1 else 0
theorem lead_le (n : Int) : ∀ l, lead n l ≤ l.length
  | [] => Nat.le_refl _
  | x :: l => by
    unfold lead
    split
    · exact Nat.succ_le_succ (lead_le n l)
    · exact Nat.zero_le _
theorem lead_lt (n : Int) : ∀ (l : List Int) (i : Nat) (h : i < l.length), i < lead n l → l[i] < n
  | [], i, h, _ => by cases h
  | x :: l, i, h, hi => by
    unfold lead at hi
    split at hi
    · rename_i hx
      cases i with
      | zero => exact hx
      | succ i => exact lead_lt n l i (by simpa using h) (by omega)
    · omega
theorem lead_at (n : Int) : ∀ (l : List Int) (h : lead n l < l.length), ¬ l[lead n l] < n
  | [], h => by cases h
  | x :: l, h => by
    by_cases hx : x < n
    · have e : lead n (x :: l) = lead n l + 1 := by simp [lead, hx]
      simp only [e, List.getElem_cons_succ]
      exact lead_at n l (by rw [e] at h; simpa using h)
    · have e : lead n (x :: l) = 0 := by simp [lead, hx]
      simp only [e, List.getElem_cons_zero]
      exact hx
theorem put_lead (n : Int) : ∀ (l : List Int), putI l n = if l[lead n l]? = some n then l else l.take (lead n l) ++ n :: l.drop (lead n l)
  | [] => by simp [putI, lead]
  | x :: l => by
    by_cases hx : x < n
    · have e : lead n (x :: l) = lead n l + 1 := by simp [lead, hx]
      rw [e]
      simp only [putI, hx, if_true, List.getElem?_cons_succ, List.take_succ_cons, List.drop_succ_cons]
      rw [put_lead n l]
      split <;> rfl
    · have e : lead n (x :: l) = 0 := by simp [lead, hx]
      rw [e]
      by_cases h2 : x = n
      · simp [putI, h2]
      · simp [putI, hx, h2]
theorem e_spec_l1Put (l : List Int) (n : Int) (h : l.length ≤ 1000) : F_spec_l1Put [ints l, I n] = some (.ret [ints (putI l n)] []) := by
  rw [t_spec_l1Put]
  have hle := lead_le n l
  refine loop_bind (.ext 0 [ints l, I n, I (lead n l : Nat)]) (loop_for (lead n l) (fun i => [ints l, I n, I i]) _ (fun i hi => ?_) ?_ rfl rfl) ?_
  · have hil : i < l.length := by omega
    have hlt := lead_lt n l i hil hi
    have hw : IntKind.i64.wrap ((i : Int) + 1) = (i : Int) + 1 := wrap_id (by omega) (by omega)
    simp -implicitDefEqProofs [hil, hlt, hw]
  · by_cases hl : lead n l < l.length
    · have := lead_at n l hl
      simp -implicitDefEqProofs [hl, this]
    · simp -implicitDefEqProofs [hl]
  · rw [put_lead]
    generalize lead n l = p at hle
    have s1 : sliceD false 1 (ints l) (I ((0 : Nat) : Int)) (I (p : Int)) = some (ints (l.take p)) := by
      have := sliceD_nat (z := 1) (l := l.map I) (i := 0) (j := p) (k := .i64) (k' := .i64) (Nat.zero_le _) (by simp; omega)
      rw [this]
      simp [List.map_take]
    have s2 : sliceHi false 1 (ints l) (I (p : Int)) = some (ints (l.drop p)) := by
      have := sliceHi_nat (z := 1) (l := l.map I) (i := p) (k := .i64) (by simp; omega)
      rw [this]
      simp [List.map_drop]
    have a1 : appD 1 8 (ints []) (ints (l.take p)) = some (ints (l.take p)) := app_ints (l := []) (by simp; omega)
    have a2 : appD 1 8 (ints (l.take p)) (ints [n]) = some (ints (l.take p ++ [n])) := app_ints (by simp; omega)
    have a3 : appD 1 8 (ints (l.take p ++ [n])) (ints (l.drop p)) = some (ints (l.take p ++ [n] ++ l.drop p)) := app_ints (by simp; omega)
    have c1 : ∀ l, chkA (ints l) = some (ints l) := fun l => chkA_map fun _ => rfl
    have m1 : mkArr 1 [] = some (ints []) := rfl
    have hb : (Nat.beq 0 0) = true := rfl
    have rest : ∀ q : Bool, q = false → (ifD (B q) (some (Out.ret [ints l] [])) ((mkArr 1 []).bind fun a => (sliceD false 1 (ints l) (D.v (Value.int IntKind.i64 0)) (I (p : Int))).bind fun z => (chkA z).bind fun b => (appD 1 8 a b).bind fun y => (mkArr 1 [I n]).bind fun a => (chkA a).bind fun b => (appD 1 8 y b).bind fun y =>
        (sliceHi false 1 (ints l) (I (p : Int))).bind fun z => (appD 1 8 y z).bind fun y => some (Out.ret [y] []))) = some (.ret [ints (l.take p ++ n :: l.drop p)] []) := by
      rintro q rfl
      rw [ifD_B, if_neg (by simp), show (D.v (Value.int IntKind.i64 0)) = I ((0 : Nat) : Int) from rfl, s1]
      simp -implicitDefEqProofs only [m1, one_int, Option.bind_some, c1, a1, a2, s2, a3]
      simp
    by_cases hp : p < l.length
    · by_cases hq : l[p] = n
      · simp -implicitDefEqProofs [hp, hq]
      · rw [if_neg (by simp [hp, hq])]
        refine Eq.trans ?_ (rest false rfl)
        simp -implicitDefEqProofs [hp, hq, -appD_eq]
    · rw [if_neg (by simp [hp])]
      refine Eq.trans ?_ (rest false rfl)
      simp -implicitDefEqProofs [hp, -appD_eq]

/-! ### an increasing list is made -/
theorem mem_putI {n y : Int} : ∀ {l : List Int}, y ∈ putI l n → y = n ∨ y ∈ l
  | [], h => by simp [putI] at h; exact .inl h
  | x :: l, h => by
    unfold putI at h
    split at h
    · rcases List.mem_cons.1 h with rfl | h
      · simp
      · rcases mem_putI h with h | h
        · exact .inl h
        · simp [h]
    · split at h
      · exact .inr h
      · simpa using h
theorem put_sorted {n : Int} : ∀ {l : List Int}, l.Pairwise (· ≤ ·) → (putI l n).Pairwise (· ≤ ·)
  | [], _ => by simp [putI]
  | x :: l, h => by
    have h' := List.pairwise_cons.1 h
    unfold putI
    split
    · rename_i hx
      refine List.pairwise_cons.2 ⟨fun y hy => ?_, put_sorted h'.2⟩
      rcases mem_putI hy with rfl | hy
      · omega
      · exact h'.1 y hy
    · split
      · exact h
      · refine List.pairwise_cons.2 ⟨fun y hy => ?_, h⟩
        rcases List.mem_cons.1 hy with rfl | hy
        · omega
        · have := h'.1 y hy
          omega
theorem put_perm {n : Int} : ∀ {l : List Int}, n ∉ l → (putI l n).Perm (l ++ [n])
  | [], _ => by simp [putI]
  | x :: l, h => by
    simp only [List.mem_cons, not_or] at h
    unfold putI
    split
    · exact (put_perm h.2).cons x
    · rw [if_neg (fun e => h.1 e.symm)]
      exact (List.perm_append_comm (l₁ := [n]) (l₂ := x :: l))
theorem putAll : ∀ (r : List Int) (a : List Int) (o : List Int), o.Pairwise (· ≤ ·) → o.Perm a → (a ++ r).Nodup → (r.foldl putI o).Pairwise (· ≤ ·) ∧ (r.foldl putI o).Perm (a ++ r)
  | [], a, o, h1, h2, _ => ⟨h1, by simpa using h2⟩
  | n :: r, a, o, h1, h2, h3 => by
    have hn : n ∉ o := fun hm => by
      have := (List.nodup_append.1 h3).2.2 n (h2.mem_iff.1 hm) n (by simp)
      exact this rfl
    have := putAll r (a ++ [n]) (putI o n) (put_sorted h1) ((put_perm hn).trans (h2.append_right [n])) (by simpa using h3)
    simpa using this
end Go.Proofs.YtaphcpfkgpaefaaGreat
/-
  Increasing lists of numbers below n, by their lengths and then lexicographically: how they come about, and the best one of them in two ways.
-/
namespace Go.Proofs.YtaphcpfkgpaefaaGreat
open Go Go.Proofs Go.V
set_option linter.unusedSimpArgs false
set_option linter.unusedVariables false

/-- The first of two that differ decides; else the shorter one is less. -/
def lexB : List Int → List Int → Bool
  | x :: a, y :: b => if x = y then lexB a b else decide (x < y)
  | a, b => decide (a.length < b.length)
theorem lexB_nil {a b : List Int} (h : a = [] ∨ b = []) : lexB a b = decide (a.length < b.length) := by
  rcases h with rfl | rfl
  · cases b <;> rfl
  · cases a <;> rfl
theorem lexB_irr : ∀ a, lexB a a = false
  | [] => rfl
  | x :: a => by simp [lexB, lexB_irr a]
theorem lexB_asym : ∀ {a b : List Int}, lexB a b = true → lexB b a = true → False
  | [], [], h, _ => by simp [lexB] at h
  | [], y :: b, _, h => by simp [lexB] at h
  | x :: a, [], h, _ => by simp [lexB] at h
  | x :: a, y :: b, h1, h2 => by
    simp only [lexB] at h1 h2
    by_cases e : x = y
    · rw [if_pos e] at h1
      rw [if_pos e.symm] at h2
      exact lexB_asym h1 h2
    · rw [if_neg e] at h1
      rw [if_neg (fun h => e h.symm)] at h2
      simp at h1 h2
      omega
theorem lexB_trans : ∀ {a b c : List Int}, a.length = b.length → b.length = c.length → lexB a b = true → lexB b c = true → lexB a c = true
  | [], [], _, _, _, h, _ => by simp [lexB] at h
  | x :: a, y :: b, z :: c, l1, l2, h1, h2 => by
    simp only [lexB] at h1 h2 ⊢
    by_cases e1 : x = y <;> by_cases e2 : y = z
    · rw [if_pos e1] at h1
      rw [if_pos e2] at h2
      rw [if_pos (e1.trans e2)]
      exact lexB_trans (by simpa using l1) (by simpa using l2) h1 h2
    · rw [if_neg e2] at h2
      rw [e1, if_neg e2]
      exact h2
    · rw [if_neg e1] at h1
      rw [← e2, if_neg e1]
      exact h1
    · rw [if_neg e1] at h1
      rw [if_neg e2] at h2
      simp at h1 h2
      rw [if_neg (by omega)]
      simp
      omega
  | _ :: _, [], _, l1, _, _, _ => by simp at l1
  | [], _ :: _, _, l1, _, _, _ => by simp at l1
  | _ :: _, _ :: _, [], _, l2, _, _ => by simp at l2
theorem e_spec_tyLess (a b : List Int) (ha : a.length ≤ 100) (hb : b.length ≤ 100) : F_spec_tyLess [ints a, ints b] = some (.ret [B (lexB a b)] []) := by
  rw [t_spec_tyLess]
  refine loop_wf_bind (fun r => r = some (.ret [B (lexB a b)] [])) (fun i : Nat => [ints a, ints b, I i]) (fun i => i ≤ a.length ∧ i ≤ b.length ∧ lexB (a.drop i) (b.drop i) = lexB a b) (fun i => a.length - i)
    (fun o => o = .ret [B (lexB a b)] [] ∨ (o = .ext 0 [ints a, ints b] ∧ lexB a b = decide (a.length < b.length))) (fun i hi => ?_) 0 ⟨Nat.zero_le _, Nat.zero_le _, rfl⟩ rfl (fun o ho => ?_)
  · obtain ⟨i1, i2, i3⟩ := hi
    have hw : IntKind.i64.wrap ((i : Int) + 1) = ((i + 1 : Nat) : Int) := by rw [wrap_id (by omega) (by omega)]; omega
    by_cases g1 : i < a.length
    · have g1' : (i : Int) < (a.length : Int) := by omega
      by_cases g2 : i < b.length
      · have g2' : (i : Int) < (b.length : Int) := by omega
        have d1 := List.drop_eq_getElem_cons g1
        have d2 := List.drop_eq_getElem_cons g2
        have e1 : elemD 1 (ints a) (I (i : Int)) = some [I a[i]] := by simp [g1]
        have e2 : elemD 1 (ints b) (I (i : Int)) = some [I b[i]] := by simp [g2]
        by_cases e : a[i] = b[i]
        · refine .inl ⟨i + 1, ?_, ⟨by omega, by omega, ?_⟩, by omega⟩
          · simp -implicitDefEqProofs only [sl_zero, sl_succ, liveD_agg, liveD_ref, liveD_arr, ref0_eq, Option.bind_some, Option.map_some, callK_ret, gate_t, gate_f, gate_s, gateC_t, gateC_f, gateC_s, nrmK_some, pickD_B, ifD_B, ifN_B, if_true, if_false, Bool.false_eq_true, un_not, Bool.not_true, Bool.not_false, decide_true, decide_false, and_self, outK_ext, Nat.beq_refl, bin_lss, bin_gtr, bin_leq, bin_geq, bin_eql, bin_neq, bin_add, bin_sub, bin_mul, lenD_arr, lenD_str, List.length_map, ldD_ptr, takeD_f, chkV_v, offD_ptr, List.drop_zero, List.drop_succ_cons, atD_agg, mkArr_nil, Int.reduceLT, Int.reduceLE, Int.reduceEq, g1', g2', e1, e2, e, hw, eq_self]
          · rw [← i3, d1, d2, lexB, if_pos e]
        · refine .inr ⟨_, ?_, rfl, .inl rfl⟩
          rw [← i3, d1, d2, lexB, if_neg e]
          simp -implicitDefEqProofs only [sl_zero, sl_succ, liveD_agg, liveD_ref, liveD_arr, ref0_eq, Option.bind_some, Option.map_some, callK_ret, gate_t, gate_f, gate_s, gateC_t, gateC_f, gateC_s, nrmK_some, pickD_B, ifD_B, ifN_B, if_true, if_false, Bool.false_eq_true, un_not, Bool.not_true, Bool.not_false, decide_true, decide_false, and_self, outK_ext, Nat.beq_refl, bin_lss, bin_gtr, bin_leq, bin_geq, bin_eql, bin_neq, bin_add, bin_sub, bin_mul, lenD_arr, lenD_str, List.length_map, ldD_ptr, takeD_f, chkV_v, offD_ptr, List.drop_zero, List.drop_succ_cons, atD_agg, mkArr_nil, Int.reduceLT, Int.reduceLE, Int.reduceEq, g1', g2', e1, e2, e]
      · have g2' : ¬ (i : Int) < (b.length : Int) := by omega
        refine .inr ⟨.ext 0 [ints a, ints b], ?_, rfl, .inr ⟨rfl, ?_⟩⟩
        · simp -implicitDefEqProofs only [sl_zero, sl_succ, liveD_agg, liveD_ref, liveD_arr, ref0_eq, Option.bind_some, Option.map_some, callK_ret, gate_t, gate_f, gate_s, gateC_t, gateC_f, gateC_s, nrmK_some, pickD_B, ifD_B, ifN_B, if_true, if_false, Bool.false_eq_true, un_not, Bool.not_true, Bool.not_false, decide_true, decide_false, and_self, outK_ext, Nat.beq_refl, bin_lss, bin_gtr, bin_leq, bin_geq, bin_eql, bin_neq, bin_add, bin_sub, bin_mul, lenD_arr, lenD_str, List.length_map, ldD_ptr, takeD_f, chkV_v, offD_ptr, List.drop_zero, List.drop_succ_cons, atD_agg, mkArr_nil, Int.reduceLT, Int.reduceLE, Int.reduceEq, g1', g2']
        · rw [← i3, lexB_nil (.inr (List.drop_eq_nil_of_le (by omega)))]
          simp only [List.length_drop]
          congr 1
          apply propext
          omega
    · have g1' : ¬ (i : Int) < (a.length : Int) := by omega
      refine .inr ⟨.ext 0 [ints a, ints b], ?_, rfl, .inr ⟨rfl, ?_⟩⟩
      · simp -implicitDefEqProofs only [sl_zero, sl_succ, liveD_agg, liveD_ref, liveD_arr, ref0_eq, Option.bind_some, Option.map_some, callK_ret, gate_t, gate_f, gate_s, gateC_t, gateC_f, gateC_s, nrmK_some, pickD_B, ifD_B, ifN_B, if_true, if_false, Bool.false_eq_true, un_not, Bool.not_true, Bool.not_false, decide_true, decide_false, and_self, outK_ext, Nat.beq_refl, bin_lss, bin_gtr, bin_leq, bin_geq, bin_eql, bin_neq, bin_add, bin_sub, bin_mul, lenD_arr, lenD_str, List.length_map, ldD_ptr, takeD_f, chkV_v, offD_ptr, List.drop_zero, List.drop_succ_cons, atD_agg, mkArr_nil, Int.reduceLT, Int.reduceLE, Int.reduceEq, g1']
      · rw [← i3, lexB_nil (.inl (List.drop_eq_nil_of_le (by omega)))]
        simp only [List.length_drop]
        congr 1
        apply propext
        omega
  · rcases ho with rfl | ⟨rfl, h2⟩
    · rfl
    · rw [h2]
      simp -implicitDefEqProofs only [sl_zero, sl_succ, liveD_agg, liveD_ref, liveD_arr, ref0_eq, Option.bind_some, Option.map_some, callK_ret, gate_t, gate_f, gate_s, gateC_t, gateC_f, gateC_s, nrmK_some, pickD_B, ifD_B, ifN_B, if_true, if_false, Bool.false_eq_true, un_not, Bool.not_true, Bool.not_false, decide_true, decide_false, and_self, outK_ext, Nat.beq_refl, bin_lss, bin_gtr, bin_leq, bin_geq, bin_eql, bin_neq, bin_add, bin_sub, bin_mul, lenD_arr, lenD_str, List.length_map, ldD_ptr, takeD_f, chkV_v, offD_ptr, List.drop_zero, List.drop_succ_cons, atD_agg, mkArr_nil, Int.reduceLT, Int.reduceLE, Int.reduceEq, Int.ofNat_lt]

/-! ### the lists -/
def nxI (s : List Int) : Int := match s.getLast? with
  | none => 0
  | some x => x + 1
def exP (s : List Int) (j : Nat) : List (List Int) := ((List.range j).filter fun (k : Nat) => decide (nxI s ≤ (k : Int))).map fun (k : Nat) => s ++ [(k : Int)]
def stL (n : Nat) : Nat → List (List Int)
  | 0 => [[]]
  | i + 1 => stL n i ++ exP ((stL n i).getD i []) n
def chL (n : Nat) : Nat → Nat → List (List Int) → Bool
  | 0, i, L => decide (L.length = i)
  | f + 1, i, L => decide (i < L.length) && chL n f (i + 1) (L ++ exP (L.getD i []) n)
def subsI (n : Nat) : List (List Int) := stL n (2 ^ n)
theorem chL_st (n : Nat) : ∀ (f i : Nat), chL n f i (stL n i) = true → (∀ j, i ≤ j → j < i + f → j < (stL n j).length) ∧ (stL n (i + f)).length = i + f
  | 0, i, h => ⟨fun j h1 h2 => by omega, by simpa [chL] using h⟩
  | f + 1, i, h => by
    simp only [chL, Bool.and_eq_true, decide_eq_true_eq] at h
    obtain ⟨h1, h2⟩ := chL_st n f (i + 1) h.2
    refine ⟨fun j h3 h4 => ?_, by rw [show i + (f + 1) = i + 1 + f by omega]; exact h2⟩
    rcases Nat.eq_or_lt_of_le h3 with rfl | h5
    · exact h.1
    · exact h1 j h5 (by omega)
def ownI (n m : Nat) : List Int := ((List.range n).filter fun k => m.testBit k).map fun (k : Nat) => (k : Int)
def maskI (s : List Int) : Nat := (s.map fun k => 2 ^ k.toNat).sum
def befB (s t : List Int) : Bool := decide (s.length < t.length) || (decide (s.length = t.length) && lexB s t)
def pairB : List (List Int) → Bool
  | [] => true
  | s :: l => l.all (befB s) && pairB l
def tabB (n : Nat) : Bool := chL n (2 ^ n) 0 [[]] && pairB (subsI n) && (subsI n).all (fun s => s.all (fun k => decide (0 ≤ k ∧ k < n)) && decide (s.length ≤ n) && decide (ownI n (maskI s) = s) && decide (maskI s < 2 ^ n)) && (List.range (2 ^ n)).all (fun m => (subsI n).contains (ownI n m))
set_option maxRecDepth 100000 in
theorem tab_ok : ∀ n : Nat, n < 9 → tabB n = true := by decide +kernel
end Go.Proofs.YtaphcpfkgpaefaaGreat
/-
  The most orders in time: two ways to the same best list.
-/
namespace Go.Proofs.YtaphcpfkgpaefaaGreat
open Go Go.Proofs Go.V
set_option linter.unusedSimpArgs false
set_option linter.unusedVariables false

theorem tab_parts {n : Nat} (hn : n < 9) : (chL n (2 ^ n) 0 [[]] = true ∧ pairB (subsI n) = true) ∧ (∀ s ∈ subsI n, (∀ k ∈ s, 0 ≤ k ∧ k < n) ∧ s.length ≤ n ∧ ownI n (maskI s) = s ∧ maskI s < 2 ^ n) ∧ ∀ m, m < 2 ^ n → ownI n m ∈ subsI n := by
  have h := tab_ok n hn
  simp only [tabB, Bool.and_eq_true, List.all_eq_true, decide_eq_true_eq, List.mem_range, List.contains_iff_mem] at h
  obtain ⟨⟨⟨h1, h2⟩, h3⟩, h4⟩ := h
  exact ⟨⟨h1, h2⟩, fun s hs => ⟨(h3 s hs).1.1.1, (h3 s hs).1.1.2, (h3 s hs).1.2, (h3 s hs).2⟩, h4⟩
theorem st_lt {n : Nat} (hn : n < 9) : (∀ j, j < 2 ^ n → j < (stL n j).length) ∧ (subsI n).length = 2 ^ n := by
  obtain ⟨h1, h2⟩ := chL_st n (2 ^ n) 0 (tab_parts hn).1.1
  exact ⟨fun j hj => h1 j (Nat.zero_le _) (by omega), by simpa [subsI] using h2⟩
theorem nil_in {n : Nat} (hn : n < 9) : [] ∈ subsI n := by
  have := (tab_parts hn).2.2 0 (Nat.two_pow_pos n)
  have e : ownI n 0 = [] := by simp [ownI]
  rwa [e] at this

/-- The best of the lists that V holds of. -/
def Bst (V : List Int → Bool) (n : Nat) (b : List Int) : Prop := b ∈ subsI n ∧ V b = true ∧ ∀ s ∈ subsI n, V s = true → s.length < b.length ∨ (s.length = b.length ∧ (s = b ∨ lexB b s = true))
theorem Bst.uniq {V : List Int → Bool} {n : Nat} {b c : List Int} (hb : Bst V n b) (hc : Bst V n c) : b = c := by
  rcases hb.2.2 c hc.1 hc.2.1 with h1 | ⟨h1, h1' | h1'⟩
  · rcases hc.2.2 b hb.1 hb.2.1 with h2 | ⟨h2, _⟩ <;> omega
  · exact h1'.symm
  · rcases hc.2.2 b hb.1 hb.2.1 with h2 | ⟨h2, h2' | h2'⟩
    · omega
    · exact h2'
    · exact (lexB_asym h1' h2').elim
def stepM (V : List Int → Bool) (b s : List Int) : List Int := if b.length < s.length ∧ V s = true then s else b
def mostI (V : List Int → Bool) (n : Nat) : List Int := (subsI n).foldl (stepM V) []
theorem fold_step (V : List Int → Bool) : ∀ (L : List (List Int)) (b : List Int), pairB L = true → (∀ s ∈ L, s.length = b.length → s = b ∨ lexB b s = true) →
    (L.foldl (stepM V) b = b ∨ (L.foldl (stepM V) b ∈ L ∧ V (L.foldl (stepM V) b) = true)) ∧ b.length ≤ (L.foldl (stepM V) b).length ∧ ((L.foldl (stepM V) b).length = b.length → L.foldl (stepM V) b = b) ∧
    ∀ s ∈ L, V s = true → s.length < (L.foldl (stepM V) b).length ∨ (s.length = (L.foldl (stepM V) b).length ∧ (s = L.foldl (stepM V) b ∨ lexB (L.foldl (stepM V) b) s = true))
  | [], b, _, _ => ⟨.inl rfl, Nat.le_refl _, fun _ => rfl, fun s hs => by cases hs⟩
  | s :: L, b, hp, hb => by
    simp only [pairB, Bool.and_eq_true, List.all_eq_true] at hp
    rw [List.foldl_cons]
    by_cases hc : b.length < s.length ∧ V s = true
    · have e : stepM V b s = s := by unfold stepM; rw [if_pos hc]
      rw [e]
      obtain ⟨h1, h2, h3, h4⟩ := fold_step V L s hp.2 (fun t ht hl => .inr (by
        have := hp.1 t ht
        simp only [befB, Bool.or_eq_true, Bool.and_eq_true, decide_eq_true_eq] at this
        rcases this with h | h
        · omega
        · exact h.2))
      generalize L.foldl (stepM V) s = r at *
      refine ⟨.inr ?_, by omega, fun h => by omega, fun t ht hv => ?_⟩
      · rcases h1 with rfl | h1
        · exact ⟨List.mem_cons_self, hc.2⟩
        · exact ⟨List.mem_cons_of_mem _ h1.1, h1.2⟩
      · rcases List.mem_cons.1 ht with rfl | ht
        · rcases Nat.lt_or_ge t.length r.length with h | h
          · exact .inl h
          · exact .inr ⟨by omega, .inl (h3 (by omega)).symm⟩
        · exact h4 t ht hv
    · have e : stepM V b s = b := by unfold stepM; rw [if_neg hc]
      rw [e]
      obtain ⟨h1, h2, h3, h4⟩ := fold_step V L b hp.2 (fun t ht => hb t (List.mem_cons_of_mem _ ht))
      generalize L.foldl (stepM V) b = r at *
      refine ⟨?_, h2, h3, fun t ht hv => ?_⟩
      · rcases h1 with rfl | h1
        · exact .inl rfl
        · exact .inr ⟨List.mem_cons_of_mem _ h1.1, h1.2⟩
      · rcases List.mem_cons.1 ht with rfl | ht
        · have hle : t.length ≤ b.length := by
            rcases Nat.lt_or_ge b.length t.length with h | h
            · exact absurd ⟨h, hv⟩ hc
            · exact h
          rcases Nat.lt_or_ge t.length r.length with h | h
          · exact .inl h
          · have := h3 (by omega)
            rw [this]
            exact .inr ⟨by omega, hb t List.mem_cons_self (by omega)⟩
        · exact h4 t ht hv
theorem bst_mostI (V : List Int → Bool) {n : Nat} (hn : n < 9) (h0 : V [] = true) : Bst V n (mostI V n) := by
  obtain ⟨h1, h2, h3, h4⟩ := fold_step V (subsI n) [] (tab_parts hn).1.2 (fun s _ hl => .inl (List.length_eq_zero_iff.1 hl))
  unfold mostI
  refine ⟨?_, ?_, h4⟩
  · rcases h1 with h1 | h1
    · rw [h1]; exact nil_in hn
    · exact h1.1
  · rcases h1 with h1 | h1
    · rw [h1]; exact h0
    · exact h1.2
theorem lexB_total : ∀ {a b : List Int}, a.length = b.length → a = b ∨ lexB a b = true ∨ lexB b a = true
  | [], [], _ => .inl rfl
  | x :: a, y :: b, h => by
    simp only [lexB]
    by_cases e : x = y
    · rw [if_pos e, if_pos e.symm]
      rcases lexB_total (a := a) (b := b) (by simpa using h) with h | h
      · exact .inl (by rw [e, h])
      · exact .inr h
    · rw [if_neg e, if_neg (fun h => e h.symm)]
      right
      simp
      omega
def stepO (V : List Int → Bool) (b o : List Int) : List Int := if V o = true ∧ (b.length < o.length ∨ (o.length = b.length ∧ lexB o b = true)) then o else b
theorem fold_own (V : List Int → Bool) : ∀ (L : List (List Int)) (b : List Int),
    (L.foldl (stepO V) b = b ∨ (L.foldl (stepO V) b ∈ L ∧ V (L.foldl (stepO V) b) = true)) ∧ (b = L.foldl (stepO V) b ∨ b.length < (L.foldl (stepO V) b).length ∨ (b.length = (L.foldl (stepO V) b).length ∧ lexB (L.foldl (stepO V) b) b = true)) ∧
    ∀ s ∈ L, V s = true → s.length < (L.foldl (stepO V) b).length ∨ (s.length = (L.foldl (stepO V) b).length ∧ (s = L.foldl (stepO V) b ∨ lexB (L.foldl (stepO V) b) s = true))
  | [], b => ⟨.inl rfl, .inl rfl, fun s hs => by cases hs⟩
  | s :: L, b => by
    rw [List.foldl_cons]
    by_cases hc : V s = true ∧ (b.length < s.length ∨ (s.length = b.length ∧ lexB s b = true))
    · have e : stepO V b s = s := by unfold stepO; rw [if_pos hc]
      rw [e]
      obtain ⟨h1, h2, h3⟩ := fold_own V L s
      generalize L.foldl (stepO V) s = r at *
      refine ⟨.inr ?_, .inr ?_, fun t ht hv => ?_⟩
      · rcases h1 with rfl | h1
        · exact ⟨List.mem_cons_self, hc.1⟩
        · exact ⟨List.mem_cons_of_mem _ h1.1, h1.2⟩
      · rcases h2 with rfl | h2 | h2
        · rcases hc.2 with h | h
          · exact .inl h
          · exact .inr ⟨h.1.symm, h.2⟩
        · rcases hc.2 with h | h <;> exact .inl (by omega)
        · rcases hc.2 with h | h
          · exact .inl (by omega)
          · exact .inr ⟨by omega, lexB_trans (by omega) (by omega) h2.2 h.2⟩
      · rcases List.mem_cons.1 ht with rfl | ht
        · rcases h2 with h2 | h2 | h2
          · exact .inr ⟨by rw [← h2], .inl h2⟩
          · exact .inl h2
          · exact .inr ⟨h2.1, .inr h2.2⟩
        · exact h3 t ht hv
    · have e : stepO V b s = b := by unfold stepO; rw [if_neg hc]
      rw [e]
      obtain ⟨h1, h2, h3⟩ := fold_own V L b
      generalize L.foldl (stepO V) b = r at *
      refine ⟨?_, h2, fun t ht hv => ?_⟩
      · rcases h1 with rfl | h1
        · exact .inl rfl
        · exact .inr ⟨List.mem_cons_of_mem _ h1.1, h1.2⟩
      · rcases List.mem_cons.1 ht with rfl | ht
        · have hn : ¬ (b.length < t.length ∨ (t.length = b.length ∧ lexB t b = true)) := fun h => hc ⟨hv, h⟩
          have hle : t.length ≤ b.length := by
            rcases Nat.lt_or_ge b.length t.length with h | h
            · exact absurd (.inl h) hn
            · exact h
          rcases Nat.lt_or_ge t.length r.length with h | h
          · exact .inl h
          · have hrb : b.length ≤ r.length := by
              rcases h2 with rfl | h2 | h2 <;> omega
            have hbt : t = b ∨ lexB b t = true := by
              rcases lexB_total (a := t) (b := b) (by omega) with h | h | h
              · exact .inl h
              · exact absurd (.inr ⟨by omega, h⟩) hn
              · exact .inr h
            refine .inr ⟨by omega, ?_⟩
            rcases h2 with rfl | h2 | h2
            · exact hbt
            · omega
            · rcases hbt with rfl | hbt
              · exact .inr h2.2
              · exact .inr (lexB_trans (by omega) (by omega) h2.2 hbt)
        · exact h3 t ht hv
def mostS (V : List Int → Bool) (n m : Nat) : List Int := ((List.range m).map (ownI n)).foldl (stepO V) []
theorem bst_mostS (V : List Int → Bool) {n : Nat} (hn : n < 9) (h0 : V [] = true) : Bst V n (mostS V n (2 ^ n)) := by
  obtain ⟨h1, h2, h3⟩ := fold_own V ((List.range (2 ^ n)).map (ownI n)) []
  unfold mostS
  generalize ((List.range (2 ^ n)).map (ownI n)).foldl (stepO V) [] = r at *
  refine ⟨?_, ?_, fun s hs hv => ?_⟩
  · rcases h1 with h1 | h1
    · rw [h1]; exact nil_in hn
    · obtain ⟨m, hm, e⟩ := List.mem_map.1 h1.1
      rw [← e]
      exact (tab_parts hn).2.2 m (List.mem_range.1 hm)
  · rcases h1 with h1 | h1
    · rw [h1]; exact h0
    · exact h1.2
  · obtain ⟨_, _, g3, g4⟩ := (tab_parts hn).2.1 s hs
    exact h3 s (List.mem_map.2 ⟨maskI s, List.mem_range.2 g4, g3⟩) hv
theorem most_eq (V : List Int → Bool) {n : Nat} (hn : n < 9) (h0 : V [] = true) : mostI V n = mostS V n (2 ^ n) := (bst_mostI V hn h0).uniq (bst_mostS V hn h0)
end Go.Proofs.YtaphcpfkgpaefaaGreat
/-
  The most orders in time, the other side: all masks, one after the other.
-/
namespace Go.Proofs.YtaphcpfkgpaefaaGreat
open Go Go.Proofs Go.V
set_option linter.unusedSimpArgs false
set_option linter.unusedVariables false

theorem insS_perm (lt : Nat → Nat → Bool) (x : Nat) (A : List Nat) : (insS lt x A).Perm (x :: A) := by
  unfold insS
  refine (List.perm_middle).trans ?_
  rw [List.take_append_drop]
theorem srtK_perm (ks : List Int) : ∀ n, (srtK ks n).Perm (List.range n)
  | 0 => by unfold srtK; exact List.Perm.refl _
  | n + 1 => by
    rw [srtK_succ, List.range_succ]
    exact (insS_perm _ _ _).trans (((srtK_perm ks n).cons n).trans (List.perm_append_comm (l₁ := [n])))
/-- The orders by due times. -/
def dueL (l : List Od) : List Int := nInts (srtK (l.map fun x => x.2.2.2) l.length)
theorem dueL_len (l : List Od) : (dueL l).length = l.length := by simp [dueL, srtK_length]
theorem dueL_in (l : List Od) : ∀ k ∈ dueL l, 0 ≤ k ∧ k < l.length := fun k hk => by
  obtain ⟨x, hx, rfl⟩ := List.mem_map.1 hk
  have := srtK_lt _ _ x hx
  omega
theorem dueL_perm (l : List Od) : (dueL l).Perm (nInts (List.range l.length)) := (srtK_perm _ _).map _
theorem nInts_nodup {a : List Nat} (h : a.Nodup) : (nInts a).Nodup := List.Pairwise.map _ (fun _ _ h e => h (Int.ofNat.inj e)) h
theorem dueL_nodup (l : List Od) : (dueL l).Nodup := (dueL_perm l).nodup_iff.2 (nInts_nodup List.nodup_range)
def bitI (m : Nat) (k : Int) : Bool := m.testBit k.toNat
theorem ownI_eq (n m : Nat) : ownI n m = (nInts (List.range n)).filter (bitI m) := by
  unfold ownI nInts
  rw [List.filter_map]
  rfl
theorem mem_own {n m : Nat} {k : Int} (h0 : 0 ≤ k) (h1 : k < n) : k ∈ ownI n m ↔ bitI m k = true := by
  rw [ownI_eq, List.mem_filter]
  exact ⟨fun h => h.2, fun h => ⟨List.mem_map.2 ⟨k.toNat, List.mem_range.2 (by omega), by omega⟩, h⟩⟩
/-- Some orders by their due times. -/
def seqM (l : List Od) (s : List Int) : List Int := (dueL l).filter fun k => decide (k ∈ s)
theorem seqM_mask (l : List Od) (m : Nat) : (dueL l).filter (bitI m) = seqM l (ownI l.length m) := by
  unfold seqM
  refine List.filter_congr fun k hk => ?_
  obtain ⟨h0, h1⟩ := dueL_in l k hk
  by_cases h : bitI m k = true
  · rw [h, decide_eq_true ((mem_own h0 h1).2 h)]
  · rw [decide_eq_false (fun hm => h ((mem_own h0 h1).1 hm))]
    simpa using h
theorem own_fold (l : List Od) (m : Nat) : ((dueL l).filter (bitI m)).foldl putI [] = ownI l.length m := by
  obtain ⟨h1, h2⟩ := putAll ((dueL l).filter (bitI m)) [] [] List.Pairwise.nil (List.Perm.refl _) (by rw [List.nil_append]; exact List.Pairwise.filter _ (dueL_nodup l))
  refine List.Perm.eq_of_pairwise (le := (· ≤ ·)) (fun a b _ _ h1 h2 => by omega) h1 ?_ ((by simpa using h2 : (((dueL l).filter (bitI m)).foldl putI []).Perm ((dueL l).filter (bitI m))).trans ?_)
  · rw [ownI_eq]
    refine List.Pairwise.filter _ (List.Pairwise.map _ (R := (· ≤ ·)) (fun a b h => by omega) ?_)
    exact List.pairwise_le_range
  · rw [ownI_eq]
    exact (dueL_perm l).filter _
theorem own_fold2 (l : List Od) (m : Nat) : (seqM l (ownI l.length m)).foldl putI [] = ownI l.length m := by rw [← seqM_mask, own_fold]
def vM (l : List Od) (s : List Int) : Bool := decide (costO l (seqM l s) = 0)
theorem vM_nil (l : List Od) : vM l [] = true := by
  have e : seqM l [] = [] := by simp [seqM]
  unfold vM
  rw [e]
  simp [costO, mostL, lateO]
theorem mostS_succ (V : List Int → Bool) (n m : Nat) : mostS V n (m + 1) = stepO V (mostS V n m) (ownI n m) := by
  unfold mostS
  rw [List.range_succ, List.map_append, List.foldl_append]
  rfl
theorem u64_id : ∀ d : Nat, d < 9 → IntKind.u64.wrap (d : Int) = d := by decide +kernel
theorem pow_tab : ∀ n : Nat, n < 9 → IntKind.i64.wrap (1 * 2 ^ min n 64) = ((2 ^ n : Nat) : Int) := by decide +kernel
theorem bit_tab : ∀ m : Nat, m < 256 → ∀ d : Nat, d < 8 → bits .and .i64 (Int.fdiv (m : Int) (2 ^ min d 64)) 1 = if m.testBit d then 1 else 0 := by decide +kernel
theorem bit_conv {d : Nat} (h : d < 9) : convD (some .u64) false (I (d : Int)) = some (.v (.int .u64 (d : Int))) := by simp [convD, u64_id d h]
theorem bit_shl {n : Nat} (h : n < 9) : bin .shl false [] (I 1) (.v (.int .u64 (n : Int))) = some (I ((2 ^ n : Nat) : Int)) := by
  have := pow_tab n h
  simp only [bin]
  rw [if_pos (by omega), Int.toNat_natCast]
  exact congrArg (fun x => some (D.v (Value.int .i64 x))) this
theorem bit_shr {m d : Nat} : bin .shr false [] (I (m : Int)) (.v (.int .u64 (d : Int))) = some (I (Int.fdiv (m : Int) (2 ^ min d 64))) := by
  simp only [bin]
  rw [if_pos (by omega), Int.toNat_natCast]
  rfl
theorem bit_and {m d : Nat} (hm : m < 256) (hd : d < 8) : bin .and false [] (I (Int.fdiv (m : Int) (2 ^ min d 64))) (I 1) = some (I (if m.testBit d then 1 else 0)) := by
  rw [← bit_tab m hm d hd]
  rfl
theorem own_len {n m : Nat} : (ownI n m).length ≤ n := by
  unfold ownI
  rw [List.length_map]
  refine Nat.le_trans (List.length_filter_le _ _) ?_
  rw [List.length_range]
  exact Nat.le_refl _
theorem mostS_len (V : List Int → Bool) (n : Nat) : ∀ m, (mostS V n m).length ≤ n
  | 0 => Nat.zero_le _
  | m + 1 => by
    rw [mostS_succ]
    unfold stepO
    split
    · exact own_len
    · exact mostS_len V n m
def mstR (l : List Od) : List Int := if goodO l = true then mostS (vM l) l.length (2 ^ l.length) else []
theorem liveD_ref0 (y : D) : liveD (D.ref 0 0) y = some y := rfl
theorem liveD_ints (x : List Int) (y : D) : liveD (ints x) y = some y := rfl
set_option maxHeartbeats 2000000 in
theorem e_spec_MostInTime (l : List Od) (h : l.length ≤ 1048576) : F_spec_MostInTime [ods l] = some (.ret [ints (mstR l), B (goodO l)] []) := by
  rw [t_spec_MostInTime]
  have hgo := e_spec_orGood l h
  cases hgd : goodO l
  · rw [hgd] at hgo
    have e : mstR l = [] := by simp [mstR, hgd]
    rw [e]
    simp -implicitDefEqProofs only [sl_zero, sl_succ, liveD_agg, liveD_ref, liveD_arr, ref0_eq, Option.bind_some, Option.map_some, callK_ret, gate_t, gate_f, gate_s, gateC_t, gateC_f, gateC_s, nrmK_some, pickD_B, ifD_B, ifN_B, if_true, if_false, Bool.false_eq_true, un_not, Bool.not_true, Bool.not_false, decide_true, decide_false, and_self, outK_ext, Nat.beq_refl, bin_lss, bin_gtr, bin_leq, bin_geq, bin_eql, bin_neq, bin_add, bin_sub, bin_mul, lenD_arr, lenD_str, List.length_map, ldD_ptr, takeD_f, chkV_v, offD_ptr, List.drop_zero, List.drop_succ_cons, atD_agg, mkArr_nil, Int.reduceLT, Int.reduceLE, Int.reduceEq, hgo]
    rfl
  have e : mstR l = mostS (vM l) l.length (2 ^ l.length) := by simp [mstR, hgd]
  rw [e]
  rw [hgd] at hgo
  obtain ⟨hg, hl8⟩ := goodO_all hgd
  have hdue := e_spec_orByDue l hl8
  rw [show nInts (srtK (l.map fun x => x.2.2.2) l.length) = dueL l from rfl] at hdue
  have hdl := dueL_len l
  have hpw : 2 ^ l.length ≤ 256 := Nat.pow_le_pow_right (by omega) (show l.length ≤ 8 by omega)
  simp -implicitDefEqProofs only [sl_zero, sl_succ, liveD_agg, liveD_ref, liveD_arr, ref0_eq, Option.bind_some, Option.map_some, callK_ret, gate_t, gate_f, gate_s, gateC_t, gateC_f, gateC_s, nrmK_some, pickD_B, ifD_B, ifN_B, if_true, if_false, Bool.false_eq_true, un_not, Bool.not_true, Bool.not_false, decide_true, decide_false, and_self, outK_ext, Nat.beq_refl, bin_lss, bin_gtr, bin_leq, bin_geq, bin_eql, bin_neq, bin_add, bin_sub, bin_mul, lenD_arr, lenD_str, List.length_map, ldD_ptr, takeD_f, chkV_v, offD_ptr, List.drop_zero, List.drop_succ_cons, atD_agg, mkArr_nil, Int.reduceLT, Int.reduceLE, Int.reduceEq, hgo]
  refine loop_bind _ (loop_for (2 ^ l.length) (fun m => [ods l, ints (mostS (vM l) l.length m), I (m : Int)]) (.ext 0 [ints (mostS (vM l) l.length (2 ^ l.length))]) (fun m hm => ?_) ?_ rfl rfl) ?_
  · have hm' : (m : Int) < ((2 ^ l.length : Nat) : Int) := by omega
    have c1 := bit_conv (d := l.length) (by omega)
    have c2 := bit_shl (n := l.length) (by omega)
    have hwm : IntKind.i64.wrap ((m : Int) + 1) = ((m + 1 : Nat) : Int) := by rw [wrap_id (by omega) (by omega)]; omega
    simp -implicitDefEqProofs only [sl_zero, sl_succ, liveD_agg, liveD_ref, liveD_arr, ref0_eq, Option.bind_some, Option.map_some, callK_ret, gate_t, gate_f, gate_s, gateC_t, gateC_f, gateC_s, nrmK_some, pickD_B, ifD_B, ifN_B, if_true, if_false, Bool.false_eq_true, un_not, Bool.not_true, Bool.not_false, decide_true, decide_false, and_self, outK_ext, Nat.beq_refl, bin_lss, bin_gtr, bin_leq, bin_geq, bin_eql, bin_neq, bin_add, bin_sub, bin_mul, lenD_arr, lenD_str, List.length_map, ldD_ptr, takeD_f, chkV_v, offD_ptr, List.drop_zero, List.drop_succ_cons, atD_agg, mkArr_nil, Int.reduceLT, Int.reduceLE, Int.reduceEq, c1, c2, hm', hdue, hdl]
    refine loop_bind _ (loop_for l.length (fun j => [ods l, ints (mostS (vM l) l.length m), I (m : Int), ints ((((dueL l).take j).filter (bitI m)).foldl putI []), ints (((dueL l).take j).filter (bitI m)), ints (dueL l), I (l.length : Int), I (j : Int)])
      (.ext 2 [ods l, ints (mostS (vM l) l.length m), I (m : Int), ints (ownI l.length m), ints (seqM l (ownI l.length m))]) (fun j hj => ?_) ?_ rfl rfl) ?_
    · have hj' : (j : Int) < (l.length : Int) := by omega
      have hwj : IntKind.i64.wrap ((j : Int) + 1) = ((j + 1 : Nat) : Int) := by rw [wrap_id (by omega) (by omega)]; omega
      have hjd : j < (dueL l).length := by omega
      obtain ⟨d0, d1⟩ := dueL_in l (dueL l)[j] (List.getElem_mem hjd)
      have hel : elemD 1 (ints (dueL l)) (I (j : Int)) = some [I (dueL l)[j]] := by simp [hjd]
      obtain ⟨d, hd⟩ : ∃ d : Nat, (dueL l)[j] = (d : Int) := ⟨(dueL l)[j].toNat, by omega⟩
      have ht : (dueL l).take (j + 1) = (dueL l).take j ++ [(d : Int)] := by rw [List.take_succ_eq_append_getElem hjd, hd]
      rw [hd] at hel d1
      have c3 := bit_conv (d := d) (by omega)
      have c4 := bit_shr (m := m) (d := d)
      have c5 := bit_and (m := m) (d := d) (by omega) (by omega)
      have hb : bitI m (d : Int) = m.testBit d := rfl
      rw [ht, List.filter_append]
      have hfl : (((dueL l).take j).filter (bitI m)).length ≤ 8 := Nat.le_trans (List.length_filter_le _ _) (by rw [List.length_take]; omega)
      have hpl : ((((dueL l).take j).filter (bitI m)).foldl putI []).length ≤ 8 := by
        obtain ⟨_, h2⟩ := putAll (((dueL l).take j).filter (bitI m)) [] [] List.Pairwise.nil (List.Perm.refl _) (by rw [List.nil_append]; exact List.Pairwise.filter _ ((dueL_nodup l).sublist (List.take_sublist _ _)))
        rw [h2.length_eq]
        simpa using hfl
      cases hbit : m.testBit d
      · rw [hbit] at c5
        have e2 : [(d : Int)].filter (bitI m) = [] := by simp [hb, hbit]
        rw [e2, List.append_nil]
        simp -implicitDefEqProofs only [sl_zero, sl_succ, liveD_agg, liveD_ref, liveD_arr, ref0_eq, Option.bind_some, Option.map_some, callK_ret, gate_t, gate_f, gate_s, gateC_t, gateC_f, gateC_s, nrmK_some, pickD_B, ifD_B, ifN_B, if_true, if_false, Bool.false_eq_true, un_not, Bool.not_true, Bool.not_false, decide_true, decide_false, and_self, outK_ext, Nat.beq_refl, bin_lss, bin_gtr, bin_leq, bin_geq, bin_eql, bin_neq, bin_add, bin_sub, bin_mul, lenD_arr, lenD_str, List.length_map, ldD_ptr, takeD_f, chkV_v, offD_ptr, List.drop_zero, List.drop_succ_cons, atD_agg, mkArr_nil, Int.reduceLT, Int.reduceLE, Int.reduceEq, hj', hel, c3, c4, c5, hwj]
      · rw [hbit] at c5
        have e2 : [(d : Int)].filter (bitI m) = [(d : Int)] := by simp [hb, hbit]
        have ha := app_ints (l := ((dueL l).take j).filter (bitI m)) (m := [(d : Int)]) (by simp; omega)
        have hput := e_spec_l1Put ((((dueL l).take j).filter (bitI m)).foldl putI []) (d : Int) (by omega)
        rw [e2, List.foldl_append, List.foldl_cons, List.foldl_nil]
        simp -implicitDefEqProofs only [sl_zero, sl_succ, liveD_agg, liveD_ref, liveD_arr, ref0_eq, Option.bind_some, Option.map_some, callK_ret, gate_t, gate_f, gate_s, gateC_t, gateC_f, gateC_s, nrmK_some, pickD_B, ifD_B, ifN_B, if_true, if_false, Bool.false_eq_true, un_not, Bool.not_true, Bool.not_false, decide_true, decide_false, and_self, outK_ext, Nat.beq_refl, bin_lss, bin_gtr, bin_leq, bin_geq, bin_eql, bin_neq, bin_add, bin_sub, bin_mul, lenD_arr, lenD_str, List.length_map, ldD_ptr, takeD_f, chkV_v, offD_ptr, List.drop_zero, List.drop_succ_cons, atD_agg, mkArr_nil, Int.reduceLT, Int.reduceLE, Int.reduceEq, hj', hel, c3, c4, c5, hwj, one_int, chk_int, ha, hput]
    · have ht : (dueL l).take l.length = dueL l := List.take_of_length_le (by omega)
      simp -implicitDefEqProofs only [sl_zero, sl_succ, liveD_agg, liveD_ref, liveD_arr, ref0_eq, Option.bind_some, Option.map_some, callK_ret, gate_t, gate_f, gate_s, gateC_t, gateC_f, gateC_s, nrmK_some, pickD_B, ifD_B, ifN_B, if_true, if_false, Bool.false_eq_true, un_not, Bool.not_true, Bool.not_false, decide_true, decide_false, and_self, outK_ext, Nat.beq_refl, bin_lss, bin_gtr, bin_leq, bin_geq, bin_eql, bin_neq, bin_add, bin_sub, bin_mul, lenD_arr, lenD_str, List.length_map, ldD_ptr, takeD_f, chkV_v, offD_ptr, List.drop_zero, List.drop_succ_cons, atD_agg, mkArr_nil, Int.reduceLT, Int.reduceLE, Int.reduceEq, Int.lt_irrefl, ht, own_fold2, seqM_mask]
    · have hsl : (seqM l (ownI l.length m)).length ≤ 8 := Nat.le_trans (List.length_filter_le _ _) (by omega)
      have hw := e_spec_orWorst l (seqM l (ownI l.length m)) hg (fun k hk => dueL_in l k (List.mem_filter.1 hk).1) (by omega)
      have hol := own_len (n := l.length) (m := m)
      have hml := mostS_len (vM l) l.length m
      have hty := e_spec_tyLess (ownI l.length m) (mostS (vM l) l.length m) (by omega) (by omega)
      have hst := mostS_succ (vM l) l.length m
      unfold stepO at hst
      generalize mostS (vM l) l.length m = b at *
      generalize ownI l.length m = o at *
      by_cases hc : costO l (seqM l o) = 0
      · have hv : vM l o = true := by simp [vM, hc]
        by_cases h1 : b.length < o.length
        · have h1' : (b.length : Int) < (o.length : Int) := by omega
          rw [if_pos ⟨hv, .inl h1⟩] at hst
          rw [hst]
          simp -implicitDefEqProofs only [sl_zero, sl_succ, liveD_agg, liveD_ref, liveD_arr, ref0_eq, Option.bind_some, Option.map_some, callK_ret, gate_t, gate_f, gate_s, gateC_t, gateC_f, gateC_s, nrmK_some, pickD_B, ifD_B, ifN_B, if_true, if_false, Bool.false_eq_true, un_not, Bool.not_true, Bool.not_false, decide_true, decide_false, and_self, outK_ext, Nat.beq_refl, bin_lss, bin_gtr, bin_leq, bin_geq, bin_eql, bin_neq, bin_add, bin_sub, bin_mul, lenD_arr, lenD_str, List.length_map, ldD_ptr, takeD_f, chkV_v, offD_ptr, List.drop_zero, List.drop_succ_cons, atD_agg, mkArr_nil, Int.reduceLT, Int.reduceLE, Int.reduceEq, liveD_ints, liveD_ref0, hw, hc, h1', hwm, eq_self]
        · have h1' : ¬ (b.length : Int) < (o.length : Int) := by omega
          by_cases h2 : o.length = b.length
          · have h2' : (o.length : Int) = (b.length : Int) := by omega
            cases h3 : lexB o b
            · rw [h3] at hty
              rw [if_neg (fun h => h.2.elim h1 (fun h => by rw [h3] at h; cases h.2))] at hst
              rw [hst]
              simp -implicitDefEqProofs only [sl_zero, sl_succ, liveD_agg, liveD_ref, liveD_arr, ref0_eq, Option.bind_some, Option.map_some, callK_ret, gate_t, gate_f, gate_s, gateC_t, gateC_f, gateC_s, nrmK_some, pickD_B, ifD_B, ifN_B, if_true, if_false, Bool.false_eq_true, un_not, Bool.not_true, Bool.not_false, decide_true, decide_false, and_self, outK_ext, Nat.beq_refl, bin_lss, bin_gtr, bin_leq, bin_geq, bin_eql, bin_neq, bin_add, bin_sub, bin_mul, lenD_arr, lenD_str, List.length_map, ldD_ptr, takeD_f, chkV_v, offD_ptr, List.drop_zero, List.drop_succ_cons, atD_agg, mkArr_nil, Int.reduceLT, Int.reduceLE, Int.reduceEq, liveD_ints, liveD_ref0, hw, hc, h1', h2', hty, hwm, eq_self, Int.lt_irrefl]
            · rw [h3] at hty
              rw [if_pos ⟨hv, .inr ⟨h2, h3⟩⟩] at hst
              rw [hst]
              simp -implicitDefEqProofs only [sl_zero, sl_succ, liveD_agg, liveD_ref, liveD_arr, ref0_eq, Option.bind_some, Option.map_some, callK_ret, gate_t, gate_f, gate_s, gateC_t, gateC_f, gateC_s, nrmK_some, pickD_B, ifD_B, ifN_B, if_true, if_false, Bool.false_eq_true, un_not, Bool.not_true, Bool.not_false, decide_true, decide_false, and_self, outK_ext, Nat.beq_refl, bin_lss, bin_gtr, bin_leq, bin_geq, bin_eql, bin_neq, bin_add, bin_sub, bin_mul, lenD_arr, lenD_str, List.length_map, ldD_ptr, takeD_f, chkV_v, offD_ptr, List.drop_zero, List.drop_succ_cons, atD_agg, mkArr_nil, Int.reduceLT, Int.reduceLE, Int.reduceEq, liveD_ints, liveD_ref0, hw, hc, h1', h2', hty, hwm, eq_self, Int.lt_irrefl]
          · have h2' : ¬ (o.length : Int) = (b.length : Int) := by omega
            rw [if_neg (fun h => h.2.elim h1 (fun h => h2 h.1))] at hst
            rw [hst]
            simp -implicitDefEqProofs only [sl_zero, sl_succ, liveD_agg, liveD_ref, liveD_arr, ref0_eq, Option.bind_some, Option.map_some, callK_ret, gate_t, gate_f, gate_s, gateC_t, gateC_f, gateC_s, nrmK_some, pickD_B, ifD_B, ifN_B, if_true, if_false, Bool.false_eq_true, un_not, Bool.not_true, Bool.not_false, decide_true, decide_false, and_self, outK_ext, Nat.beq_refl, bin_lss, bin_gtr, bin_leq, bin_geq, bin_eql, bin_neq, bin_add, bin_sub, bin_mul, lenD_arr, lenD_str, List.length_map, ldD_ptr, takeD_f, chkV_v, offD_ptr, List.drop_zero, List.drop_succ_cons, atD_agg, mkArr_nil, Int.reduceLT, Int.reduceLE, Int.reduceEq, liveD_ints, liveD_ref0, hw, hc, h1', h2', hwm, eq_self]
      · have hv : ¬ vM l o = true := by simp [vM, hc]
        rw [if_neg (fun h => hv h.1)] at hst
        rw [hst]
        simp -implicitDefEqProofs only [sl_zero, sl_succ, liveD_agg, liveD_ref, liveD_arr, ref0_eq, Option.bind_some, Option.map_some, callK_ret, gate_t, gate_f, gate_s, gateC_t, gateC_f, gateC_s, nrmK_some, pickD_B, ifD_B, ifN_B, if_true, if_false, Bool.false_eq_true, un_not, Bool.not_true, Bool.not_false, decide_true, decide_false, and_self, outK_ext, Nat.beq_refl, bin_lss, bin_gtr, bin_leq, bin_geq, bin_eql, bin_neq, bin_add, bin_sub, bin_mul, lenD_arr, lenD_str, List.length_map, ldD_ptr, takeD_f, chkV_v, offD_ptr, List.drop_zero, List.drop_succ_cons, atD_agg, mkArr_nil, Int.reduceLT, Int.reduceLE, Int.reduceEq, liveD_ints, liveD_ref0, hw, hc, hwm]
  · have c1 := bit_conv (d := l.length) (by omega)
    have c2 := bit_shl (n := l.length) (by omega)
    simp -implicitDefEqProofs only [sl_zero, sl_succ, liveD_agg, liveD_ref, liveD_arr, ref0_eq, Option.bind_some, Option.map_some, callK_ret, gate_t, gate_f, gate_s, gateC_t, gateC_f, gateC_s, nrmK_some, pickD_B, ifD_B, ifN_B, if_true, if_false, Bool.false_eq_true, un_not, Bool.not_true, Bool.not_false, decide_true, decide_false, and_self, outK_ext, Nat.beq_refl, bin_lss, bin_gtr, bin_leq, bin_geq, bin_eql, bin_neq, bin_add, bin_sub, bin_mul, lenD_arr, lenD_str, List.length_map, ldD_ptr, takeD_f, chkV_v, offD_ptr, List.drop_zero, List.drop_succ_cons, atD_agg, mkArr_nil, Int.reduceLT, Int.reduceLE, Int.reduceEq, c1, c2, Int.lt_irrefl]
  · simp -implicitDefEqProofs only [sl_zero, sl_succ, liveD_agg, liveD_ref, liveD_arr, ref0_eq, Option.bind_some, Option.map_some, callK_ret, gate_t, gate_f, gate_s, gateC_t, gateC_f, gateC_s, nrmK_some, pickD_B, ifD_B, ifN_B, if_true, if_false, Bool.false_eq_true, un_not, Bool.not_true, Bool.not_false, decide_true, decide_false, and_self, outK_ext, Nat.beq_refl, bin_lss, bin_gtr, bin_leq, bin_geq, bin_eql, bin_neq, bin_add, bin_sub, bin_mul, lenD_arr, lenD_str, List.length_map, ldD_ptr, takeD_f, chkV_v, offD_ptr, List.drop_zero, List.drop_succ_cons, atD_agg, mkArr_nil, Int.reduceLT, Int.reduceLE, Int.reduceEq]
end Go.Proofs.YtaphcpfkgpaefaaGreat
/-
  impl.subsets, walked by hand: all increasing lists, each in a block of its own.
-/
namespace Go.Proofs.YtaphcpfkgpaefaaGreat
open Go Go.Proofs Go.V Go.RowKit
set_option linter.unusedSimpArgs false
set_option linter.unusedVariables false

theorem exP_succ (s : List Int) (j : Nat) : exP s (j + 1) = exP s j ++ if nxI s ≤ (j : Int) then [s ++ [(j : Int)]] else [] := by
  unfold exP
  rw [List.range_succ, List.filter_append, List.map_append]
  congr 1
  by_cases h : nxI s ≤ (j : Int) <;> simp [h]
theorem exP_none (s : List Int) (j : Nat) (h : (j : Int) ≤ nxI s) : exP s j = [] := by
  unfold exP
  rw [List.map_eq_nil_iff, List.filter_eq_nil_iff]
  intro k hk
  have := List.mem_range.1 hk
  simp
  omega
theorem st_pre (n : Nat) : ∀ (d i : Nat), ∃ r, stL n (i + d) = stL n i ++ r
  | 0, i => ⟨[], by simp⟩
  | d + 1, i => by
    obtain ⟨r, hr⟩ := st_pre n d i
    exact ⟨_, by rw [← Nat.add_assoc, stL, hr, List.append_assoc]⟩
/-- The list that is looked at in round i. -/
theorem st_at {n i : Nat} (hn : n < 9) (hi : i < 2 ^ n) : ∃ s, (stL n i)[i]? = some s ∧ s ∈ subsI n := by
  have h1 := (st_lt hn).1 i hi
  refine ⟨(stL n i)[i], by rw [List.getElem?_eq_getElem h1], ?_⟩
  obtain ⟨r, hr⟩ := st_pre n (2 ^ n - i) i
  rw [show i + (2 ^ n - i) = 2 ^ n by omega] at hr
  unfold subsI
  rw [hr]
  exact List.mem_append_left _ (List.getElem_mem h1)
theorem nx_le {n : Nat} (hn : n < 9) {s : List Int} (hs : s ∈ subsI n) : 0 ≤ nxI s ∧ nxI s ≤ n := by
  have h := ((tab_parts hn).2.1 s hs).1
  unfold nxI
  cases hl : s.getLast? with
  | none => simp
  | some x =>
    have := h x (List.mem_of_getLast? hl)
    simp
    omega
/-- A list of numbers in a block of its own. -/
def RowO (W : World) (B : Nat) (v : Value) (o : List Int) : Prop := ∃ g cap cur, v = .slice (some ⟨g, 0, none⟩) o.length cap ∧ B ≤ g ∧ W.heap[g]? = some (.cells cur 3 (0, 0)) ∧
  o.length ≤ cap ∧ cap ≤ cur.size ∧ ∀ (i : Nat) (u : Value), (o.map (Value.int .i64))[i]? = some u → cur[i]? = some u
theorem RowO.kept {W W' : World} {B : Nat} {v : Value} {o : List Int} (h : RowO W B v o) (hk : ∀ (g : Nat) (cur : Array Value), W.heap[g]? = some (.cells cur 3 (0, 0)) → W'.heap[g]? = W.heap[g]?) : RowO W' B v o := by
  obtain ⟨g, cap, cur, h1, h2, h5, h6⟩ := h
  exact ⟨g, cap, cur, h1, h2, (hk g cur h5).trans h5, h6⟩
theorem RowO.below {W W' : World} {B : Nat} {v : Value} {o : List Int} (h : RowO W B v o) (hb : Below W.heap.size W W') : RowO W' B v o :=
  h.kept fun g cur hg => hb.block g (Array.getElem?_eq_some_iff.1 hg).1
theorem RowO.rep {W : World} {B : Nat} {v : Value} {o : List Int} (h : RowO W B v o) : ∃ g, g < W.heap.size ∧ RepV W (fun b => b = g) (ints o) v := by
  obtain ⟨g, cap, cur, rfl, h2, h5, h6, h7, h8⟩ := h
  refine ⟨g, (Array.getElem?_eq_some_iff.1 h5).1, ?_⟩
  have ho : OwnV W (fun _ => False) (fun b => b = g) 1 (ints o) (.slice (some ⟨g, 0, none⟩) o.length cap) :=
    ⟨o.map I, rfl, fun x hx => by obtain ⟨s, _, rfl⟩ := List.mem_map.1 hx; rfl, .inr ⟨g, 0, cap, o.map (Value.int .i64), cur, _, by rw [List.length_map], by rw [List.length_map]; exact h6, h5, by omega, RepL_ints _, fun i u hu => by rw [Nat.zero_add]; exact h8 i u hu, rfl⟩⟩
  exact RepV_mono (fun b hb => hb.elim False.elim id) (fun _ _ => rfl) (OwnV_rep ho)
theorem RowO.of {W : World} {B b : Nat} {v : Value} {o : List Int} (h : W.ownsRow b 3 1 v o.length (o.map (Value.int .i64))) (hb : B ≤ b) (hn : v ≠ .slice none 0 0) : RowO W B v o := by
  obtain ⟨_, ⟨hv, _⟩ | ⟨g, cap, cur, rfl, hge, hg, hcap, _, hcs, ht⟩⟩ := h
  · exact absurd hv hn
  · exact ⟨g, cap, cur, rfl, by omega, hg, hcap, by omega, take_get ht⟩
/-- A list of such lists. -/
structure LstO (W : World) (B : Nat) (v : Value) (L : List (List Int)) (vs : List Value) : Prop where
  own : W.ownsRow B 24 1 v L.length vs
  row : ∀ (i : Nat) (s : List Int), L[i]? = some s → ∃ y, vs[i]? = some y ∧ RowO W B y s
theorem LstO.cell {W : World} {B g cap n : Nat} {L : List (List Int)} {vs : List Value} (h : LstO W B (.slice (some ⟨g, 0, none⟩) n cap) L vs) {i : Nat} {s : List Int} (hi : L[i]? = some s) : ∃ y, W.cell? ⟨g, i, none⟩ = some y ∧ RowO W B y s := by
  obtain ⟨y, h1, h2⟩ := h.row i s hi
  have := h.own.cells (g := g) rfl i y h1
  rw [add_zero_at] at this
  exact ⟨y, this, h2⟩
theorem LstO.below {W W' : World} {B : Nat} {v : Value} {L : List (List Int)} {vs : List Value} (h : LstO W B v L vs) (hb : Below W.heap.size W W') : LstO W' B v L vs :=
  ⟨h.own.kept (row := none) ⟨hb.os, hb.tape, hb.output, hb.size, fun k hk _ => hb.block k hk⟩ (by cases hv : v.ownBlock <;> simp), fun i s hi => by
    obtain ⟨y, h1, h2⟩ := h.row i s hi
    exact ⟨y, h1, h2.below hb⟩⟩
theorem LstO.ne {W : World} {B g : Nat} {v : Value} {L : List (List Int)} {vs : List Value} (h : LstO W B v L vs) {cur : Array Value} (hg : W.heap[g]? = some (.cells cur 3 (0, 0))) : some g ≠ v.ownBlock := by
  obtain ⟨_, ⟨rfl, _⟩ | ⟨g', cap, cur', rfl, _, hg', _⟩⟩ := h.own
  · simp [Value.ownBlock]
  · intro e
    simp only [Value.ownBlock, Option.some.injEq] at e
    rw [e, hg'] at hg
    simp at hg
theorem LstO.grow {W W' : World} {B : Nat} {v v' y : Value} {L : List (List Int)} {s : List Int} {vs : List Value} (h : LstO W B v L vs) (hy : RowO W B y s) (ho : W'.ownsRow B 24 1 v' (L.length + 1) (vs ++ [y])) (hg : W.grownBy W' v.ownBlock) : LstO W' B v' (L ++ [s]) (vs ++ [y]) := by
  have hk : ∀ (g : Nat) (cur : Array Value), W.heap[g]? = some (.cells cur 3 (0, 0)) → W'.heap[g]? = W.heap[g]? := fun g cur hc => hg.block g (Array.getElem?_eq_some_iff.1 hc).1 (h.ne hc)
  have hlen : vs.length = L.length := by simpa using h.own.1
  refine ⟨by rw [List.length_append]; exact ho, fun i t hi => ?_⟩
  rcases Nat.lt_or_ge i L.length with h1 | h1
  · rw [List.getElem?_append_left h1] at hi
    obtain ⟨z, z1, z2⟩ := h.row i t hi
    exact ⟨z, by rw [List.getElem?_append_left (by omega)]; exact z1, z2.kept hk⟩
  · rw [List.getElem?_append_right h1] at hi
    have h0 : i - L.length = 0 := by
      have := (List.getElem?_eq_some_iff.1 hi).1
      simp at this
      omega
    rw [h0] at hi
    simp at hi
    subst hi
    exact ⟨y, by rw [List.getElem?_append_right (by omega), show i - vs.length = 0 by omega]; rfl, hy.kept hk⟩
theorem exP_len (s : List Int) (j : Nat) (h : j ≤ 9) : (exP s j).length ≤ 9 := by
  unfold exP
  rw [List.length_map]
  refine Nat.le_trans (List.length_filter_le _ _) ?_
  rw [List.length_range]
  exact h
theorem st_le {n i : Nat} (hn : n < 9) (hi : i ≤ 2 ^ n) : (stL n i).length ≤ 256 := by
  obtain ⟨r, hr⟩ := st_pre n (2 ^ n - i) i
  rw [show i + (2 ^ n - i) = 2 ^ n by omega] at hr
  have h1 := (st_lt hn).2
  have h2 : 2 ^ n ≤ 256 := Nat.pow_le_pow_right (by omega) (show n ≤ 8 by omega)
  unfold subsI at h1
  rw [hr, List.length_append] at h1
  omega
theorem past_cell {w : World} {o : Obj} {a : Addr} {v : Value} (h : w.cell? a = some v) : (w.alloc o).cell? a = some v :=
  (World.grownBy_alloc w o none).cell h (by simp)
theorem info51 : (Tryz.prog.info? 24).map (fun i => (i.zero, i.size, i.bytes)) = some (some (.slice none 0 0), 1, 24) := by kernel_rfl
set_option maxHeartbeats 8000000 in
set_option maxRecDepth 1000000 in
theorem subsets_walk (n : Nat) (hn : n < 9) (w : World) : Calls Tryz.prog 32 #[.int .i64 n] w fun e w' => ∃ g cap vs, e = .returned (.slice (some ⟨g, 0, none⟩) (subsI n).length cap) ∧ LstO w' w.heap.size (.slice (some ⟨g, 0, none⟩) (subsI n).length cap) (subsI n) vs ∧ Below w.heap.size w w' := by
  obtain ⟨i0, hi, hz0, hz1, hz2⟩ := info_parts info3
  obtain ⟨i5, hi5, hy0, hy1, hy2⟩ := info_parts info51
  go_enter Tryz.func32, Tryz.ntmps32
  go_wp2
  go_loopw [3, 4] (fun vL vi wr => ∃ (i g cap : Nat) (vs : List Value), vi = .int .i64 i ∧ i ≤ 2 ^ n ∧ vL = .slice (some ⟨g, 0, none⟩) (stL n i).length cap ∧ LstO wr w.heap.size vL (stL n i) vs ∧ Below w.heap.size w wr) (fun _ vi _ => 2 ^ n - (intOf vi).toNat)
  case atStart =>
    refine ⟨0, w.heap.size + 1, 1, [.slice (some ⟨w.heap.size, 0, none⟩) 0 0], rfl, Nat.zero_le _, rfl, ⟨⟨rfl, .inr ⟨_, 1, #[.slice (some ⟨w.heap.size, 0, none⟩) 0 0], rfl, by omega, at_alloc _ (by simp), Nat.le_refl _, by unfold maxLen; omega, rfl, rfl⟩⟩, fun i s hi => ?_⟩, (((Below.refl _ w).alloc (Nat.le_refl _) _).alloc (by simp) _)⟩
    have h0 : i = 0 := by
      have := (List.getElem?_eq_some_iff.1 hi).1
      simp [stL] at this
      exact this
    subst h0
    simp [stL] at hi
    subst hi
    exact ⟨_, rfl, w.heap.size, 0, #[], rfl, Nat.le_refl _, past_alloc _ (at_alloc _ rfl), Nat.le_refl _, Nat.le_refl _, fun i u hu => by simp at hu⟩
  case round =>
    obtain ⟨i, g, cap, vs, rfl, hin, rfl, hL, hbw⟩ := hrel
    obtain ⟨stlt, stlen⟩ := st_lt hn
    have hlen : (stL n i).length ≤ 256 := st_le hn hin
    by_cases hp : i < 2 ^ n
    · have hpl : i < (stL n i).length := stlt i hp
      have hpi : (i : Int) < ((stL n i).length : Int) := by omega
      obtain ⟨s, hs, hsub⟩ := st_at hn hp
      obtain ⟨y, hy, hrow⟩ := hL.cell hs
      obtain ⟨g1, cap1, cur1, rfl, q1, q2, q3, q4, q5⟩ := hrow
      obtain ⟨x0, x1⟩ := nx_le hn hsub
      have hsl := ((tab_parts hn).2.1 s hsub).2.1
      rcases Nat.eq_zero_or_pos s.length with hs0 | hs0
      · have hnx : nxI s = 0 := by
          rw [List.length_eq_zero_iff.1 hs0]
          rfl
        rw [hs0] at hy
        go_wp2
        go_loopw [3, 5] (fun vL vj wq => ∃ (j g cap : Nat) (vs : List Value), vj = .int .i64 j ∧ nxI s ≤ j ∧ j ≤ n ∧ vL = .slice (some ⟨g, 0, none⟩) (stL n i ++ exP s j).length cap ∧ LstO wq w.heap.size vL (stL n i ++ exP s j) vs ∧ Below w.heap.size w wq) (fun _ vj _ => n - (intOf vj).toNat)
        case atStart =>
          refine ⟨(nxI s).toNat, g, cap, vs, congrArg (Value.int .i64) (by omega), by omega, by omega, ?_, ?_, hbw⟩
          · rw [exP_none s _ (by omega), List.append_nil]
          · rw [exP_none s _ (by omega), List.append_nil]
            exact hL
        case round =>
          clear hs0
          obtain ⟨j, g', cap', vs', rfl, j0, j1, rfl, hLj, hbj⟩ := hrel
          have hxl : (exP s j).length ≤ 9 := exP_len s j (by omega)
          have hLlen : (stL n i ++ exP s j).length ≤ 300 := by rw [List.length_append]; omega
          have hpl2 : i < (stL n i ++ exP s j).length := by rw [List.length_append]; omega
          have hs2 : (stL n i ++ exP s j)[i]? = some s := by rw [List.getElem?_append_left hpl]; exact hs
          have hex : exP s (j + 1) = exP s j ++ [s ++ [(j : Int)]] := by rw [exP_succ, if_pos j0]
          have est : j = n → stL n (i + 1) = stL n i ++ exP s j := fun e => by rw [e, stL, List.getD_eq_getElem?_getD, hs]; rfl
          have hsx : stL n i ++ exP s (j + 1) = (stL n i ++ exP s j) ++ [s ++ [(j : Int)]] := by rw [hex, List.append_assoc]
          generalize stL n i ++ exP s j = L at *
          by_cases hjn : j < n
          · have hjn' : (j : Int) < (n : Int) := by omega
            obtain ⟨y', hy', hrow2⟩ := hLj.cell hs2
            obtain ⟨g3, cap3, cur3, rfl, r1, r2, r3, r4, r5⟩ := hrow2
            have hpi2 : (i : Int) < (L.length : Int) := by omega
            have hg3 : g3 < wr.heap.size := (Array.getElem?_eq_some_iff.1 r2).1
            have hlen2 : (s ++ [(j : Int)]).length = s.length + 1 := by simp
            have hn1 : ∀ (k : Nat) (u : Value), (s.map (Value.int .i64))[k]? = some u → (wr.alloc (.cells #[] 3)).cell? ((⟨g3, 0, none⟩ : Addr).add k) = some u := fun k u hu => by
              rw [add_zero_at, Lib.cell_of_heap (past_alloc _ r2)]
              exact r5 k u hu
            have hn2 : ∀ u ∈ s.map (Value.int .i64), u.oneCell' = true := fun u hu => by
              obtain ⟨x, _, rfl⟩ := List.mem_map.1 hu
              rfl
            have hmx : s.length + 1 ≤ maxLen := by unfold maxLen; omega
            have hmx3 : L.length + 1 ≤ maxLen := by unfold maxLen; omega
            have hyc := (past_cell (o := .cells #[] 3) hy')
            go_wp2_with (first
              | (at_builtin; refine wpList_append_own _ rfl _ _ 24 rfl wr.heap.size 3 i0 (.int .i64 0) 1 8 Tryz.underlying24 hi hz0 hz1 hz2 rfl (by decide) (.slice (some ⟨wr.heap.size, 0, none⟩) 0 0) 0 [] rfl ⟨rfl, .inr ⟨_, 0, #[], rfl, Nat.le_refl _, at_alloc _ rfl, Nat.le_refl _, Nat.zero_le _, rfl, rfl⟩⟩ ⟨g3, 0, none⟩ s.length cap3 (s.map (Value.int .i64)) rfl (by rw [List.length_map, Nat.mul_one]) hn1 hn2 (by omega) (by omega) (World.grownBy_alloc wr _ none).size ?_; intro v1 w3 hown1 hgrow1 hnil1; rw [Nat.zero_add, List.nil_append] at hown1; have bw3 : Below wr.heap.size wr w3 := ((Below.refl _ wr).alloc (Nat.le_refl _) _).grown hgrow1 (World.grownBy_alloc wr _ none).size (fun k hk => by have : wr.heap.size = k := Option.some.inj hk; omega); have hne1 : v1 ≠ .slice none 0 0 := fun e => by simpa using (hnil1.1 e).1)
              | (at_builtin; refine wpList_append_own _ rfl _ _ 24 rfl wr.heap.size 3 i0 (.int .i64 0) 1 8 Tryz.underlying24 hi hz0 hz1 hz2 rfl (by decide) v1 _ _ rfl (hown1.alloc _) ⟨w3.heap.size, 0, none⟩ 1 1 [.int .i64 j] rfl rfl (cell_one_new _ _ _) (by intro u hu; simp at hu; subst hu; rfl) hmx (by omega) (Nat.le_trans bw3.size (World.grownBy_alloc w3 _ none).size) ?_; intro v2 w4 hown2 hgrow2 hnil2; have bw4 : Below wr.heap.size wr w4 := (bw3.alloc bw3.size _).grown hgrow2 (Nat.le_trans bw3.size (World.grownBy_alloc w3 _ none).size) (fun k hk => (hown1.lt k hk).1); have hne2 : v2 ≠ .slice none 0 0 := fun e => hne1 (hnil2.1 e).1; have hr4 : RowO w4 w.heap.size v2 (s ++ [(j : Int)]) := RowO.of (b := wr.heap.size) (by rw [hlen2, List.map_append]; exact hown2) hbj.size hne2; obtain ⟨g5, cap5, cur5, ev, t1, t2, t3, t4, t5⟩ := hr4; rw [hlen2] at ev; subst ev; have bw5 : Below wr.heap.size wr (w4.alloc (.cells #[.slice (some ⟨g5, 0, none⟩) (s.length + 1) cap5] 24)) := bw4.alloc bw4.size _; have hL5 := hLj.below bw5; have hr5 : RowO (w4.alloc (.cells #[.slice (some ⟨g5, 0, none⟩) (s.length + 1) cap5] 24)) w.heap.size (.slice (some ⟨g5, 0, none⟩) (s.length + 1) cap5) (s ++ [(j : Int)]) := ⟨g5, cap5, cur5, by rw [hlen2], t1, past_alloc _ t2, t3, t4, t5⟩)
              | (at_builtin; refine wpList_append_own _ rfl _ _ 47 rfl w.heap.size 24 i5 (.slice none 0 0) 1 24 Tryz.underlying47 hi5 hy0 hy1 hy2 rfl (by decide) (.slice (some ⟨g', 0, none⟩) L.length cap') _ _ rfl hL5.own ⟨w4.heap.size, 0, none⟩ 1 1 [.slice (some ⟨g5, 0, none⟩) (s.length + 1) cap5] rfl rfl (cell_one_new _ _ _) (by intro u hu; simp at hu; subst hu; rfl) hmx3 (by omega) (Nat.le_trans hbj.size bw5.size) ?_; intro v6 w6 hown6 hgrow6 hnil6; have hL6 := hL5.grow hr5 hown6 hgrow6; have hb6 := (hbj.trans (bw5.mono hbj.size)).grown hgrow6 (Nat.le_trans hbj.size bw5.size) (fun k hk => (hL5.own.lt k hk).1); obtain ⟨g6, cap6, rfl⟩ := row_slice hown6))
            rw [← hsx] at hL6
            refine ⟨⟨j + 1, g6, cap6, _, congrArg (Value.int .i64) (by omega), by omega, by omega, ?_, hL6, hb6⟩, ?_⟩
            · rw [hsx, List.length_append]
              rfl
            · show n - ((j : Int) + 1).toNat < n - (j : Int).toNat
              omega
          · have hjn' : ¬ (j : Int) < (n : Int) := by omega
            have ej : j = n := by omega
            subst ej
            have est := est rfl
            go_wp2
            refine ⟨⟨i + 1, g', cap', vs', congrArg (Value.int .i64) (by omega), by omega, ?_, ?_, hbj⟩, ?_⟩
            · rw [est]
            · rw [est]
              exact hLj
            · show 2 ^ j - ((i : Int) + 1).toNat < 2 ^ j - (i : Int).toNat
              omega
      · obtain ⟨m, hm⟩ : ∃ m, s.length = m + 1 := ⟨s.length - 1, by omega⟩
        obtain ⟨x, hx⟩ : ∃ x, s[m]? = some x := ⟨s[m], by rw [List.getElem?_eq_getElem]⟩
        have hnx : nxI s = x + 1 := by
          unfold nxI
          rw [List.getLast?_eq_getElem?, show s.length - 1 = m by omega, hx]
        have hcx : wr.cell? ⟨g1, m, none⟩ = some (.int .i64 x) := by
          rw [Lib.cell_of_heap q2]
          exact q5 m _ (by rw [List.getElem?_map, hx]; rfl)
        rw [hm] at hy
        have hm1 : (0 : Int) < ((m + 1 : Nat) : Int) := by omega
        have hw : x + 1 ≤ 9 := by omega
        have hw0 : 0 ≤ x + 1 := by omega
        go_wp2
        go_loopw [3, 5] (fun vL vj wq => ∃ (j g cap : Nat) (vs : List Value), vj = .int .i64 j ∧ nxI s ≤ j ∧ j ≤ n ∧ vL = .slice (some ⟨g, 0, none⟩) (stL n i ++ exP s j).length cap ∧ LstO wq w.heap.size vL (stL n i ++ exP s j) vs ∧ Below w.heap.size w wq) (fun _ vj _ => n - (intOf vj).toNat)
        case atStart =>
          refine ⟨(nxI s).toNat, g, cap, vs, congrArg (Value.int .i64) (by omega), by omega, by omega, ?_, ?_, hbw⟩
          · rw [exP_none s _ (by omega), List.append_nil]
          · rw [exP_none s _ (by omega), List.append_nil]
            exact hL
        case round =>
          clear hm
          obtain ⟨j, g', cap', vs', rfl, j0, j1, rfl, hLj, hbj⟩ := hrel
          have hxl : (exP s j).length ≤ 9 := exP_len s j (by omega)
          have hLlen : (stL n i ++ exP s j).length ≤ 300 := by rw [List.length_append]; omega
          have hpl2 : i < (stL n i ++ exP s j).length := by rw [List.length_append]; omega
          have hs2 : (stL n i ++ exP s j)[i]? = some s := by rw [List.getElem?_append_left hpl]; exact hs
          have hex : exP s (j + 1) = exP s j ++ [s ++ [(j : Int)]] := by rw [exP_succ, if_pos j0]
          have est : j = n → stL n (i + 1) = stL n i ++ exP s j := fun e => by rw [e, stL, List.getD_eq_getElem?_getD, hs]; rfl
          have hsx : stL n i ++ exP s (j + 1) = (stL n i ++ exP s j) ++ [s ++ [(j : Int)]] := by rw [hex, List.append_assoc]
          generalize stL n i ++ exP s j = L at *
          by_cases hjn : j < n
          · have hjn' : (j : Int) < (n : Int) := by omega
            obtain ⟨y', hy', hrow2⟩ := hLj.cell hs2
            obtain ⟨g3, cap3, cur3, rfl, r1, r2, r3, r4, r5⟩ := hrow2
            have hpi2 : (i : Int) < (L.length : Int) := by omega
            have hg3 : g3 < wr.heap.size := (Array.getElem?_eq_some_iff.1 r2).1
            have hlen2 : (s ++ [(j : Int)]).length = s.length + 1 := by simp
            have hn1 : ∀ (k : Nat) (u : Value), (s.map (Value.int .i64))[k]? = some u → (wr.alloc (.cells #[] 3)).cell? ((⟨g3, 0, none⟩ : Addr).add k) = some u := fun k u hu => by
              rw [add_zero_at, Lib.cell_of_heap (past_alloc _ r2)]
              exact r5 k u hu
            have hn2 : ∀ u ∈ s.map (Value.int .i64), u.oneCell' = true := fun u hu => by
              obtain ⟨x, _, rfl⟩ := List.mem_map.1 hu
              rfl
            have hmx : s.length + 1 ≤ maxLen := by unfold maxLen; omega
            have hmx3 : L.length + 1 ≤ maxLen := by unfold maxLen; omega
            have hyc := (past_cell (o := .cells #[] 3) hy')
            go_wp2_with (first
              | (at_builtin; refine wpList_append_own _ rfl _ _ 24 rfl wr.heap.size 3 i0 (.int .i64 0) 1 8 Tryz.underlying24 hi hz0 hz1 hz2 rfl (by decide) (.slice (some ⟨wr.heap.size, 0, none⟩) 0 0) 0 [] rfl ⟨rfl, .inr ⟨_, 0, #[], rfl, Nat.le_refl _, at_alloc _ rfl, Nat.le_refl _, Nat.zero_le _, rfl, rfl⟩⟩ ⟨g3, 0, none⟩ s.length cap3 (s.map (Value.int .i64)) rfl (by rw [List.length_map, Nat.mul_one]) hn1 hn2 (by omega) (by omega) (World.grownBy_alloc wr _ none).size ?_; intro v1 w3 hown1 hgrow1 hnil1; rw [Nat.zero_add, List.nil_append] at hown1; have bw3 : Below wr.heap.size wr w3 := ((Below.refl _ wr).alloc (Nat.le_refl _) _).grown hgrow1 (World.grownBy_alloc wr _ none).size (fun k hk => by have : wr.heap.size = k := Option.some.inj hk; omega); have hne1 : v1 ≠ .slice none 0 0 := fun e => by simpa using (hnil1.1 e).1)
              | (at_builtin; refine wpList_append_own _ rfl _ _ 24 rfl wr.heap.size 3 i0 (.int .i64 0) 1 8 Tryz.underlying24 hi hz0 hz1 hz2 rfl (by decide) v1 _ _ rfl (hown1.alloc _) ⟨w3.heap.size, 0, none⟩ 1 1 [.int .i64 j] rfl rfl (cell_one_new _ _ _) (by intro u hu; simp at hu; subst hu; rfl) hmx (by omega) (Nat.le_trans bw3.size (World.grownBy_alloc w3 _ none).size) ?_; intro v2 w4 hown2 hgrow2 hnil2; have bw4 : Below wr.heap.size wr w4 := (bw3.alloc bw3.size _).grown hgrow2 (Nat.le_trans bw3.size (World.grownBy_alloc w3 _ none).size) (fun k hk => (hown1.lt k hk).1); have hne2 : v2 ≠ .slice none 0 0 := fun e => hne1 (hnil2.1 e).1; have hr4 : RowO w4 w.heap.size v2 (s ++ [(j : Int)]) := RowO.of (b := wr.heap.size) (by rw [hlen2, List.map_append]; exact hown2) hbj.size hne2; obtain ⟨g5, cap5, cur5, ev, t1, t2, t3, t4, t5⟩ := hr4; rw [hlen2] at ev; subst ev; have bw5 : Below wr.heap.size wr (w4.alloc (.cells #[.slice (some ⟨g5, 0, none⟩) (s.length + 1) cap5] 24)) := bw4.alloc bw4.size _; have hL5 := hLj.below bw5; have hr5 : RowO (w4.alloc (.cells #[.slice (some ⟨g5, 0, none⟩) (s.length + 1) cap5] 24)) w.heap.size (.slice (some ⟨g5, 0, none⟩) (s.length + 1) cap5) (s ++ [(j : Int)]) := ⟨g5, cap5, cur5, by rw [hlen2], t1, past_alloc _ t2, t3, t4, t5⟩)
              | (at_builtin; refine wpList_append_own _ rfl _ _ 47 rfl w.heap.size 24 i5 (.slice none 0 0) 1 24 Tryz.underlying47 hi5 hy0 hy1 hy2 rfl (by decide) (.slice (some ⟨g', 0, none⟩) L.length cap') _ _ rfl hL5.own ⟨w4.heap.size, 0, none⟩ 1 1 [.slice (some ⟨g5, 0, none⟩) (s.length + 1) cap5] rfl rfl (cell_one_new _ _ _) (by intro u hu; simp at hu; subst hu; rfl) hmx3 (by omega) (Nat.le_trans hbj.size bw5.size) ?_; intro v6 w6 hown6 hgrow6 hnil6; have hL6 := hL5.grow hr5 hown6 hgrow6; have hb6 := (hbj.trans (bw5.mono hbj.size)).grown hgrow6 (Nat.le_trans hbj.size bw5.size) (fun k hk => (hL5.own.lt k hk).1); obtain ⟨g6, cap6, rfl⟩ := row_slice hown6))
            rw [← hsx] at hL6
            refine ⟨⟨j + 1, g6, cap6, _, congrArg (Value.int .i64) (by omega), by omega, by omega, ?_, hL6, hb6⟩, ?_⟩
            · rw [hsx, List.length_append]
              rfl
            · show n - ((j : Int) + 1).toNat < n - (j : Int).toNat
              omega
          · have hjn' : ¬ (j : Int) < (n : Int) := by omega
            have ej : j = n := by omega
            subst ej
            have est := est rfl
            go_wp2
            refine ⟨⟨i + 1, g', cap', vs', congrArg (Value.int .i64) (by omega), by omega, ?_, ?_, hbj⟩, ?_⟩
            · rw [est]
            · rw [est]
              exact hLj
            · show 2 ^ j - ((i : Int) + 1).toNat < 2 ^ j - (i : Int).toNat
              omega
    · have est : stL n i = subsI n := by
        have ei : i = 2 ^ n := by omega
        rw [ei]
        rfl
      have hpi : ¬ (i : Int) < ((stL n i).length : Int) := by
        rw [est]
        omega
      rw [est] at hL hpi ⊢
      clear stlen est hlen stlt
      go_wp2
      go_ret
      exact ⟨g, cap, rfl, ⟨vs, hL⟩, hbw⟩
end Go.Proofs.YtaphcpfkgpaefaaGreat
/-
  impl.MostInTime, walked by hand.
-/
namespace Go.Proofs.YtaphcpfkgpaefaaGreat
open Go Go.Proofs Go.V Go.RowKit
set_option linter.unusedSimpArgs false
set_option linter.unusedVariables false

theorem sum_zero : ∀ (L : List Int) (a : Int), 0 ≤ a → (∀ x ∈ L, 0 ≤ x) → (L.foldl (· + ·) a = 0 ↔ a = 0 ∧ ∀ x ∈ L, x = 0)
  | [], a, _, _ => by simp
  | x :: L, a, ha, h => by
    have hx := h x List.mem_cons_self
    rw [List.foldl_cons, sum_zero L (a + x) (by omega) (fun y hy => h y (List.mem_cons_of_mem _ hy))]
    constructor
    · rintro ⟨h1, h2⟩
      refine ⟨by omega, fun y hy => ?_⟩
      rcases List.mem_cons.1 hy with rfl | hy
      · omega
      · exact h2 y hy
    · rintro ⟨h1, h2⟩
      have := h2 x List.mem_cons_self
      exact ⟨by omega, fun y hy => h2 y (List.mem_cons_of_mem _ hy)⟩
theorem max_zero : ∀ (L : List Int) (a : Int), 0 ≤ a → (∀ x ∈ L, 0 ≤ x) → (L.foldl max a = 0 ↔ a = 0 ∧ ∀ x ∈ L, x = 0)
  | [], a, _, _ => by simp
  | x :: L, a, ha, h => by
    have hx := h x List.mem_cons_self
    rw [List.foldl_cons, max_zero L (max a x) (by omega) (fun y hy => h y (List.mem_cons_of_mem _ hy))]
    constructor
    · rintro ⟨h1, h2⟩
      refine ⟨by omega, fun y hy => ?_⟩
      rcases List.mem_cons.1 hy with rfl | hy
      · omega
      · exact h2 y hy
    · rintro ⟨h1, h2⟩
      have := h2 x List.mem_cons_self
      exact ⟨by omega, fun y hy => h2 y (List.mem_cons_of_mem _ hy)⟩
theorem cost_sum (L : List Int) (h : ∀ x ∈ L, 0 ≤ x ∧ x ≤ 100000) : (L.foldl (· + ·) 0 = 0) ↔ mostL L = 0 := by
  unfold mostL
  rw [sum_zero L 0 (Int.le_refl _) (fun x hx => (h x hx).1), max_zero L 0 (Int.le_refl _) (fun x hx => (h x hx).1)]
set_option maxRecDepth 100000 in
theorem call_sum {w : World} {F : Nat → Prop} (l : List Int) (h : l.length ≤ 1048576) (hx : ∀ x ∈ l, 0 ≤ x ∧ x ≤ 100000) {y : Value} (hr : RepV w F (ints l) y) (hF : ∀ b, F b → b < w.heap.size) :
    Calls Tryz.prog 26 #[y] w fun e w' => e = .returned (.int .i64 (l.foldl (· + ·) 0)) ∧ Below w.heap.size w w' :=
  calls_flat1 (Go.Proofs.enters_of Tryz.func26 (by kernel_rfl) rfl) M_impl_sum F_impl_sum rfl (e_impl_sum l h hx) rfl (F := F) gOk_nil
    (show ArgOk w _ _ (.dat 2) (ints l) y ∧ True from ⟨.inr hr, trivial⟩) hF
theorem RowO.mono {W : World} {B B' : Nat} {v : Value} {o : List Int} (h : RowO W B v o) (hb : B' ≤ B) : RowO W B' v o := by
  obtain ⟨g, cap, cur, h1, h2, h3⟩ := h
  exact ⟨g, cap, cur, h1, Nat.le_trans hb h2, h3⟩
set_option maxHeartbeats 2000000 in
set_option maxRecDepth 1000000 in
theorem byDue_walk (l : List Od) (hl8 : l.length ≤ 8) (A : Option Addr) (c : Nat) (w : World)
    (hA : l ≠ [] → ∃ b o, A = some ⟨b, o, none⟩ ∧ b < w.heap.size ∧ ∀ (i : Nat) (x : Od), l[i]? = some x → CellsAt w b (o + i * 4) (cellsO x)) :
    Calls Tryz.prog 29 #[.slice A l.length c] w fun e w' => ∃ v, e = .returned v ∧ RowO w' w.heap.size v (dueL l) ∧ Below w.heap.size w w' := by
  have hc := seq_walk due_walk l hl8 A c w hA
  go_enter Tryz.func29, Tryz.ntmps29
  go_wp2_with (go_at_call 51; refine hc.mono ?_)
  rintro e w2 ⟨g, cap, cur, rfl, b2, hgg, hcell, hcap, hcs, hrow⟩
  go_wp2
  go_ret
  have hlen := dueL_len l
  refine ⟨_, rfl, ⟨g, cap, cur, by rw [hlen]; rfl, hgg, hcell, by omega, hcs, fun i u hu => hrow i u ?_⟩, b2⟩
  rw [← hu]
  have e : dueL l = seqL l dueLt := (seqL_key l dueLt (fun x => x.2.2.2) (fun _ _ _ _ => rfl)).symm
  rw [e]
  simp only [seqL, List.map_map]
  rfl
end Go.Proofs.YtaphcpfkgpaefaaGreat
/-
  impl.MostInTime, walked by hand: the loop over all lists.
-/
namespace Go.Proofs.YtaphcpfkgpaefaaGreat
open Go Go.Proofs Go.V Go.RowKit
set_option linter.unusedSimpArgs false
set_option linter.unusedVariables false

def fstM (V : List Int → Bool) (n i : Nat) : List Int := ((subsI n).take i).foldl (stepM V) []
theorem fstM_succ (V : List Int → Bool) {n i : Nat} (h : i < (subsI n).length) : fstM V n (i + 1) = stepM V (fstM V n i) (subsI n)[i] := by
  unfold fstM
  rw [List.take_succ_eq_append_getElem h, List.foldl_append]
  rfl
theorem fstM_end (V : List Int → Bool) (n : Nat) : fstM V n (subsI n).length = mostI V n := by
  unfold fstM
  rw [List.take_length]
  rfl
theorem fstM_len (V : List Int → Bool) {n : Nat} (hn : n < 9) (i : Nat) : (fstM V n i).length ≤ 8 := by
  have key : ∀ (L : List (List Int)) (b : List Int), b.length ≤ 8 → (∀ s ∈ L, s.length ≤ 8) → (L.foldl (stepM V) b).length ≤ 8 := by
    intro L
    induction L with
    | nil => intro b hb _; exact hb
    | cons s L ih =>
      intro b hb h
      rw [List.foldl_cons]
      refine ih _ ?_ (fun t ht => h t (List.mem_cons_of_mem _ ht))
      unfold stepM
      split
      · exact h s List.mem_cons_self
      · exact hb
  exact key _ _ (by simp) fun s hs => by
    have := ((tab_parts hn).2.1 s (List.mem_of_mem_take hs)).2.1
    omega
def tkM (l : List Od) (s : List Int) (j : Nat) : List Int := ((dueL l).take j).filter fun k => decide (k ∈ s)
theorem tkM_len (l : List Od) (s : List Int) (j : Nat) : (tkM l s j).length ≤ l.length := by
  unfold tkM
  refine Nat.le_trans (List.length_filter_le _ _) ?_
  rw [List.length_take, dueL_len]
  exact Nat.min_le_right _ _
theorem tkM_succ (l : List Od) (s : List Int) {j : Nat} (h : j < (dueL l).length) : tkM l s (j + 1) = tkM l s j ++ if (dueL l)[j] ∈ s then [(dueL l)[j]] else [] := by
  unfold tkM
  rw [List.take_succ_eq_append_getElem h, List.filter_append]
  congr 1
  by_cases hm : (dueL l)[j] ∈ s <;> simp [hm]
theorem tkM_end (l : List Od) (s : List Int) : tkM l s (dueL l).length = seqM l s := by
  unfold tkM seqM
  rw [List.take_length]
set_option maxHeartbeats 8000000 in
set_option maxRecDepth 1000000 in
theorem most_walk (l : List Od) (h : l.length ≤ 1048576) (A : Option Addr) (c : Nat) (w : World) (F : Nat → Prop) (hr : RepV w F (ods l) (.slice A l.length c)) (hF : ∀ b, F b → b < w.heap.size)
    (hA : l ≠ [] → ∃ b o, A = some ⟨b, o, none⟩ ∧ F b ∧ ∀ (i : Nat) (x : Od), l[i]? = some x → CellsAt w b (o + i * 4) (cellsO x)) :
    Calls Tryz.prog 11 #[.slice A l.length c] w fun e w' => ∃ v, e = .returned (.tuple #[v, .bool (goodO l)]) ∧ RowO w' w.heap.size v (mstR l) ∧ Below w.heap.size w w' := by
  obtain ⟨i0, hi, hz0, hz1, hz2⟩ := info_parts info3
  have hc1 := call_AreOrders l h hr hF
  go_enter Tryz.func11, Tryz.ntmps11
  cases hgd : goodO l
  · rw [hgd] at hc1
    have e1 : mstR l = [] := by simp [mstR, hgd]
    rw [e1]
    go_wp2_with (go_at_call 28; refine hc1.mono ?_)
    rintro e w1 ⟨rfl, b1⟩
    go_wp2
    go_ret2
    exact ⟨_, rfl, ⟨w1.heap.size, 0, #[], rfl, b1.size, at_alloc _ rfl, Nat.le_refl _, Nat.le_refl _, fun i u hu => by simp at hu⟩, b1.alloc b1.size _⟩
  · rw [hgd] at hc1
    obtain ⟨hg, hl8⟩ := goodO_all hgd
    have hn9 : l.length < 9 := by omega
    have e1 : mstR l = fstM (vM l) l.length (subsI l.length).length := by rw [fstM_end, most_eq (vM l) hn9 (vM_nil l)]; simp [mstR, hgd]
    have hsub256 : (subsI l.length).length ≤ 256 := by
      rw [(st_lt hn9).2]
      exact Nat.pow_le_pow_right (by omega) hl8
    have hdl8 : (dueL l).length ≤ 8 := by rw [dueL_len]; exact hl8
    rw [e1]
    go_wp2_with (first
      | (go_at_call 28; refine hc1.mono ?_; rintro e w1 ⟨rfl, b1⟩)
      | (go_at_call 32; refine (subsets_walk l.length hn9 _).mono ?_; rintro e w2 ⟨g2, cap2, vs, rfl, hL, b2⟩))
    have b12 := (b1.alloc b1.size (.cells #[] 3)).trans (b2.mono (Nat.le_trans b1.size (World.grownBy_alloc w1 _ none).size))
    go_loopw [4, 19] (fun vb vi wr => ∃ i : Nat, vi = .int .i64 i ∧ i ≤ (subsI l.length).length ∧ RowO wr w.heap.size vb (fstM (vM l) l.length i) ∧ LstO wr (w1.alloc (.cells #[] 3)).heap.size (.slice (some ⟨g2, 0, none⟩) (subsI l.length).length cap2) (subsI l.length) vs ∧ Below w.heap.size w wr ∧ w2.heap.size ≤ wr.heap.size) (fun _ vi _ => (subsI l.length).length - (intOf vi).toNat)
    case atStart =>
      refine ⟨0, rfl, Nat.zero_le _, ⟨w1.heap.size, 0, #[], rfl, b1.size, ?_, Nat.le_refl _, Nat.le_refl _, fun i u hu => by simp [fstM] at hu⟩, hL, b12, Nat.le_refl _⟩
      exact (b2.block _ (by simp)).trans (at_alloc _ rfl)
    case round =>
      obtain ⟨i, rfl, hin, hbest, hLr, hbw, hsz⟩ := hrel
      rename World => w0
      by_cases hp : i < (subsI l.length).length
      · have hpi : (i : Int) < ((subsI l.length).length : Int) := by omega
        obtain ⟨s, hs⟩ : ∃ s, (subsI l.length)[i]? = some s := ⟨_, List.getElem?_eq_getElem hp⟩
        have hsub : s ∈ subsI l.length := List.mem_of_getElem? hs
        have hsg : (subsI l.length)[i] = s := (List.getElem?_eq_some_iff.1 hs).2
        obtain ⟨y, hy, hrow⟩ := hLr.cell hs
        have hsin := (tab_parts hn9).2.1 s hsub
        have hc3 := fun (o : Obj) => byDue_walk l hl8 A c (w0.alloc o) (fun hne => by
          obtain ⟨b, o', h1, h2, h3⟩ := hA hne
          have hb := hF b h2
          exact ⟨b, o', h1, Nat.lt_of_lt_of_le hb (Nat.le_trans hbw.size (World.grownBy_alloc w0 _ none).size), fun k x hx t u hu => ((hbw.alloc hbw.size o).cell (by exact hb)).trans (h3 k x hx t u hu)⟩)
        go_wp2_with (go_at_call 29; refine (hc3 _).mono ?_)
        rintro e w5 ⟨v5, rfl, hD, b5⟩
        obtain ⟨gD, capD, curD, rfl, D1, D2, D3, D4, D5⟩ := hD
        have b05 : Below w0.heap.size w0 w5 := ((Below.refl _ w0).alloc (Nat.le_refl _) _).trans (b5.mono (World.grownBy_alloc w0 _ none).size)
        have D1' : w0.heap.size < gD := by
          have : (w0.alloc (Obj.cells #[] 3)).heap.size = w0.heap.size + 1 := by simp
          omega
        go_wp2
        go_loopw [7, 27] (fun v7 vj wq => ∃ (j g7 cap7 : Nat), vj = .int .i64 j ∧ j ≤ (dueL l).length ∧ v7 = .slice (some ⟨g7, 0, none⟩) (tkM l s j).length cap7 ∧ wq.ownsRow w0.heap.size 3 1 (.slice (some ⟨g7, 0, none⟩) (tkM l s j).length cap7) (tkM l s j).length ((tkM l s j).map (Value.int .i64)) ∧ g7 ≠ gD ∧ wq.heap[gD]? = some (.cells curD 3 (0, 0)) ∧ Below w0.heap.size w0 wq) (fun _ vj _ => (dueL l).length - (intOf vj).toNat)
        case atStart =>
          refine ⟨0, w0.heap.size, 0, rfl, Nat.zero_le _, rfl, ⟨rfl, .inr ⟨_, 0, #[], rfl, Nat.le_refl _, (b5.block _ (by simp)).trans (at_alloc _ rfl), Nat.le_refl _, Nat.zero_le _, rfl, rfl⟩⟩, by omega, D2, b05⟩
        case round =>
          obtain ⟨j, g7, cap7, rfl, hjn, rfl, hown, hgg, hcD, hb0⟩ := hrel
          obtain ⟨gs, hgs, hys⟩ := (hrow.below hb0).rep
          have htl := tkM_len l s j
          by_cases hj : j < (dueL l).length
          · have hj' : (j : Int) < ((dueL l).length : Int) := by omega
            have hcel : wr.cell? ⟨gD, j, none⟩ = some (.int .i64 (dueL l)[j]) := by
              rw [Lib.cell_of_heap hcD]
              exact D5 j _ (by simp [hj])
            have hsucc := tkM_succ l s hj
            generalize (dueL l)[j] = d at *
            have hc4 := call_hasNumber s d (by omega) hys (fun b hb => by subst hb; exact hgs)
            by_cases hm : d ∈ s
            · rw [decide_eq_true hm] at hc4
              rw [if_pos hm] at hsucc
              have hmx : (tkM l s j).length + 1 ≤ maxLen := by unfold maxLen; omega
              go_wp2_with (first
                | (go_at_call 33; refine hc4.mono ?_; rintro e w6 ⟨rfl, b6⟩; have hown6 := hown.kept (row := none) ⟨b6.os, b6.tape, b6.output, b6.size, fun k hk _ => b6.block k hk⟩ (.inr (by simp [Value.ownBlock])); have hb06 := hb0.trans (b6.mono hb0.size))
                | (at_builtin; refine wpList_append_own_at _ rfl _ _ 24 rfl w0.heap.size 3 i0 (.int .i64 0) 1 8 Tryz.underlying24 hi hz0 hz1 hz2 rfl (by decide) (.slice (some ⟨g7, 0, none⟩) (tkM l s j).length cap7) _ _ rfl (hown6.alloc _) ⟨w6.heap.size, 0, none⟩ 1 1 [.int .i64 d] rfl rfl (cell_one_new _ _ _) (by intro u hu; simp at hu; subst hu; rfl) hmx (by omega) (Nat.le_trans hb06.size (World.grownBy_alloc w6 _ none).size) ?_; intro v7 w7 hown7 hgrow7 hnil7 hat7))
              have hgD6 : gD < w6.heap.size := Nat.lt_of_lt_of_le (Array.getElem?_eq_some_iff.1 hcD).1 b6.size
              have hb07 := (hb06.alloc hb06.size (.cells #[.int .i64 d] 3)).grown hgrow7 (Nat.le_trans hb06.size (World.grownBy_alloc w6 _ none).size) (fun k hk => (hown6.lt k hk).1)
              have hcD7 : w7.heap[gD]? = some (.cells curD 3 (0, 0)) := by
                rw [hgrow7.block gD (Nat.lt_of_lt_of_le hgD6 (World.grownBy_alloc w6 _ none).size) (fun e => hgg (Option.some.inj e).symm)]
                exact past_alloc _ ((b6.block gD (Array.getElem?_eq_some_iff.1 hcD).1).trans hcD)
              obtain ⟨g8, cap8, rfl⟩ := row_slice hown7
              have hg8 : g8 ≠ gD := by
                rcases hat7 with e | e
                · have : g8 = g7 := Option.some.inj e
                  rw [this]
                  exact hgg
                · have : g8 = (w6.alloc (.cells #[.int .i64 d] 3)).heap.size := Option.some.inj e
                  have hs' : (w6.alloc (.cells #[.int .i64 d] 3)).heap.size = w6.heap.size + 1 := by simp
                  omega
              have hl2 : (tkM l s (j + 1)).length = (tkM l s j).length + 1 := by rw [hsucc]; simp
              refine ⟨⟨j + 1, g8, cap8, congrArg (Value.int .i64) (by omega), by omega, by rw [hl2], ?_, hg8, hcD7, hb07⟩, ?_⟩
              · rw [hl2, hsucc, List.map_append]
                exact hown7
              · show (dueL l).length - ((j : Int) + 1).toNat < (dueL l).length - (j : Int).toNat
                omega
            · rw [decide_eq_false hm] at hc4
              rw [if_neg hm, List.append_nil] at hsucc
              go_wp2_with (go_at_call 33; refine hc4.mono ?_)
              rintro e w6 ⟨rfl, b6⟩
              go_wp2
              refine ⟨⟨j + 1, g7, cap7, congrArg (Value.int .i64) (by omega), by omega, by rw [hsucc], ?_, hgg, (b6.block gD (Array.getElem?_eq_some_iff.1 hcD).1).trans hcD, hb0.trans (b6.mono hb0.size)⟩, ?_⟩
              · rw [hsucc]
                exact hown.kept (row := none) ⟨b6.os, b6.tape, b6.output, b6.size, fun k hk _ => b6.block k hk⟩ (.inr (by simp [Value.ownBlock]))
              · show (dueL l).length - ((j : Int) + 1).toNat < (dueL l).length - (j : Int).toNat
                omega
          · have hj' : ¬ (j : Int) < ((dueL l).length : Int) := by omega
            have hq : tkM l s j = seqM l s := by
              have : j = (dueL l).length := by omega
              rw [this, tkM_end]
            rw [hq] at hown htl ⊢
            have hfs := fstM_succ (vM l) hp
            rw [hsg] at hfs
            have hbest2 := hbest.below hb0
            have hrow2 := (hrow.below hb0).mono (Nat.le_trans b1.size (World.grownBy_alloc w1 (.cells #[] 3) none).size)
            have hL2 := hLr.below hb0
            have hbw2 := hbw.trans (hb0.mono hbw.size)
            have hbl := fstM_len (vM l) hn9 i
            have hqin : ∀ k ∈ seqM l s, 0 ≤ k ∧ k < l.length := fun k hk => dueL_in l k (List.mem_filter.1 hk).1
            have hrow7 : RowO wr w0.heap.size (.slice (some ⟨g7, 0, none⟩) (seqM l s).length cap7) (seqM l s) := RowO.of hown (Nat.le_refl _) (by simp)
            have hfin : ∀ (vb : Value) (wz : World), RowO wz w.heap.size vb (fstM (vM l) l.length (i + 1)) → Below wr.heap.size wr wz → ∃ i', Value.int .i64 ((i : Int) + 1) = .int .i64 ((i' : Nat) : Int) ∧ i' ≤ (subsI l.length).length ∧ RowO wz w.heap.size vb (fstM (vM l) l.length i') ∧ LstO wz (w1.alloc (.cells #[] 3)).heap.size (.slice (some ⟨g2, 0, none⟩) (subsI l.length).length cap2) (subsI l.length) vs ∧ Below w.heap.size w wz ∧ w2.heap.size ≤ wz.heap.size := fun vb wz h1 h2 =>
              ⟨i + 1, congrArg (Value.int .i64) (by omega), by omega, h1, hL2.below h2, hbw2.trans (h2.mono hbw2.size), Nat.le_trans hsz (Nat.le_trans hb0.size h2.size)⟩
            have hmeas : (subsI l.length).length - ((i : Int) + 1).toNat < (subsI l.length).length - (i : Int).toNat := by omega
            obtain ⟨gb, capb, curb, rfl, hbr⟩ := hbest2
            have hbestv : RowO wr w.heap.size (.slice (some ⟨gb, 0, none⟩) (fstM (vM l) l.length i).length capb) (fstM (vM l) l.length i) := ⟨gb, capb, curb, rfl, hbr⟩
            obtain ⟨gy, capy, cury, rfl, hyr⟩ := hrow2
            have hrowv : RowO wr w.heap.size (.slice (some ⟨gy, 0, none⟩) s.length capy) s := ⟨gy, capy, cury, rfl, hyr⟩
            by_cases hlt : (fstM (vM l) l.length i).length < s.length
            · have hlt' : ((fstM (vM l) l.length i).length : Int) < (s.length : Int) := by omega
              obtain ⟨g9, hg9, hv9⟩ := hrow7.rep
              have hc5 := call_lateness l (seqM l s) hg hqin (by omega) (y := .slice A l.length c) (z := .slice (some ⟨g7, 0, none⟩) (seqM l s).length cap7) (w := wr) (F := fun b => F b ∨ b = g9) (RepV_mono (fun b hb => .inl hb) (fun b hb => hbw2.block b (hF b hb)) hr) (RepV_mono (fun b hb => .inr hb) (fun _ _ => rfl) hv9) (fun b hb => by
                rcases hb with hb | rfl
                · exact Nat.lt_of_lt_of_le (hF b hb) hbw2.size
                · exact hg9)
              have hlin := late_in hg hqin (by omega)
              have hll := lateO_len l (seqM l s) (seqM l s).length
              have hcs := cost_sum _ hlin
              by_cases hz : (lateO l (seqM l s) (seqM l s).length).foldl (· + ·) 0 = 0
              · have hv : vM l s = true := by
                  unfold vM costO
                  exact decide_eq_true (hcs.1 hz)
                have e3 : stepM (vM l) (fstM (vM l) l.length i) s = s := by unfold stepM; rw [if_pos ⟨hlt, hv⟩]
                rw [e3] at hfs
                go_wp2_with (first
                  | (go_at_call 21; refine hc5.mono ?_; rintro e w8 ⟨v8, F8, rfl, h8, hF8, b8⟩; have hc6 := call_sum _ (by rw [hll]; omega) hlin h8 hF8)
                  | (go_at_call 26; refine hc6.mono ?_; rintro e w9 ⟨rfl, b9⟩))
                have b89 := b8.trans (b9.mono b8.size)
                refine ⟨hfin _ _ (by rw [hfs]; exact hrowv.below b89) b89, hmeas⟩
              · have hv : ¬ vM l s = true := by
                  unfold vM costO
                  intro h
                  exact hz (hcs.2 (of_decide_eq_true h))
                have e3 : stepM (vM l) (fstM (vM l) l.length i) s = fstM (vM l) l.length i := by unfold stepM; rw [if_neg (fun h => hv h.2)]
                rw [e3] at hfs
                go_wp2_with (first
                  | (go_at_call 21; refine hc5.mono ?_; rintro e w8 ⟨v8, F8, rfl, h8, hF8, b8⟩; have hc6 := call_sum _ (by rw [hll]; omega) hlin h8 hF8)
                  | (go_at_call 26; refine hc6.mono ?_; rintro e w9 ⟨rfl, b9⟩))
                have b89 := b8.trans (b9.mono b8.size)
                refine ⟨hfin _ _ (by rw [hfs]; exact hbestv.below b89) b89, hmeas⟩
            · have hlt' : ¬ ((fstM (vM l) l.length i).length : Int) < (s.length : Int) := by omega
              have e3 : stepM (vM l) (fstM (vM l) l.length i) s = fstM (vM l) l.length i := by unfold stepM; rw [if_neg (fun h => hlt h.1)]
              rw [e3] at hfs
              go_wp2
              refine ⟨hfin _ _ (by rw [hfs]; exact hbestv) (Below.refl _ _), hmeas⟩
      · have hpi : ¬ (i : Int) < ((subsI l.length).length : Int) := by omega
        have hii : fstM (vM l) l.length i = fstM (vM l) l.length (subsI l.length).length := by
          rw [show i = (subsI l.length).length by omega]
        rw [hii] at hbest
        clear hii
        go_wp2
        go_ret2
        exact ⟨_, rfl, hbest, hbw⟩
end Go.Proofs.YtaphcpfkgpaefaaGreat
/-
  impl.MostInTime's contract.
-/
namespace Go.Proofs.YtaphcpfkgpaefaaGreat
open Go Go.Proofs Go.V Go.RowKit
set_option linter.unusedSimpArgs false
set_option linter.unusedVariables false

def fMst : List D → Option Out
  | [.arr _ ds] => (odsOf ds).bind fun l => if l.length ≤ 1048576 then some (.ret [ints (mstR l), B (goodO l)] []) else none
  | _ => none
@[reducible] def S_impl_MostInTime : FS := { pm := [.dat 2], rm := [.own 1 0 false, .dat 0], f := fMst }
set_option maxRecDepth 100000 in
theorem M_impl_MostInTime : Meets gl0 Tryz.prog 11 S_impl_MostInTime := by
  have he : ∀ args w, (callFunc 11 args).run Tryz.prog w = .ok (.enter 11 args) w := Go.Proofs.enters_of Tryz.func11 (by kernel_rfl) rfl
  refine meets_of_calls he fun ds rs us hd args w F ow hg ha hF _ => ?_
  obtain ⟨d, y, rfl, h2, h3⟩ := args_one ha
  replace hd : fMst [d] = some (.ret rs us) := hd
  unfold fMst at hd
  split at hd
  case h_2 => cases hd
  rename_i z ds e
  cases e
  obtain ⟨l, hl, hd'⟩ := Option.bind_eq_some_iff.1 hd
  clear hd
  split at hd'
  case isFalse => cases hd'
  rename_i hz
  cases hd'
  obtain rfl := odsOf_some _ _ hl
  rcases h3 with h3 | h3
  · cases h3
  replace h3 : RepV w F (.arr z (l.map od)) y := h3
  have h3' := h3
  simp only [RepV, RepC] at h3
  obtain ⟨A, c, us', hy, hc, hr, hz2, hA⟩ := h3
  simp only [List.cons.injEq, and_true] at hy
  subst hy
  rw [rep_ods l us' hr] at hA
  rw [size1 h2]
  rw [List.length_map] at hc h3' ⊢
  have hrep : RepV w F (ods l) (.slice A l.length c) := by
    simp only [RepV, RepC]
    refine ⟨A, c, us', by rw [List.length_map], by rw [List.length_map]; exact hc, hr, fun d hd => ?_, fun hne => ?_⟩
    · obtain ⟨x, _, rfl⟩ := List.mem_map.1 hd
      rfl
    · obtain ⟨b, o, h5, h6, h7⟩ := hA hne
      exact ⟨b, o, h5, h6, by rw [rep_ods l us' hr]; exact h7⟩
  refine (most_walk l hz A c w F hrep (fun b hb => (hF b hb).1) (fun hne => ?_)).mono ?_
  · obtain ⟨b, o, rfl, h5, h6⟩ := hA (by simpa using hne)
    exact ⟨b, o, rfl, h5, cells_ods l o h6⟩
  · rintro e w' ⟨v, rfl, ⟨gg, cap, cur, rfl, hgg, hcell, hcap, hcs, hrow⟩, hB⟩
    refine ⟨_, rfl, F, fun b => if b = gg then some 0 else none, [_, _], rfl, post_own _ hB hF (fun b j hb => ?_) rfl rfl rfl rfl fun j => ?_⟩
    · split at hb
      · rename_i e
        subst e
        exact ⟨hgg, (Array.getElem?_eq_some_iff.1 hcell).1⟩
      · cases hb
    · match j with
      | 0 =>
        refine .inr ⟨(mstR l).map I, rfl, fun x hx => ?_, .inr ⟨gg, 0, cap, (mstR l).map (Value.int .i64), cur, _, ?_, ?_, hcell, by omega, RepL_ints _, fun i u hu => ?_, by simp, hgg⟩⟩
        · obtain ⟨s, _, rfl⟩ := List.mem_map.1 hx
          rfl
        · rw [List.length_map]
          rfl
        · rw [List.length_map]
          exact hcap
        · rw [Nat.zero_add]
          exact hrow i u hu
      | 1 => exact .inr (RepV_v.2 ⟨rfl, rfl⟩)
      | j + 2 => exact .inl rfl
end Go.Proofs.YtaphcpfkgpaefaaGreat
