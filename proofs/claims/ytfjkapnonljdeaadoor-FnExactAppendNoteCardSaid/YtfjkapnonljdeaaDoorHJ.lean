/-
  The program's text of a journal: walked by hand, for it writes into a builder.
-/
import Derived.Test.YtfjkapnonljdeaaDoorP9
import Derived.Shelf.Strings.BuilderK
import Derived.BigCall
namespace Go.Proofs.YtfjkapnonljdeaaDoor
open Go Go.V Go.RowKit Go.Shelf
set_option linter.unusedSimpArgs false

/-- The text of notes behind a check. -/
def jT : List Nt → Int → ByteArray
  | [], _ => ⟨#[]⟩
  | x :: l, c => lnT x (ckN c x) ++ jT l (ckN c x)
theorem lnT_size {x : Nt} {c : Int} (hx : isNt x = true) (hc : 0 ≤ c ∧ c ≤ 9972) : (lnT x c).size ≤ 44 := by
  obtain ⟨h1, h2, h3⟩ := isNt_iff.1 hx
  have s1 := intT_size 9 (n := x.1) (by omega) (by omega)
  have s2 := intT_size 9 (n := x.2.1) (by omega) (by omega)
  have s3 := intT_size 9 (n := x.2.2) (by omega) (by omega)
  have s4 := intT_size 9 (n := c) (by omega) (by omega)
  simp only [lnT, ByteArray.size_append, sz1]
  omega

theorem builder_kept {T e B b : Nat} {bs : List Value} {w w' : World} (h : Lib.IsBuilderF T e B b bs w) (hB : Below w.heap.size w w') : Lib.IsBuilderF T e B b bs w' := by
  have key : ∀ p, Lib.BuilderAtF T e B b p bs w → Lib.BuilderAtF T e B b p bs w' := by
    rintro p h
    have hlt := h.lt
    obtain ⟨h1, v, h2, ⟨h3, h4⟩, h5⟩ := h
    refine ⟨h1, v, (hB.block b hlt).trans h2, ⟨h3, ?_⟩, h5⟩
    rcases h4 with h4 | ⟨g, cap, cur, fz, g1, g2, g3, g4⟩
    · exact .inl h4
    · exact .inr ⟨g, cap, cur, fz, g1, g2, (hB.block g (Array.getElem?_eq_some_iff.1 g3).1).trans g3, g4⟩
  exact h.elim (fun h => .inl (key _ h)) (fun h => .inr (key _ h))
/-- A call that hands one scalar back, of a function whose contract is said of data. -/
theorem calls_flat1 {P : Program} {G : List (Nat × (Obj → Prop))} {f : FuncId} {S : FS} (he : ∀ args w, (callFunc f args).run P w = .ok (.enter f args) w) (hm : Meets G P f S) {ds : List D} {y : Value} (f' : List D → Option Out) (hf' : S.f = f') (hd : f' ds = some (.ret [.v y] [])) (hrm : S.rm = [.dat 0]) {args : Array Value} {w : World} {F : Nat → Prop}
    (hgl : gOk G w F) (ha : ArgsOk w F (fun _ => none) 0 S.pm ds args.toList) (hF : ∀ b, F b → b < w.heap.size) : Calls P f args w fun e w' => e = .returned y ∧ Below w.heap.size w w' := by
  refine (calls_of_meets' he hm (hf' ▸ hd) hgl ha (fun b hb => ⟨hF b hb, rfl⟩) (fun b i h => by cases h)).mono ?_
  rintro e w' ⟨v, rfl, F', R, vs, rfl, hpost⟩
  have hl := hpost.len
  rw [hrm] at hl
  obtain ⟨u, rfl⟩ := List.length_eq_one_iff.1 hl
  have h0 := hpost.res 0
  rw [hrm] at h0
  simp only [nthK, nth, List.getD_cons_zero] at h0
  rcases h0 with h0 | h0
  · cases h0
  exact ⟨by rw [resV, (RepV_v.1 h0).1], ⟨hpost.os, hpost.tape, hpost.output, hpost.size, fun b hb => hpost.keep b hb rfl⟩⟩
abbrev ntV (x : Nt) : Value := .agg #[.int .i64 x.1, .int .i64 x.2.1, .int .i64 x.2.2]
theorem rep_nt {w : World} {F : Nat → Prop} (x : Nt) : RepV w F (nt x) (ntV x) := by
  refine ⟨[.int .i64 x.1, .int .i64 x.2.1, .int .i64 x.2.2], rfl, ?_⟩
  simp only [RepC]
  refine ⟨?_, rfl⟩
  refine RepL_cons.2 ⟨[.int .i64 x.1], [.int .i64 x.2.1, .int .i64 x.2.2], rfl, by simp only [RepC]; exact ⟨trivial, rfl⟩, ?_⟩
  refine RepL_cons.2 ⟨[.int .i64 x.2.1], [.int .i64 x.2.2], rfl, by simp only [RepC]; exact ⟨trivial, rfl⟩, ?_⟩
  exact RepL_cons.2 ⟨[.int .i64 x.2.2], [], rfl, by simp only [RepC]; exact ⟨trivial, rfl⟩, RepL_nil.2 rfl⟩
set_option maxRecDepth 100000 in
theorem call_check {w : World} {F : Nat → Prop} (hF : ∀ b, F b → b < w.heap.size) (hgl : gOk gl0 w F) {c : Int} {x : Nt} (hc : 0 ≤ c ∧ c ≤ 9972) (hx : isNt x = true) :
    Calls Tryd.prog 82 #[.int .i64 c, ntV x] w fun e w' => e = .returned (.int .i64 (ckN c x)) ∧ Below w.heap.size w w' :=
  calls_flat1 (Go.Proofs.enters_of Tryd.func82 (by kernel_rfl) rfl) M_impl_check F_impl_check rfl (e_impl_check hc hx) rfl hgl (show ArgOk w F _ (.dat 0) (I c) (.int .i64 c) ∧ ArgOk w F _ (.dat 0) (nt x) (ntV x) ∧ True from ⟨.inr (RepV_v.2 ⟨rfl, rfl⟩), .inr (rep_nt x), trivial⟩) hF
set_option maxRecDepth 100000 in
theorem call_noteLine {w : World} {F : Nat → Prop} (hF : ∀ b, F b → b < w.heap.size) (hgl : gOk gl1 w F) {c : Int} {x : Nt} (hc : 0 ≤ c ∧ c ≤ 9972) (hx : isNt x = true) :
    Calls Tryd.prog 84 #[ntV x, .int .i64 c] w fun e w' => e = .returned (.string (lnT x c)) ∧ Below w.heap.size w w' :=
  calls_flat1 (Go.Proofs.enters_of Tryd.func84 (by kernel_rfl) rfl) M_impl_noteLine F_impl_noteLine rfl (e_impl_noteLine hx hc) rfl hgl (show ArgOk w F _ (.dat 0) (nt x) (ntV x) ∧ ArgOk w F _ (.dat 0) (I c) (.int .i64 c) ∧ True from ⟨.inr (rep_nt x), .inr (RepV_v.2 ⟨rfl, rfl⟩), trivial⟩) hF
theorem call_write (B b : Nat) (bs : List Value) (s : ByteArray) (w : World) (h : Lib.IsBuilderF 103 5 B b bs w) (hlen : bs.length + s.size ≤ 140737488355328) (hBw : B ≤ w.heap.size) :
    Calls Tryd.prog 83 #[.pointer (some ⟨b, 0, none⟩), .string s] w fun e w' => e = .returned (.tuple #[.int .i64 s.size, .nilIface]) ∧ (Lib.BuilderAtF 103 5 B b (.pointer (some ⟨b, 0, none⟩)) (bs ++ Lib.strCells s) w' ∧ Below B w w' ∧ Lib.OthersKept 5 (some b) w w') :=
  Any.Builder_WriteString_k (ρ := Tryd.lays156_ren) { Tryd.lays156 with } Tryd.Builder_Extra_156 B b bs s w h hlen hBw
theorem call_string (B b : Nat) (l : List UInt8) (w : World) (h : Lib.IsBuilderF 103 5 B b (Lib.byteCells l) w) (hBw : B ≤ w.heap.size) :
    Calls Tryd.prog 85 #[.pointer (some ⟨b, 0, none⟩)] w fun e w' => e = .returned (.string ⟨l.toArray⟩) ∧ (Lib.IsBuilderF 103 5 B b (Lib.byteCells l) w' ∧ Below B w w' ∧ Lib.OthersKept 5 (some b) w w') :=
  Any.Builder_String_any_k (ρ := Tryd.lays156_ren) { Tryd.lays156 with } Tryd.Builder_Extra_156 B b l w h hBw

def cellsN (x : Nt) : List Value := [.int .i64 x.1, .int .i64 x.2.1, .int .i64 x.2.2]
theorem rep_nts {w : World} {F : Nat → Prop} : ∀ (l : List Nt) (us : List Value), RepL w F (l.map nt) us → us = l.flatMap cellsN
  | [], us, h => RepL_nil.1 h
  | x :: l, us, h => by
    obtain ⟨v1, v2, rfl, h1, h2⟩ := RepL_cons.1 h
    rw [rep_nts l v2 h2]
    simp only [RepC] at h1
    obtain ⟨u1, r1, rfl, g1, h1⟩ := RepL_cons.1 h1.1
    obtain ⟨u2, r2, rfl, g2, h1⟩ := RepL_cons.1 h1
    obtain ⟨u3, r3, rfl, g3, h1⟩ := RepL_cons.1 h1
    simp only [RepC] at g1 g2 g3
    rw [g1.1, g2.1, g3.1, RepL_nil.1 h1]
    rfl
theorem cells_nts {w : World} {b : Nat} : ∀ (l : List Nt) (o : Nat), CellsAt w b o (l.flatMap cellsN) → ∀ (i : Nat) (x : Nt), l[i]? = some x → CellsAt w b (o + i * 3) (cellsN x)
  | [], _, _, i, x, hx => by simp at hx
  | y :: l, o, h, 0, x, hx => by
    simp only [List.getElem?_cons_zero, Option.some.injEq] at hx
    subst hx
    intro j u hu
    have := h j u (by rw [List.flatMap_cons, List.getElem?_append_left (List.getElem?_eq_some_iff.1 hu).1]; exact hu)
    simpa using this
  | y :: l, o, h, i + 1, x, hx => by
    have := cells_nts l (o + 3) (by
      have := h.drop 3
      exact this) i x (by simpa using hx)
    rw [show o + (i + 1) * 3 = o + 3 + i * 3 by omega]
    exact this

set_option maxHeartbeats 4000000 in
set_option maxRecDepth 1000000 in
theorem journalText_walk (l : List Nt) (hg : ∀ x ∈ l, isNt x = true) (hl : l.length ≤ 1048576) (A : Option Addr) (c : Nat) (_hc : l.length ≤ c) (w : World) (F : Nat → Prop) (hF : ∀ b, F b → b < w.heap.size) (hgl : gOk gl1 w F)
    (hA : l ≠ [] → ∃ b o, A = some ⟨b, o, none⟩ ∧ F b ∧ ∀ (i : Nat) (x : Nt), l[i]? = some x → CellsAt w b (o + i * 3) (cellsN x)) :
    Calls Tryd.prog 54 #[.slice A l.length c] w fun e w' => e = .returned (.string (jT l 7)) ∧ Below w.heap.size w w' := by
  go_enter Tryd.func54, Tryd.ntmps54
  go_wp2
  go_loopw [4, 9] (fun v4 v9 wr => ∃ (i : Nat) (cc : Int) (acc : List UInt8), v4 = .int .i64 cc ∧ v9 = .int .i64 i ∧ i ≤ l.length ∧ (0 ≤ cc ∧ cc ≤ 9972) ∧ Lib.IsBuilderF 103 5 w.heap.size w.heap.size (Lib.byteCells acc) wr ∧ Below w.heap.size w wr ∧ acc ++ chars (jT (l.drop i) cc) = chars (jT l 7) ∧ acc.length ≤ 44 * i) (fun v4 v9 wr => l.length - (match v9 with | .int _ n => n.toNat | _ => 0))
  case atStart =>
    exact ⟨0, 7, [], rfl, rfl, Nat.zero_le _, by decide, Lib.IsBuilderF.of (Lib.fresh_isBuilder 103 5 w), (Below.refl _ w).alloc (Nat.le_refl _) _, rfl, Nat.le_refl _⟩
  case round =>
    obtain ⟨i, cc, acc, rfl, rfl, hi, hcc, hI, hbw, hacc, hal⟩ := hrel
    by_cases hp : i < l.length
    · have hpi : (i : Int) < (l.length : Int) := by omega
      obtain ⟨b, o, rfl, hb, hcell⟩ := hA (fun h => by rw [h] at hp; exact absurd hp (Nat.not_lt_zero _))
      have hcl := hcell i l[i] (List.getElem?_eq_getElem hp)
      have hbw0 : wr.heap[b]? = w.heap[b]? := hbw.block b (hF b hb)
      have c0 : wr.cell? ⟨b, o + i * 3, none⟩ = some (.int .i64 l[i].1) := (World.cell?_of_block hbw0).trans (hcl 0 _ rfl)
      have c1 : wr.cell? ⟨b, o + i * 3 + 1, none⟩ = some (.int .i64 l[i].2.1) := (World.cell?_of_block hbw0).trans (hcl 1 _ rfl)
      have c2 : wr.cell? ⟨b, o + i * 3 + 2, none⟩ = some (.int .i64 l[i].2.2) := (World.cell?_of_block hbw0).trans (hcl 2 _ rfl)
      have hx : isNt l[i] = true := hg _ (List.getElem_mem hp)
      have hI0 := hI.alloc (.cells #[.int .i64 l[i].1, .int .i64 l[i].2.1, .int .i64 l[i].2.2] 64)
      have hb0 : Below w.heap.size w (wr.alloc (.cells #[.int .i64 l[i].1, .int .i64 l[i].2.1, .int .i64 l[i].2.2] 64)) := hbw.alloc hbw.size _
      have hk0 : (wr.alloc (.cells #[.int .i64 l[i].1, .int .i64 l[i].2.1, .int .i64 l[i].2.2] 64)).heap[wr.heap.size]? = some (.cells #[.int .i64 l[i].1, .int .i64 l[i].2.1, .int .i64 l[i].2.2] 64) := Array.getElem?_push_size
      have hck := ckN_range cc l[i]
      have hcall1 := call_check (F := F) (fun b hb => Nat.lt_of_lt_of_le (hF b hb) hb0.size) (gOk_mono (fun _ h => h) (fun b hb => hb0.block b (hF b hb)) (fun p hp => hgl p (gl01 p hp))) hcc hx
      go_wp2_with (go_at_call 82; refine hcall1.mono ?_)
      rintro e W1 ⟨rfl, b1⟩
      have hI1 := builder_kept hI0 b1
      have hb1 := hb0.trans (b1.mono hb0.size)
      generalize hW0 : wr.alloc (.cells #[.int .i64 l[i].1, .int .i64 l[i].2.1, .int .i64 l[i].2.2] 64) = W0 at *
      have hk1 : W1.heap[wr.heap.size]? = some (.cells #[.int .i64 l[i].1, .int .i64 l[i].2.1, .int .i64 l[i].2.2] 64) := (b1.block _ (Array.getElem?_eq_some_iff.1 hk0).1).trans hk0
      have d0 : W1.cell? ⟨wr.heap.size, 0, none⟩ = some (.int .i64 l[i].1) := by rw [Lib.cell_of_heap hk1]; rfl
      have d1 : W1.cell? ⟨wr.heap.size, 1, none⟩ = some (.int .i64 l[i].2.1) := by rw [Lib.cell_of_heap hk1]; rfl
      have d2 : W1.cell? ⟨wr.heap.size, 2, none⟩ = some (.int .i64 l[i].2.2) := by rw [Lib.cell_of_heap hk1]; rfl
      have hcall2 := call_noteLine (F := F) (fun b hb => Nat.lt_of_lt_of_le (hF b hb) hb1.size) (gOk_mono (fun _ h => h) (fun b hb => hb1.block b (hF b hb)) hgl) hck hx
      go_wp2_with (go_at_call 84; refine hcall2.mono ?_)
      rintro e W2 ⟨rfl, b2⟩
      have hI2 := builder_kept hI1 b2
      have hb2 := hb1.trans (b2.mono hb1.size)
      have hcall3 := call_write w.heap.size w.heap.size _ (lnT l[i] (ckN cc l[i])) _ hI2 (by rw [Lib.byteCells_length]; have := lnT_size hx hck; omega) hb2.size
      go_wp2_with (go_at_call 83; refine hcall3.mono ?_)
      rintro e W3 ⟨rfl, hI3, b3, _⟩
      go_wp2
      have hdr : chars (jT (l.drop i) cc) = chars (lnT l[i] (ckN cc l[i])) ++ chars (jT (l.drop (i + 1)) (ckN cc l[i])) := by
        rw [List.drop_eq_getElem_cons hp]
        simp only [jT, chars_append]
      have hsz : (chars (lnT l[i] (ckN cc l[i]))).length ≤ 44 := lnT_size hx hck
      refine ⟨⟨i + 1, ckN cc l[i], acc ++ chars (lnT l[i] (ckN cc l[i])), rfl, congrArg (Value.int .i64) (by omega), by omega, hck, ?_, hb2.trans b3, ?_, ?_⟩, ?_⟩
      · rw [Lib.byteCells_append]
        exact Or.inr hI3
      · rw [← hacc, hdr, List.append_assoc]
      · rw [List.length_append]
        omega
      · show l.length - ((i : Int) + 1).toNat < l.length - (i : Int).toNat
        omega
    · have hpi : ¬ (i : Int) < (l.length : Int) := by omega
      have hcall4 := call_string w.heap.size w.heap.size acc _ hI hbw.size
      go_wp2_with (go_at_call 85; refine hcall4.mono ?_)
      intro e W1 he h1 b1 k1
      subst he
      go_wp2
      go_ret
      rw [List.drop_eq_nil_of_le (by omega)] at hacc
      refine ⟨?_, hbw.trans b1⟩
      have : acc = chars (jT l 7) := by rw [← hacc]; simp [jT, chars]
      rw [this, mk_chars]
      rfl

/-- Notes out of data. -/
def ntOf : D → Option Nt
  | .agg [.v (.int .i64 a), .v (.int .i64 b), .v (.int .i64 c)] => some (a, b, c)
  | _ => none
theorem ntOf_some {d : D} {x : Nt} (h : ntOf d = some x) : d = nt x := by
  unfold ntOf at h
  split at h
  · cases h; rfl
  · cases h
def ntsOf : List D → Option (List Nt)
  | [] => some []
  | d :: l => (ntOf d).bind fun x => (ntsOf l).map (x :: ·)
theorem ntsOf_some : ∀ (ds : List D) (l : List Nt), ntsOf ds = some l → ds = l.map nt
  | [], l, h => by cases h; rfl
  | d :: ds, l, h => by
    simp only [ntsOf, Option.bind_eq_some_iff, Option.map_eq_some_iff] at h
    obtain ⟨x, h1, m, h2, rfl⟩ := h
    rw [ntOf_some h1, ntsOf_some ds m h2]
    rfl
theorem ntsOf_map : ∀ (l : List Nt), ntsOf (l.map nt) = some l
  | [] => rfl
  | x :: l => by
    simp only [List.map_cons, ntsOf, ntsOf_map l]
    rfl
def fJournal : List D → Option Out
  | [.arr _ ds] => (ntsOf ds).bind fun l => if (∀ x ∈ l, isNt x = true) ∧ l.length ≤ 1048576 then some (.ret [T (jT l 7)] []) else none
  | _ => none
@[reducible] def S_impl_journalText : FS := { pm := [.dat 2], rm := [.dat 0], f := fJournal }
set_option maxRecDepth 100000 in
theorem M_impl_journalText : Meets gl1 Tryd.prog 54 S_impl_journalText := by
  have he : ∀ args w, (callFunc 54 args).run Tryd.prog w = .ok (.enter 54 args) w := Go.Proofs.enters_of Tryd.func54 (by kernel_rfl) rfl
  refine meets_of_calls he fun ds rs us hd args w F ow hg ha hF _ => ?_
  obtain ⟨d, y, rfl, h2, h3⟩ := args_one ha
  replace hd : fJournal [d] = some (.ret rs us) := hd
  unfold fJournal at hd
  split at hd
  case h_2 => cases hd
  rename_i z ds e
  cases e
  obtain ⟨l, hl, hd⟩ := Option.bind_eq_some_iff.1 hd
  split at hd
  case isFalse => cases hd
  rename_i hz
  cases hd
  obtain rfl := ntsOf_some _ _ hl
  rcases h3 with h3 | h3
  · cases h3
  simp only [RepV, RepC] at h3
  obtain ⟨A, c, us, hy, hc, hr, _, hA⟩ := h3
  simp only [List.cons.injEq, and_true] at hy
  subst hy
  rw [rep_nts l us hr] at hA
  rw [size1 h2]
  rw [List.length_map] at hc ⊢
  refine (journalText_walk l hz.1 hz.2 A c hc w F (fun b hb => (hF b hb).1) hg (fun hne => ?_)).mono ?_
  · obtain ⟨b, o, rfl, h5, h6⟩ := hA (by simpa using hne)
    exact ⟨b, o, rfl, h5, cells_nts l o h6⟩
  · rintro e w' ⟨rfl, hB⟩
    refine ⟨_, rfl, F, _, [_], rfl, post_flat hB hF rfl rfl [_] [_] rfl rfl fun j d hj => ?_⟩
    match j, hj with
    | 0, hj =>
      simp only [List.getElem?_cons_zero, Option.some.injEq] at hj
      subst hj
      exact ⟨_, rfl, RepV_v.2 ⟨rfl, rfl⟩⟩
end Go.Proofs.YtfjkapnonljdeaaDoor
