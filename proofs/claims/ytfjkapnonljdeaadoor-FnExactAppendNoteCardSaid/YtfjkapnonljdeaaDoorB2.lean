/-
  Contracts of the library's functions, said of data, out of the kit's own.
-/
import Derived.Test.YtfjkapnonljdeaaDoorB1
import Derived.Shelf.Strconv.Itoa3
import Derived.Shelf.Strconv.AtoiAll
import Derived.Lib.AtoiErrMem
import Derived.Shelf.Strings.Cut
import Derived.Shelf.Strings.SplitShaped
import Derived.Shelf.Strings.Prefix
import Derived.Shelf.Strings.OnBuilder
namespace Go.V
open Go.RowKit Go.Shelf

section
variable {P : Program} {ρ : Ren} {G : List (Nat × (Obj → Prop))}

/-- A variable that holds the table of the powers of ten. -/
def isPow10 (o : Obj) : Prop := ∃ e fr, o = .cells (Lib.pow10Tab.map fun z => Value.int .u64 z).toArray e fr
/-- A variable that holds an integer. -/
def isInt (g : Nat) (o : Obj) : Prop := ∃ m, ∀ w : World, w.heap[g]? = some o → w.cell? ⟨g, 0, none⟩ = some (.int .i64 m)

theorem gOk_cell {w : World} {F : Nat → Prop} {g : Nat} (hg : gOk G w F) (hm : (g, isInt g) ∈ G) : ∃ m, w.cell? ⟨g, 0, none⟩ = some (.int .i64 m) := by
  obtain ⟨_, o, ho, m, hc⟩ := hg _ hm
  exact ⟨m, hc w ho⟩
/-- Facts of the world at the start. -/
theorem isInt_of {w : World} {g : Nat} {m : Int} (h : w.cell? ⟨g, 0, none⟩ = some (.int .i64 m)) : ∃ o, w.heap[g]? = some o ∧ isInt g o := by
  cases ho : w.heap[g]? with
  | none => simp [World.cell?, ho] at h
  | some o => exact ⟨o, rfl, m, fun w' hw' => (World.cell?_of_block (w := w) (hw'.trans ho.symm)).trans h⟩
theorem isPow10_of {w : World} {g : Nat} (hn : P.globalNamed "internal/strconv.uint64pow10" = some g) (h : Lib.TabIs P w "internal/strconv.uint64pow10" .u64 Lib.pow10Tab) : ∃ o, w.heap[g]? = some o ∧ isPow10 o := by
  simp only [Lib.TabIs, World.var?, hn, Option.bind_some] at h
  split at h
  · rename_i cs e fr ho
    cases h
    exact ⟨_, ho, e, fr, rfl⟩
  · cases h
theorem gOk_tab {w : World} {F : Nat → Prop} {g : Nat} (hg : gOk G w F) (hm : (g, isPow10) ∈ G) (hn : P.globalNamed "internal/strconv.uint64pow10" = some g) : Lib.TabIs P w "internal/strconv.uint64pow10" .u64 Lib.pow10Tab := by
  obtain ⟨_, o, ho, e, fr, rfl⟩ := hg _ hm
  simp [Lib.TabIs, World.var?, hn, ho]

theorem size2 {args : Array Value} {y y' : Value} (h : args.toList = [y, y']) : args = #[y, y'] := by
  apply Array.ext'
  rw [h]
theorem size1 {args : Array Value} {y : Value} (h : args.toList = [y]) : args = #[y] := by
  apply Array.ext'
  rw [h]

/-! ### strconv -/
def fItoa : List D → Option Out
  | [.v (.int .i64 n)] => if -9223372036854775808 ≤ n ∧ n ≤ 9223372036854775807 then some (.ret [T ⟨(Lib.itoa n).toArray⟩] []) else none
  | _ => none
@[reducible] def S_Itoa : FS := { pm := [.dat 0], rm := [.dat 0], f := fItoa }
theorem M_Itoa (L : Go.Proofs.LaysM.n171 P ρ) {f : Nat} (hf : ρ.f 171 = f) {g : Nat} (hm : (g, isPow10) ∈ G) (hn : P.globalNamed "internal/strconv.uint64pow10" = some g) : Meets G P f S_Itoa := by
  subst hf
  have he : ∀ args w, (callFunc (ρ.f 171) args).run P w = .ok (.enter (ρ.f 171) args) w := Go.Proofs.enters_of L.f171 (by kernel_rfl) rfl
  refine meets_of_calls he fun ds rs us hd args w F ow hg ha hF _ => ?_
  obtain ⟨d, y, rfl, h2, h3⟩ := args_one ha
  replace hd : fItoa [d] = some (.ret rs us) := hd
  unfold fItoa at hd
  split at hd
  case h_2 => cases hd
  rename_i n e
  cases e
  split at hd
  case isFalse => cases hd
  rename_i hr
  cases hd
  obtain ⟨rfl, _⟩ := argD h3
  rw [size1 h2]
  refine (Go.Proofs.Any.strconv_Itoa L n hr.1 hr.2 w (gOk_tab hg hm hn)).mono ?_
  rintro e w' ⟨rfl, k, os, rfl⟩
  refine ⟨_, rfl, F, _, [_], rfl, post_flat (below_itoa w k os) hF rfl rfl [_] [_] rfl rfl fun j d hj => ?_⟩
  match j, hj with
  | 0, hj =>
    simp only [List.getElem?_cons_zero, Option.some.injEq] at hj
    subst hj
    exact ⟨_, rfl, RepV_scalar rfl⟩
where
  below_itoa (w : World) (k : Nat) (os : Array Obj) : Below w.heap.size w (Go.Sort.grow (w.drewN k) os) :=
    ⟨rfl, rfl, rfl, by simp [Go.Sort.grow, World.drewN], fun b hb => by simp [Go.Sort.grow, World.drewN, Array.getElem?_append_left hb]⟩

/-- strconv.Atoi: the number, and nil or an error. -/
def fAtoi : List D → Option Out
  | [.v (.string s)] => if s.size ≤ 281474976710656 then (match Lib.atoiAll s.data.toList with
    | .ok v => some (.ret [I v, .v .nilIface] [])
    | .syntax => some (.ret [I 0, .ifc] [])
    | .range => some (.ret [I (Lib.atoiSat s.data.toList), .ifc] [])) else none
  | _ => none
@[reducible] def S_Atoi : FS := { pm := [.dat 0], rm := [.dat 0, .dat 0], f := fAtoi }
/-- A variable that holds a value of an interface's type. -/
def isErr (o : Obj) : Prop := ∃ v cs e fr, o = .cells cs e fr ∧ cs[0]? = some v ∧ (v = .nilIface ∨ ∃ te pe, v = .iface te pe)
theorem isErr_of {w : World} {g : Nat} {name : String} {tp : TypeId} {p : Value} (hn : P.globalNamed name = some g) (h : w.var? P name = some #[.iface tp p]) : ∃ o, w.heap[g]? = some o ∧ isErr o := by
  simp only [World.var?, hn, Option.bind_some] at h
  split at h
  · rename_i cs e fr ho
    cases h
    exact ⟨_, ho, .iface tp p, _, e, fr, rfl, rfl, .inr ⟨tp, p, rfl⟩⟩
  · cases h
theorem gOk_err {w : World} {F : Nat → Prop} {g : Nat} (hg : gOk G w F) (hm : (g, isErr) ∈ G) : ∃ v, w.cell? ⟨g, 0, none⟩ = some v ∧ (v = .nilIface ∨ ∃ te pe, v = .iface te pe) := by
  obtain ⟨_, o, ho, v, cs, e, fr, rfl, hc, hv⟩ := hg _ hm
  exact ⟨v, by simp [World.cell?, ho, hc], hv⟩
theorem M_Atoi (L : Go.Proofs.LaysC.n172 P ρ) {f : Nat} (hf : ρ.f 172 = f) {g15 g16 : Nat} (h15 : ρ.g 15 = g15) (h16 : ρ.g 16 = g16) (hs : (g15, isErr) ∈ G) (hr : (g16, isErr) ∈ G) : Meets G P f S_Atoi := by
  subst hf
  have he : ∀ args w, (callFunc (ρ.f 172) args).run P w = .ok (.enter (ρ.f 172) args) w := Go.Proofs.enters_of L.f172 (by kernel_rfl) rfl
  refine meets_of_calls he fun ds rs us hd args w F ow hg ha hF _ => ?_
  obtain ⟨d, y, rfl, h2, h3⟩ := args_one ha
  subst h15 h16
  replace hd : fAtoi [d] = some (.ret rs us) := hd
  unfold fAtoi at hd
  split at hd
  case h_2 => cases hd
  rename_i s e
  cases e
  split at hd
  case isFalse => cases hd
  rename_i hz
  obtain ⟨rfl, _⟩ := argD h3
  rw [size1 h2]
  split at hd
  · rename_i v hv
    cases hd
    refine (Go.Proofs.Any.strconv_Atoi_ok L s (by omega) v hv w).mono ?_
    rintro e w' ⟨rfl, hw⟩
    refine ⟨_, rfl, F, _, [_, _], rfl, post_flat ?_ hF rfl rfl [_, _] [_, _] rfl rfl fun j d hj => ?_⟩
    · rcases hw with rfl | ⟨t, rfl⟩
      · exact Below.refl _ _
      · exact Go.Lib.bytesWorld_below w _ t
    · match j, hj with
      | 0, hj => simp only [List.getElem?_cons_zero, Option.some.injEq] at hj; subst hj; exact ⟨_, rfl, RepV_scalar rfl⟩
      | 1, hj => simp only [List.getElem?_cons_succ, List.getElem?_cons_zero, Option.some.injEq] at hj; subst hj; exact ⟨_, rfl, RepV_scalar rfl⟩
  · rename_i hv
    cases hd
    obtain ⟨v, hc, hv'⟩ := gOk_err hg hs
    refine (Go.Proofs.Any.strconv_Atoi_syntax L s hz hv v w hc hv').mono ?_
    rintro e w' ⟨N, rfl, _, _, hB⟩
    refine ⟨_, rfl, F, _, [_, _], rfl, post_flat hB hF rfl rfl [_, _] [_, _] rfl rfl fun j d hj => ?_⟩
    match j, hj with
    | 0, hj => simp only [List.getElem?_cons_zero, Option.some.injEq] at hj; subst hj; exact ⟨_, rfl, RepV_scalar rfl⟩
    | 1, hj => simp only [List.getElem?_cons_succ, List.getElem?_cons_zero, Option.some.injEq] at hj; subst hj; exact ⟨_, rfl, _, _, rfl⟩
  · rename_i hv
    cases hd
    obtain ⟨v, hc, hv'⟩ := gOk_err hg hr
    refine (Go.Proofs.Any.strconv_Atoi_range L s hz hv v w hc hv').mono ?_
    rintro e w' ⟨N, rfl, _, _, hB⟩
    refine ⟨_, rfl, F, _, [_, _], rfl, post_flat hB hF rfl rfl [_, _] [_, _] rfl rfl fun j d hj => ?_⟩
    match j, hj with
    | 0, hj => simp only [List.getElem?_cons_zero, Option.some.injEq] at hj; subst hj; exact ⟨_, rfl, RepV_scalar rfl⟩
    | 1, hj => simp only [List.getElem?_cons_succ, List.getElem?_cons_zero, Option.some.injEq] at hj; subst hj; exact ⟨_, rfl, _, _, rfl⟩

/-! ### strings -/
def fHasSuffix : List D → Option Out
  | [.v (.string s), .v (.string p)] => if s.size ≤ 9223372036854775807 then some (.ret [B (Lib.hasSuffix s.data.toList p.data.toList)] []) else none
  | _ => none
@[reducible] def S_HasSuffix : FS := { pm := [.dat 0, .dat 0], rm := [.dat 0], f := fHasSuffix }
theorem M_HasSuffix (L : Go.Proofs.Lays.n100 P ρ) {f : Nat} (hf : ρ.f 100 = f) : Meets G P f S_HasSuffix := by
  subst hf
  have he : ∀ args w, (callFunc (ρ.f 100) args).run P w = .ok (.enter (ρ.f 100) args) w := Go.Proofs.enters_of L.f100 (by kernel_rfl) rfl
  refine meets_of_calls he fun ds rs us hd args w F ow hg ha hF _ => ?_
  obtain ⟨d, y, d', y', rfl, h2, h3, h4⟩ := args_two ha
  replace hd : fHasSuffix [d, d'] = some (.ret rs us) := hd
  unfold fHasSuffix at hd
  split at hd
  case h_2 => cases hd
  rename_i s p e
  cases e
  split at hd
  case isFalse => cases hd
  rename_i hz
  cases hd
  obtain ⟨rfl, _⟩ := argD h3
  obtain ⟨rfl, _⟩ := argD h4
  rw [size2 h2]
  refine (Go.Proofs.Any.strings_HasSuffix L s p w hz).mono ?_
  rintro e w' ⟨rfl, rfl⟩
  refine ⟨_, rfl, F, _, [_], rfl, post_flat (Below.refl _ _) hF rfl rfl [_] [_] rfl rfl fun j d hj => ?_⟩
  match j, hj with
  | 0, hj => simp only [List.getElem?_cons_zero, Option.some.injEq] at hj; subst hj; exact ⟨_, rfl, RepV_scalar rfl⟩

def fTrimSuffix : List D → Option Out
  | [.v (.string s), .v (.string p)] => if s.size ≤ 9223372036854775807 then some (.ret [T ⟨(Lib.trimSuffix s.data.toList p.data.toList).toArray⟩] []) else none
  | _ => none
@[reducible] def S_TrimSuffix : FS := { pm := [.dat 0, .dat 0], rm := [.dat 0], f := fTrimSuffix }
theorem M_TrimSuffix (L : Go.Proofs.Lays.n102 P ρ) {f : Nat} (hf : ρ.f 102 = f) : Meets G P f S_TrimSuffix := by
  subst hf
  have he : ∀ args w, (callFunc (ρ.f 102) args).run P w = .ok (.enter (ρ.f 102) args) w := Go.Proofs.enters_of L.f102 (by kernel_rfl) rfl
  refine meets_of_calls he fun ds rs us hd args w F ow hg ha hF _ => ?_
  obtain ⟨d, y, d', y', rfl, h2, h3, h4⟩ := args_two ha
  replace hd : fTrimSuffix [d, d'] = some (.ret rs us) := hd
  unfold fTrimSuffix at hd
  split at hd
  case h_2 => cases hd
  rename_i s p e
  cases e
  split at hd
  case isFalse => cases hd
  rename_i hz
  cases hd
  obtain ⟨rfl, _⟩ := argD h3
  obtain ⟨rfl, _⟩ := argD h4
  rw [size2 h2]
  refine (Go.Proofs.Any.strings_TrimSuffix L s p w hz).mono ?_
  rintro e w' ⟨rfl, rfl⟩
  refine ⟨_, rfl, F, _, [_], rfl, post_flat (Below.refl _ _) hF rfl rfl [_] [_] rfl rfl fun j d hj => ?_⟩
  match j, hj with
  | 0, hj => simp only [List.getElem?_cons_zero, Option.some.injEq] at hj; subst hj; exact ⟨_, rfl, RepV_scalar rfl⟩

def fCut : List D → Option Out
  | [.v (.string s), .v (.string p)] => if s.size < 4294967281 then some (.ret [T ⟨(Lib.cut s.data.toList p.data.toList).1.toArray⟩, T ⟨(Lib.cut s.data.toList p.data.toList).2.1.toArray⟩, B (Lib.cut s.data.toList p.data.toList).2.2] []) else none
  | _ => none
@[reducible] def S_Cut : FS := { pm := [.dat 0, .dat 0], rm := [.dat 0, .dat 0, .dat 0], f := fCut }
theorem below_drewN (w : World) (n : Nat) : Below w.heap.size w (w.drewN n) := ⟨rfl, rfl, rfl, Nat.le_refl _, fun _ _ => rfl⟩
theorem M_Cut (L : Go.Proofs.Lays.n145 P ρ) {f : Nat} (hf : ρ.f 145 = f) {g1 : Nat} (h1 : ρ.g 1 = g1) (hm : (g1, isInt g1) ∈ G) : Meets G P f S_Cut := by
  subst hf
  have he : ∀ args w, (callFunc (ρ.f 145) args).run P w = .ok (.enter (ρ.f 145) args) w := Go.Proofs.enters_of L.f145 (by kernel_rfl) rfl
  refine meets_of_calls he fun ds rs us hd args w F ow hg ha hF _ => ?_
  obtain ⟨d, y, d', y', rfl, h2, h3, h4⟩ := args_two ha
  replace hd : fCut [d, d'] = some (.ret rs us) := hd
  unfold fCut at hd
  split at hd
  case h_2 => cases hd
  rename_i s p e
  cases e
  split at hd
  case isFalse => cases hd
  rename_i hz
  cases hd
  obtain ⟨rfl, _⟩ := argD h3
  obtain ⟨rfl, _⟩ := argD h4
  rw [size2 h2]
  subst h1
  obtain ⟨m, hc⟩ := gOk_cell hg hm
  refine (Go.Proofs.Any.strings_Cut L s p m w hz hc).mono ?_
  rintro e w' ⟨rfl, n, rfl⟩
  refine ⟨_, rfl, F, _, [_, _, _], rfl, post_flat (below_drewN _ _) hF rfl rfl [_, _, _] [_, _, _] rfl rfl fun j d hj => ?_⟩
  match j, hj with
  | 0, hj => simp only [List.getElem?_cons_zero, Option.some.injEq] at hj; subst hj; exact ⟨_, rfl, RepV_scalar rfl⟩
  | 1, hj => simp only [List.getElem?_cons_succ, List.getElem?_cons_zero, Option.some.injEq] at hj; subst hj; exact ⟨_, rfl, RepV_scalar rfl⟩
  | 2, hj => simp only [List.getElem?_cons_succ, List.getElem?_cons_zero, Option.some.injEq] at hj; subst hj; exact ⟨_, rfl, RepV_scalar rfl⟩

theorem alloc_new (w : World) (o : Obj) : (w.alloc o).heap[w.heap.size]? = some o := by simpa using heap_alloc_new w o
theorem alloc_size (w : World) (o : Obj) : (w.alloc o).heap.size = w.heap.size + 1 := by simp

def splitOf (s p : ByteArray) : List ByteArray := Lib.splitB p 0 (Lib.countB s p) s
def fSplit : List D → Option Out
  | [.v (.string s), .v (.string p)] => if s.size < 4294967281 ∧ 1 ≤ p.size then some (.ret [.arr 1 ((splitOf s p).map T)] []) else none
  | _ => none
@[reducible] def S_Split : FS := { pm := [.dat 0, .dat 0], rm := [.own 1 0 false], f := fSplit }
theorem M_Split (L : Go.Proofs.LaysM.n146 P ρ) {f : Nat} (hf : ρ.f 146 = f) {g1 : Nat} (h1 : ρ.g 1 = g1) (hm : (g1, isInt g1) ∈ G) : Meets G P f S_Split := by
  subst hf
  have he : ∀ args w, (callFunc (ρ.f 146) args).run P w = .ok (.enter (ρ.f 146) args) w := Go.Proofs.enters_of L.f146 (by kernel_rfl) rfl
  refine meets_of_calls he fun ds rs us hd args w F ow hg ha hF _ => ?_
  obtain ⟨d, y, d', y', rfl, h2, h3, h4⟩ := args_two ha
  replace hd : fSplit [d, d'] = some (.ret rs us) := hd
  unfold fSplit at hd
  split at hd
  case h_2 => cases hd
  rename_i s p e
  cases e
  split at hd
  case isFalse => cases hd
  rename_i hz
  cases hd
  obtain ⟨rfl, _⟩ := argD h3
  obtain ⟨rfl, _⟩ := argD h4
  rw [size2 h2]
  subst h1
  obtain ⟨m, hc⟩ := gOk_cell hg hm
  refine (Go.Proofs.Any.strings_Split { L with } L.i9 s p m w hz.1 hc hz.2).mono ?_
  rintro e w' ⟨rfl, rfl⟩
  have hlen : (splitOf s p).length = Lib.countB s p + 1 := splitOf_length s p hz.2
  refine ⟨_, rfl, F, fun b => if b = w.heap.size then some 0 else none, [_], rfl, post_own _ ((Below.refl _ w).alloc (Nat.le_refl _) _) hF (fun b j hb => ?_) rfl rfl rfl rfl fun j => ?_⟩
  · split at hb
    · rename_i e; subst e; exact ⟨Nat.le_refl _, by rw [alloc_size]; exact Nat.lt_succ_self _⟩
    · cases hb
  · match j with
    | 0 =>
      refine .inr ?_
      have := ownV_texts (w' := w.alloc (.cells ((splitOf s p).map Value.string).toArray (ρ.t 9))) (F := FB F w.heap.size 0) (own := fun g => (if g = w.heap.size then some 0 else none) = some 0 ∧ w.heap.size ≤ g) (A := w.heap.size) (c := Lib.countB s p + 1) (e := ρ.t 9)
        (cur := ((splitOf s p).map Value.string).toArray) (l := splitOf s p) (alloc_new _ _) (by omega) (by simp only [List.size_toArray, List.length_map]; omega) (fun i u hu => by rw [List.getElem?_toArray]; exact hu) ⟨by simp, Nat.le_refl _⟩
      rw [hlen] at this
      exact this
    | j + 1 => exact .inl rfl
where
  splitOf_length (s p : ByteArray) (hp : 1 ≤ p.size) : (splitOf s p).length = Lib.countB s p + 1 := by
    exact Lib.splitB_all p hp 0 _ s rfl

end
end Go.V
