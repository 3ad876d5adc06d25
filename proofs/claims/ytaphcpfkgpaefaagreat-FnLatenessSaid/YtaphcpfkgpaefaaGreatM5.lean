/-
  impl.isDifferent: walked by hand, for it keeps a map.
-/
import Derived.Test.YtaphcpfkgpaefaaGreatRows
import Derived.Test.YtaphcpfkgpaefaaGreatM4
import Derived.Maps.OwnSet
import Derived.WalkKit
import Derived.Shelf.Abstract
namespace Go.Proofs.YtaphcpfkgpaefaaGreat
open Go Go.V Go.RowKit Go.Maps
set_option linter.unusedSimpArgs false

/-- Are numbers different ones from 0 on, less than n? -/
def difG (n : Int) : List Int → List Int → Bool
  | [], _ => true
  | x :: l, seen => decide (0 ≤ x ∧ x ≤ n - 1) && !(decide (x ∈ seen)) && difG n l (x :: seen)
def inI (x : Int) : Prop := -9223372036854775808 ≤ x ∧ x ≤ 9223372036854775807
instance (x : Int) : Decidable (inI x) := by unfold inI; infer_instance
theorem e_within (a b c : Int) : F_impl_within [I a, I b, I c] = some (.ret [B (decide (b ≤ a ∧ a ≤ c))] []) := by
  rw [t_impl_within]
  by_cases h : b ≤ a <;> simp [h]

/-- A call of a function whose contract is said of data. -/
theorem calls_of_meets' {P : Program} {G : List (Nat × (Obj → Prop))} {f : FuncId} {S : FS} (he : ∀ args w, (callFunc f args).run P w = .ok (.enter f args) w) (hm : Meets G P f S) {ds rs us : List D} (hd : S.f ds = some (.ret rs us)) {args : Array Value} {w : World} {F : Nat → Prop} {ow : Nat → Option Nat}
    (hgl : gOk G w F) (ha : ArgsOk w F ow 0 S.pm ds args.toList) (hF : ∀ b, F b → b < w.heap.size ∧ ow b = none) (hO : ∀ b i, ow b = some i → b < w.heap.size) :
    Calls P f args w fun e w' => ∃ v, e = .returned v ∧ ∃ F' R vs, v = resV vs ∧ CallPost S args rs us w F ow F' R vs w' := by
  have h2 := hm ds rs us hd args w F ow hgl ha hF hO { (default : Oper) with dst := some 0 } { tmps := #[undef], defers := [] } (fun a w' => ∃ F' R vs, a.tmps.getD 0 undef = resV vs ∧ CallPost S args rs us w F ow F' R vs w') (fun _ _ _ => False) (fun v w' h => by
    obtain ⟨F', R, vs, rfl, h⟩ := h
    exact ⟨F', R, vs, by simp [Act.put], h⟩)
  rw [he, Oper.upon_enter] at h2
  refine Calls.mono h2 fun e w' he => ?_
  cases e with
  | returned v =>
    obtain ⟨F', R, vs, h3, h4⟩ := he
    exact ⟨v, rfl, F', R, vs, by simpa [Act.put] using h3, h4⟩
  | panicked c => exact he.elim
  | outgrown => obtain ⟨_, _, h⟩ := he; exact h.elim

/-- A call that hands one scalar back, of a function whose contract is said of data. -/
theorem calls_flat1 {P : Program} {G : List (Nat × (Obj → Prop))} {f : FuncId} {S : FS} (he : ∀ args w, (callFunc f args).run P w = .ok (.enter f args) w) (hm : Meets G P f S) {ds : List D} {y : Value} (f' : List D → Option Out) (hf' : S.f = f') (hd : f' ds = some (.ret [.v y] [])) (hrm : S.rm = [.dat 0]) {args : Array Value} {w : World} {F : Nat → Prop}
    (hgl : gOk G w F) (ha : ArgsOk w F (fun _ => none) 0 S.pm ds args.toList) (hF : ∀ b, F b → b < w.heap.size) : Calls P f args w fun e w' => e = .returned y ∧ Below w.heap.size w w' := by
  refine (calls_of_meets' he hm (hf' ▸ hd) hgl ha (fun b hb => ⟨hF b hb, rfl⟩) (fun b i h => by cases h)).mono ?_
  rintro e w' ⟨v, rfl, F', R, vs, rfl, hpost⟩
  have hl := hpost.len
  rw [hrm] at hl
  obtain ⟨u, rfl⟩ := List.length_eq_one_iff.1 hl
  have h0 := hpost.res 0
  rw [hrm] at h0
  simp only [nthK, nth, List.getD_cons_zero] at h0
  rcases h0 with h0 | h0
  · cases h0
  exact ⟨by rw [resV, (RepV_v.1 h0).1], ⟨hpost.os, hpost.tape, hpost.output, hpost.size, fun b hb => hpost.keep b hb rfl⟩⟩
set_option maxRecDepth 100000 in
theorem call_within (a b c : Int) (w : World) : Calls Tryz.prog 60 #[.int .i64 a, .int .i64 b, .int .i64 c] w fun e w' => e = .returned (.bool (decide (b ≤ a ∧ a ≤ c))) ∧ Below w.heap.size w w' :=
  calls_flat1 (Go.Proofs.enters_of Tryz.func60 (by kernel_rfl) rfl) M_impl_within F_impl_within rfl (e_within a b c) rfl (F := fun _ => False) gOk_nil
    (show ArgOk w _ _ (.dat 0) (I a) (.int .i64 a) ∧ ArgOk w _ _ (.dat 0) (I b) (.int .i64 b) ∧ ArgOk w _ _ (.dat 0) (I c) (.int .i64 c) ∧ True from ⟨.inr (RepV_v.2 ⟨rfl, rfl⟩), .inr (RepV_v.2 ⟨rfl, rfl⟩), .inr (RepV_v.2 ⟨rfl, rfl⟩), trivial⟩) (fun b h => h.elim)

/-! ### a set of numbers: map[int]bool -/
section
variable {H : Type} {P : Program} {k : TypeId} {w : World} {b n : Nat} {D : DataW H}
theorem plainElem_bool_inv {e : TypeId} (he : P.underlying e = some .bool) {v : Value} {z : DataW H × List MemPlace} (h : plainElem P e v = some z) : ∃ x, v = .bool x ∧ z = (.lit (.bool x), []) := by
  unfold plainElem at h
  rw [he] at h
  cases v <;> simp at h
  exact ⟨_, rfl, h.symm⟩
theorem lookup_bool {t e : TypeId} (h : w.ownsMap P k (plainElem P e) b n D) (K : Keyed P k) (ht : P.underlying t = some (.map k e)) (he : P.underlying e = some .bool) (hz : (zeroValue e).run P w = .ok (.bool false) w)
    {key : Value} {kl : Lit} (hkey : keyOf P k key = some kl) : ∃ c, (Instr.lookup t (.map (some b)) key false).run P w = .ok (.bool c) w ∧ D.atKey kl (.lit (.bool false)) = .lit (.bool c) := by
  obtain ⟨v, ps, hrun, hv⟩ := h.lookup K ht hz (plainElem_bool he false) hkey
  obtain ⟨c, rfl, hc⟩ := plainElem_bool_inv he hv
  simp only [Prod.mk.injEq] at hc
  exact ⟨c, hrun, hc.1⟩
theorem owns_kept {R : Value → Option (DataW H × List MemPlace)} {w' : World} (h : w.ownsMap P k R b n D) (hB : Below w.heap.size w w') : w'.ownsMap P k R b n D := by
  obtain ⟨es, clock, hb, r⟩ := h
  exact ⟨es, clock, (hB.block b (Array.getElem?_eq_some_iff.1 hb).1).trans hb, r⟩
end
/-- What a set holds. -/
def SetIs (D : DataW Unit) (seen : List Int) : Prop := IsMap D ∧ ∀ x : Int, D.atKey (.int .i64 x) (.lit (.bool false)) = .lit (.bool (decide (x ∈ seen)))
theorem set_nil : SetIs (.map []) [] := ⟨⟨_, rfl⟩, fun x => by simp [DataW.atKey]⟩
theorem set_put {D : DataW Unit} {seen : List Int} (h : SetIs D seen) (x : Int) : SetIs (D.put (.int .i64 x) (.lit (.bool true))) (x :: seen) := by
  refine ⟨?_, fun y => ?_⟩
  · obtain ⟨es, rfl⟩ := h.1
    exact ⟨_, rfl⟩
  · by_cases hy : y = x
    · subst hy
      rw [atKey_put_same h.1 (show WideAt.IsKeyLit (.int .i64 y) from trivial)]
      simp
    · rw [atKey_put_other (by intro e; exact hy (by injection e)), h.2 y]
      simp [hy]

theorem key_law : Keyed Tryz.prog 3 := int_keyed Tryz.underlying3
theorem key_ok {x : Int} (h : inI x) : keyOf Tryz.prog 3 (.int .i64 x) = some (.int .i64 x) := keyOf_int_mk Tryz.underlying3 (by
  simp only [Lit.wf, Bool.and_eq_true, decide_eq_true_eq]
  exact h)
theorem zero_bool (w : World) : (zeroValue 4).run Tryz.prog w = .ok (.bool false) w := by kernel_rfl

set_option maxHeartbeats 4000000 in
set_option maxRecDepth 1000000 in
theorem isDifferent_walk (l : List Int) (n : Int) (hin : ∀ x ∈ l, inI x) (hl : l.length ≤ 1048576) (h0 : 0 ≤ n) (hn : n ≤ 1048576) (A : Option Addr) (c : Nat) (w : World)
    (hA : l ≠ [] → ∃ b o, A = some ⟨b, o, none⟩ ∧ b < w.heap.size ∧ ∀ (i : Nat) (x : Int), l[i]? = some x → w.cell? ⟨b, o + i, none⟩ = some (.int .i64 x)) :
    Calls Tryz.prog 44 #[.slice A l.length c, .int .i64 n] w fun e w' => e = .returned (.bool (difG n l [])) ∧ Below w.heap.size w w' := by
  have hmm := @run_makeMap Tryz.prog
  go_enter Tryz.func44, Tryz.ntmps44
  go_wp2
  go_loopw [11] (fun i wr => ∃ (k : Nat) (seen : List Int) (D : DataW Unit), i = .int .i64 k ∧ k ≤ l.length ∧ difG n (l.drop k) seen = difG n l [] ∧ SetIs D seen ∧ wr.ownsMap Tryz.prog 3 (plainElem Tryz.prog 4) w.heap.size k D ∧ Below w.heap.size w wr)
    (fun i _ => l.length - (intOf i).toNat)
  case atStart => exact ⟨0, [], .map [], rfl, Nat.zero_le _, rfl, set_nil, World.ownsMap_made _ _ _ _, (Below.refl _ _).alloc (Nat.le_refl _) _⟩
  case round =>
    obtain ⟨k, seen, D, rfl, hk, hd, hS, hown, hbw⟩ := hrel
    by_cases hp : k < l.length
    · have hpi : (k : Int) < (l.length : Int) := by omega
      obtain ⟨b, o, rfl, hb, hcell⟩ := hA (fun h => by rw [h] at hp; exact absurd hp (Nat.not_lt_zero _))
      have c0 : wr.cell? ⟨b, o + k, none⟩ = some (.int .i64 l[k]) := (World.cell?_of_block (hbw.block b hb)).trans (hcell k _ (List.getElem?_eq_getElem hp))
      have hx := hin l[k] (List.getElem_mem hp)
      have hw1 : IntKind.i64.wrap (n - 1) = n - 1 := wrap_id (by omega) (by omega)
      have hcall := call_within l[k] 0 (n - 1) wr
      go_wp2_with (go_at_call 60; refine hcall.mono ?_)
      rintro e W1 ⟨rfl, b1⟩
      have hown1 := owns_kept hown b1
      have hb1 := hbw.trans (b1.mono hbw.size)
      obtain ⟨c, hrun, hat⟩ := lookup_bool hown1 key_law Tryz.underlying69 Tryz.underlying4 (zero_bool W1) (key_ok hx)
      rw [hS.2] at hat
      have hc : decide (l[k] ∈ seen) = c := by injection hat with hat; injection hat
      rw [List.drop_eq_getElem_cons hp] at hd
      simp only [difG] at hd
      by_cases hin : 0 ≤ l[k] ∧ l[k] ≤ n - 1
      · cases c
        · rw [hc] at hd
          simp only [hin, and_self, decide_true, Bool.not_false, Bool.true_and] at hd
          simp only [hin, and_self, decide_true]
          go_wp2_with (first
            | (at_mapUpdate; refine wpList_mapUpdate_own _ rfl _ _ _ 69 rfl 3 4 key_law Tryz.underlying69 _ w.heap.size k _ rfl hown1 (by unfold maxLen; omega) _ _ _ rfl rfl (key_ok hx) _ [] (plainElem_bool Tryz.underlying4 true) ?_; intro w2 hown2 hgrow2)
            | go_in)
          refine ⟨⟨k + 1, l[k] :: seen, _, congrArg (Value.int .i64) (by omega), by omega, hd, set_put hS l[k], hown2, hb1.grown hgrow2 hb1.size (fun j hj => by cases hj; exact Nat.le_refl _)⟩, ?_⟩
          show l.length - ((k : Int) + 1).toNat < l.length - (k : Int).toNat
          omega
        · rw [hc] at hd
          simp only [Bool.not_true, Bool.and_false, Bool.false_and] at hd
          have hd' := hd.symm
          clear hd
          simp only [hin, and_self, decide_true]
          go_wp2
          go_ret
          exact ⟨by rw [hd']; rfl, hb1⟩
      · simp only [hin, decide_false, Bool.false_and] at hd
        have hd' := hd.symm
        clear hd
        simp only [hin, decide_false]
        go_wp2
        go_ret
        exact ⟨by rw [hd']; rfl, hb1⟩
    · have hpi : ¬ (k : Int) < (l.length : Int) := by omega
      rw [List.drop_eq_nil_of_le (by omega)] at hd
      have hd' : difG n l [] = true := hd.symm
      clear hd
      go_wp2
      go_ret
      exact ⟨rfl, hbw⟩

theorem size2 {args : Array Value} {y y' : Value} (h : args.toList = [y, y']) : args = #[y, y'] := by
  apply Array.ext'
  rw [h]
/-- Numbers out of data. -/
def intsOf : List D → Option (List Int)
  | [] => some []
  | .v (.int .i64 a) :: l => if inI a then (intsOf l).map (a :: ·) else none
  | _ => none
theorem intsOf_some : ∀ (ds : List D) (l : List Int), intsOf ds = some l → ds = l.map (fun n => I n) ∧ ∀ x ∈ l, inI x := by
  intro ds
  induction ds with
  | nil => intro l h; cases h; simp
  | cons d ds ih =>
    intro l h
    unfold intsOf at h
    split at h
    · rename_i e; cases e
    · rename_i a m e
      cases e
      split at h
      · rename_i ha
        obtain ⟨m', h2, rfl⟩ := Option.map_eq_some_iff.1 h
        obtain ⟨g1, g2⟩ := ih m' h2
        rw [g1]
        refine ⟨rfl, fun x hx => ?_⟩
        rcases List.mem_cons.1 hx with rfl | hx
        · exact ha
        · exact g2 x hx
      · cases h
    · cases h
theorem intsOf_map : ∀ (l : List Int), (∀ x ∈ l, inI x) → intsOf (l.map fun n => I n) = some l
  | [], _ => rfl
  | x :: l, h => by
    simp only [List.map_cons, intsOf]
    rw [if_pos (h x (by simp)), intsOf_map l fun y hy => h y (by simp [hy])]
    rfl
theorem rep_ints {w : World} {F : Nat → Prop} : ∀ (l : List Int) (us : List Value), RepL w F (l.map fun n => I n) us → us = l.map fun n => .int .i64 n
  | [], us, h => RepL_nil.1 h
  | x :: l, us, h => by
    obtain ⟨v1, v2, rfl, h1, h2⟩ := RepL_cons.1 h
    simp only [RepC] at h1
    rw [rep_ints l v2 h2, h1.1]
    rfl
def fDif : List D → Option Out
  | [.arr _ ds, .v (.int .i64 n)] => (intsOf ds).bind fun l => if l.length ≤ 1048576 ∧ 0 ≤ n ∧ n ≤ 1048576 then some (.ret [B (difG n l [])] []) else none
  | _ => none
@[reducible] def S_impl_isDifferent : FS := { pm := [.dat 2, .dat 0], rm := [.dat 0], f := fDif }
set_option maxRecDepth 100000 in
theorem M_impl_isDifferent : Meets gl0 Tryz.prog 44 S_impl_isDifferent := by
  have he : ∀ args w, (callFunc 44 args).run Tryz.prog w = .ok (.enter 44 args) w := Go.Proofs.enters_of Tryz.func44 (by kernel_rfl) rfl
  refine meets_of_calls he fun ds rs us hd args w F ow hg ha hF _ => ?_
  obtain ⟨d, y, d', y', rfl, h2, h3, h4⟩ := args_two ha
  replace hd : fDif [d, d'] = some (.ret rs us) := hd
  unfold fDif at hd
  split at hd
  case h_2 => cases hd
  rename_i z ds n e
  cases e
  obtain ⟨l, hl, hd⟩ := Option.bind_eq_some_iff.1 hd
  split at hd
  case isFalse => cases hd
  rename_i hz
  cases hd
  obtain ⟨rfl, hin⟩ := intsOf_some _ _ hl
  obtain ⟨rfl, _⟩ := argD h4
  rcases h3 with h3 | h3
  · cases h3
  simp only [RepV, RepC] at h3
  obtain ⟨A, c, us, hy, hc, hr, _, hA⟩ := h3
  simp only [List.cons.injEq, and_true] at hy
  subst hy
  have hus := rep_ints l us hr
  subst hus
  rw [size2 h2]
  rw [List.length_map] at hc ⊢
  refine (isDifferent_walk l n hin hz.1 hz.2.1 hz.2.2 A c w (fun hne => ?_)).mono ?_
  · obtain ⟨b, o, rfl, h5, h6⟩ := hA (by simpa using hne)
    refine ⟨b, o, rfl, (hF b h5).1, fun i x hx => h6 i _ (by simp [hx])⟩
  · rintro e w' ⟨rfl, hB⟩
    refine ⟨_, rfl, F, _, [_], rfl, post_flat hB hF rfl rfl [_] [_] rfl rfl fun j d hj => ?_⟩
    match j, hj with
    | 0, hj =>
      simp only [List.getElem?_cons_zero, Option.some.injEq] at hj
      subst hj
      exact ⟨_, rfl, RepV_v.2 ⟨rfl, rfl⟩⟩
end Go.Proofs.YtaphcpfkgpaefaaGreat
/-
  The evaluator with recasts: from some place of a function on, slots that own a slice hold plain data (what is handed back, and read beside).
-/
namespace Go.V
open Go.RowKit
set_option linter.unusedSimpArgs false

@[reducible] def frz1 (K : List Kd) (fz : List Nat) (s : Nat) (k : Kd) : Kd :=
  match k with
  | .own z lv false => match memN s fz with
    | true => .dat (maxN 1 lv)
    | false => .own z lv false
  | .via r => match memN r fz with
    | true => .dat (maxN 1 (rootLv K r))
    | false => .via r
  | .ref r => match memN r fz with
    | true => .dat (maxN 1 (rootLv K r))
    | false => .ref r
  | k => k
@[reducible] def frzL (K : List Kd) (fz : List Nat) : List Kd → Nat → List Kd
  | [], _ => []
  | k :: l, s => frz1 K fz s k :: frzL K fz l (Nat.succ s)
@[reducible] def rcx (c : Cx) (fz : List Nat) : Cx := { c with K := frzL c.K fz c.K 0 }
@[reducible] def retO (k : Out → Option Out) (o : Out) : Option Out :=
  match o with
  | .nrm _ => none
  | .ext _ _ => none
  | .ret a b => k (.ret a b)
/-- What a copy of a slot holds, once that slot's slice is plain data. -/
def viaD (p x : D) : D :=
  match p with
  | .bad => .bad
  | _ => x
@[reducible] def viaC (K : List Kd) (δ : List D) : List Nat → (List D → Option Out) → Option Out
  | [], k => k []
  | s :: ss, k => match nthK K s with
    | .via r => nthC δ s fun p => nthC δ r fun x => viaC K δ ss fun l => k (viaD p x :: l)
    | _ => viaC K δ ss fun l => k (.bad :: l)
@[reducible] noncomputable def denR (c : Cx) (R : List (Nat × List Nat)) : Nat → Nat → Code → List D → (Out → Option Out) → Option Out
  | p, bid, .seq a b, δ, k => denR c R (Nat.mul 2 p) bid a δ fun o => seqK o (fun δ' => match look R p with
      | some fz => viaC c.K δ' (depsAll c.K fz) fun l => setManyC δ' (depsAll c.K fz) l fun δ'' => den (rcx c fz) bid b δ'' (retO k)
      | none => denR c R (Nat.add (Nat.mul 2 p) 1) bid b δ' k) k
  | p, bid, .cond x t e, δ, k => opC δ x fun q => ifD q (denR c R (Nat.mul 2 p) bid t δ k) (denR c R (Nat.add (Nat.mul 2 p) 1) bid e δ k)
  | p, _, .block id b, δ, k => denR c R (Nat.mul 2 p) id b δ fun o => blkK id o k
  | _, bid, x, δ, k => den c bid x δ k
@[reducible] noncomputable def denFR (c : Cx) (R : List (Nat × List Nat)) (fn : Func) (ds : List D) : Option Out :=
  match fn.body with
  | none => none
  | some b => denR c R 1 0 b (padTo fn.ntmps ds) fun o => match o with
    | .nrm δ => resC c δ c.res fun rs => getC δ c.ios fun us => usK us (some (.ret rs us))
    | .ext _ _ => none
    | .ret rs us => some (.ret rs us)
def resSl : List ResultVar → List Nat
  | [] => []
  | .tmp t :: l => t :: resSl l
  | .cell a _ :: l => a :: resSl l
def chgS (c : Cx) (fz : List Nat) : List Nat := fz ++ depsAll c.K fz
def okFz (c : Cx) (fz : List Nat) : Bool :=
  (fz.all fun s => match nthK c.K s with
    | .own _ _ false => true
    | _ => false) && ((resSl c.res).all fun s => !memN s (chgS c fz)) && (c.ios.all fun s => !memN s (chgS c fz))
def okCodeR (c : Cx) (R : List (Nat × List Nat)) : Nat → Nat → Code → Bool
  | p, bid, .seq a b => okCodeR c R (Nat.mul 2 p) bid a && (match look R p with
      | some fz => okFz c fz && okCode (rcx c fz) bid b
      | none => okCodeR c R (Nat.add (Nat.mul 2 p) 1) bid b)
  | p, bid, .cond x t e => Nat.ble (lvOf c.K x) 2 && okCodeR c R (Nat.mul 2 p) bid t && okCodeR c R (Nat.add (Nat.mul 2 p) 1) bid e
  | p, _, .block id b => okCodeR c R (Nat.mul 2 p) id b
  | _, bid, x => okCode c bid x
def okFnR (c : Cx) (R : List (Nat × List Nat)) (fn : Func) (pm rm : List Kd) : Bool :=
  (match fn.body with
    | some b => okCodeR c R 1 0 b
    | none => false) && Nat.beq (lenN c.K) fn.ntmps && prefK pm c.K && okPm pm && okRes c c.res rm && decide (c.ios = ioIdx 0 pm)

section
variable {P : Program} {c : Cx} {B : Nat} {X : Nat → Prop} {w0 : World} {F0 F : Nat → Prop} {O : Nat → Option (Nat × Nat)} {a : Act} {w : World} {δ : List D} {fz : List Nat}

theorem len_frzL (K : List Kd) (fz : List Nat) : ∀ (l : List Kd) (s : Nat), (frzL K fz l s).length = l.length
  | [], _ => rfl
  | _ :: l, s => by simp [frzL, len_frzL K fz l]
theorem nthK_frzL (K : List Kd) (fz : List Nat) : ∀ (l : List Kd) (s i : Nat), nthK (frzL K fz l s) i = frz1 K fz (s + i) (nthK l i)
  | [], s, i => by simp [frzL, nthK, frz1]
  | k :: l, s, 0 => by simp [frzL, nthK]
  | k :: l, s, i + 1 => by
    simp only [frzL, nthK]
    rw [nthK_frzL K fz l (Nat.succ s) i, show Nat.succ s + i = s + (i + 1) by omega]
theorem nthK_rcx (c : Cx) (fz : List Nat) (s : Nat) : nthK (rcx c fz).K s = frz1 c.K fz s (nthK c.K s) := by
  show nthK (frzL c.K fz c.K 0) s = _
  rw [nthK_frzL, Nat.zero_add]
theorem okFz_own (h : okFz c fz = true) {s : Nat} (hs : s ∈ fz) : ∃ z lv, nthK c.K s = .own z lv false := by
  unfold okFz at h
  simp only [Bool.and_eq_true, List.all_eq_true] at h
  have := h.1.1 s hs
  split at this
  · exact ⟨_, _, ‹_›⟩
  · cases this
theorem memN_t {s : Nat} {l : List Nat} (h : s ∈ l) : memN s l = true := by rw [memN_eq]; exact decide_eq_true h
theorem memN_f {s : Nat} {l : List Nat} (h : s ∉ l) : memN s l = false := by rw [memN_eq]; exact decide_eq_false h
theorem frz_root {r : Nat} (hr : r ∉ fz) (h : isRoot c.K r) : nthK (rcx c fz).K r = nthK c.K r := by
  rw [nthK_rcx]
  unfold isRoot at h
  generalize nthK c.K r = k at h
  cases k
  case own z lv io => cases io <;> simp [frz1, memN_f hr]
  case box n lv io => rfl
  all_goals exact h.elim
theorem frz_back {r : Nat} (h : isRoot (rcx c fz).K r) : isRoot c.K r ∧ nthK (rcx c fz).K r = nthK c.K r := by
  unfold isRoot at h ⊢
  rw [nthK_rcx] at h ⊢
  generalize nthK c.K r = k at h
  cases k
  case own z lv io =>
    refine ⟨trivial, ?_⟩
    cases io
    case true => rfl
    by_cases hr : r ∈ fz
    · simp [frz1, memN_t hr] at h
    · simp [frz1, memN_f hr]
  case box n lv io => exact ⟨trivial, rfl⟩
  case via r' => by_cases hr : r' ∈ fz <;> simp [frz1, memN_t, memN_f, hr] at h
  case ref r' => by_cases hr : r' ∈ fz <;> simp [frz1, memN_t, memN_f, hr] at h
  all_goals exact h.elim
theorem frz_io (s : Nat) : isIo (nthK (rcx c fz).K s) = isIo (nthK c.K s) := by
  rw [nthK_rcx]
  generalize nthK c.K s = k
  cases k
  case own z lv io =>
    cases io
    case true => rfl
    by_cases hr : s ∈ fz
    · simp [frz1, memN_t hr, isIo]
    · simp [frz1, memN_f hr]
  case via r' => by_cases hr : r' ∈ fz <;> simp [frz1, memN_t, memN_f, hr, isIo]
  case ref r' => by_cases hr : r' ∈ fz <;> simp [frz1, memN_t, memN_f, hr, isIo]
  all_goals rfl
theorem isOwn_of {K K' : List Kd} {r : Nat} (h : nthK K' r = nthK K r) : isOwn K' r = isOwn K r := by unfold isOwn; rw [h]
theorem FB_one {F' : Nat → Prop} {b lv : Nat} (h1 : F' b) (h2 : B ≤ b) : FB F' B (maxN 1 lv) b := by
  rw [maxN_eq]
  match lv with
  | 0 => exact ⟨h1, h2⟩
  | 1 => exact ⟨h1, h2⟩
  | n + 2 =>
    rw [Nat.max_eq_right (by omega)]
    exact h1

def viaF (K : List Kd) (δ : List D) (s : Nat) : D :=
  match nthK K s with
  | .via r => viaD (nth δ s) (nth δ r)
  | _ => .bad
theorem viaC_eq (K : List Kd) (δ : List D) : ∀ (ss : List Nat) (k : List D → Option Out), viaC K δ ss k = k (ss.map (viaF K δ))
  | [], _ => rfl
  | s :: ss, k => by
    simp only [viaC, List.map_cons, viaF]
    split
    · simp only [nthC_eq]
      exact viaC_eq K δ ss _
    · exact viaC_eq K δ ss _
theorem nth_setMany_map (f : Nat → D) : ∀ (ss : List Nat) (δ : List D) (s : Nat), s ∈ ss → nth (setMany δ ss (ss.map f)) s = if s < δ.length then f s else .bad
  | i :: ss, δ, s, h => by
    simp only [List.map_cons, setMany]
    by_cases hs : s ∈ ss
    · rw [nth_setMany_map f ss _ s hs, len_setAt]
    · rw [nth_setMany_notin _ _ _ _ hs]
      have : s = i := by simpa [hs] using h
      subst this
      exact nth_setAt_eq _ _ _

open Classical in
/-- What some slots own is from now on plain data. -/
theorem Inv.recast (h : Inv c B X w0 F0 F O a w δ) (hfz : okFz c fz = true) : ∃ F' O', Inv (rcx c fz) B X w0 F0 F' O' a w (setMany δ (depsAll c.K fz) ((depsAll c.K fz).map (viaF c.K δ))) := by
  let G : Nat → Prop := fun b => ∃ s ∈ fz, O b = some (s, 0) ∧ B ≤ b
  have hF : ∀ b, F b → F b ∨ G b := fun b hb => .inl hb
  have hG : ∀ (b s i : Nat), O b = some (s, i) → (i = 0 → s ∉ fz) → ¬ G b := by
    rintro b s i h1 h2 ⟨s', h3, h4, _⟩
    rw [h1] at h4
    cases h4
    exact h2 rfl h3
  refine ⟨fun b => F b ∨ G b, fun b => if G b then none else O b, ?_⟩
  have hO : ∀ (b s i : Nat), (i = 0 → s ∉ fz) → O b = some (s, i) → (if G b then none else O b) = some (s, i) := fun b s i h2 h1 => by rw [if_neg (hG b s i h1 h2), h1]
  have own : ∀ r ∈ fz, nth δ r ≠ .bad → RepV w (FB (fun b => F b ∨ G b) B (maxN 1 (rootLv c.K r))) (nth δ r) (av a r) := by
    intro r hr hb
    obtain ⟨z, lv, hk⟩ := okFz_own hfz hr
    have h0 := (h.slot r).resolve_left hb
    rw [hk] at h0
    have h1 := h0.resolve_left hb
    simp only [rootLv, hk]
    refine RepV_mono (fun b hb => ?_) (fun _ _ => rfl) (OwnV_rep h1)
    rcases hb with hb | hb
    · exact FB_le (by rw [maxN_eq]; exact Nat.le_max_right _ _) b (FB_mono hF b hb)
    · exact FB_one (.inr ⟨r, hr, hb.1, hb.2 rfl⟩) (hb.2 rfl)
  refine ⟨h.la.trans (len_frzL _ _ _ _).symm, (len_setMany _ _ _).trans (h.ld.trans (len_frzL _ _ _ _).symm), h.df, fun s => ?_, fun b hb => ?_, fun b p hp => ?_, fun b hb => .inl (h.f0 b hb), fun b hb => ?_, h.bb, h.os, h.tape, h.output, h.keep, gOk_mono (fun b hb => .inl hb) (fun _ _ => rfl) h.gl⟩
  · by_cases hd : s ∈ depsAll c.K fz
    · by_cases hlt : s < δ.length
      case neg =>
        refine .inl ?_
        rw [nth_setMany_map _ _ _ _ hd, if_neg hlt]
      have e : nth (setMany δ (depsAll c.K fz) ((depsAll c.K fz).map (viaF c.K δ))) s = viaF c.K δ s := by rw [nth_setMany_map _ _ _ _ hd, if_pos hlt]
      obtain ⟨r, hr, hk⟩ := depsAll_kind _ hd
      rcases hk with hk | hk
      case inr => exact .inl (e.trans (by simp only [viaF, hk]))
      have e2 : viaF c.K δ s = viaD (nth δ s) (nth δ r) := by simp only [viaF, hk]
      by_cases hb : nth δ s = .bad
      · refine .inl (e.trans (e2.trans ?_))
        rw [hb]
        rfl
      have e3 : viaD (nth δ s) (nth δ r) = nth δ r := by
        generalize nth δ s = q at hb
        cases q <;> first | rfl | exact absurd rfl hb
      have h0 := (h.slot s).resolve_left hb
      rw [hk] at h0
      obtain ⟨b1, b2, b3, b4⟩ := h0
      refine .inr ?_
      rw [nthK_rcx, hk, e, e2, e3]
      simp only [frz1, memN_t hr]
      exact .inr (by rw [b1]; exact own r hr b3)
    have e : nth (setMany δ (depsAll c.K fz) ((depsAll c.K fz).map (viaF c.K δ))) s = nth δ s := nth_setMany_notin _ _ _ _ hd
    by_cases hb : nth δ s = .bad
    · exact .inl (e.trans hb)
    have h0 := (h.slot s).resolve_left hb
    refine .inr ?_
    have hkeep : ∀ r, isRoot c.K r → nth (setMany δ (depsAll c.K fz) ((depsAll c.K fz).map (viaF c.K δ))) r = nth δ r := fun r hr => nth_setMany_notin _ _ _ _ (root_notinAll hr _)
    rw [nthK_rcx, e]
    generalize hk : nthK c.K s = k at h0
    cases k
    case dat lv => exact h0.imp id (RepV_mono (FB_mono hF) (fun _ _ => rfl))
    case own z lv io =>
      have h1 := h0.resolve_left hb
      by_cases hs : s ∈ fz
      · obtain ⟨z', lv', hk'⟩ := okFz_own hfz hs
        rw [hk] at hk'
        cases hk'
        simp only [frz1, memN_t hs]
        have ho := own s hs hb
        simp only [rootLv, hk] at ho
        exact .inr ho
      · have e2 : frz1 c.K fz s (.own z lv io) = .own z lv io := by cases io <;> simp [frz1, memN_f hs]
        rw [e2]
        exact .inr (OwnV_mono (FB_mono hF) (fun _ _ => rfl) (fun g hg => ⟨⟨hO g s 0 (fun _ => hs) hg.1, hg.2⟩, rfl⟩) h1)
    case box n lv io =>
      have h1 := h0.resolve_left hb
      have hs : s ∉ fz := fun hs => by
        obtain ⟨z', lv', hk'⟩ := okFz_own hfz hs
        rw [hk] at hk'
        cases hk'
      exact .inr (BoxV_mono (FB_mono hF) (fun _ _ => rfl) (fun g hg => ⟨⟨hO g s 0 (fun _ => hs) hg.1, hg.2⟩, rfl⟩) h1)
    case via r =>
      have hr : r ∉ fz := fun hr => hd (mem_depsAll (.inl hk) _ hr)
      obtain ⟨b1, b2, b3, b4⟩ := h0
      simp only [frz1, memN_f hr]
      exact ⟨b1, b2, by rw [hkeep r (isOwn_root b4)]; exact b3, by rw [isOwn_of (frz_root hr (isOwn_root b4))]; exact b4⟩
    case ref r =>
      have hr : r ∉ fz := fun hr => hd (mem_depsAll (.inr hk) _ hr)
      obtain ⟨i, f, b1, b2, b3⟩ := h0
      simp only [frz1, memN_f hr]
      exact ⟨i, f, b1, by rw [hkeep r (RefV_root b3)]; exact b2, by rw [frz_root hr (RefV_root b3)]; exact b3⟩
    case tup ms =>
      obtain ⟨l, vs, b1, b2, b3⟩ := h0
      exact ⟨l, vs, b1, b2, fun i => Lone_mono hF (fun _ _ => rfl) (fun g hg => ⟨hO g s (i + 1) (fun h => by omega) hg, rfl⟩) (b3 i)⟩
    case no => trivial
  · rcases hb with hb | hb
    · obtain ⟨h1, h2⟩ := h.fl b hb
      refine ⟨h1, ?_⟩
      simp only [h2]
      split <;> rfl
    · obtain ⟨s, h1, h2, h3⟩ := hb
      exact ⟨(h.ol b _ h2).1, if_pos ⟨s, h1, h2, h3⟩⟩
  · split at hp
    · cases hp
    · exact h.ol b p hp
  · rcases hb with hb | ⟨s, h1, h2, h3⟩
    · exact h.fn b hb
    · exact .inr h3
/-- Back to the function's own kinds: what was recast is void. -/
theorem Inv.uncast (h : Inv (rcx c fz) B X w0 F0 F O a w δ) : Inv c B X w0 F0 F O a w (setMany δ (chgS c fz) []) := by
  refine ⟨h.la.trans (len_frzL _ _ _ _), (len_setMany _ _ _).trans (h.ld.trans (len_frzL _ _ _ _)), h.df, fun s => ?_, h.fl, h.ol, h.f0, h.fn, h.bb, h.os, h.tape, h.output, h.keep, h.gl⟩
  by_cases hd : s ∈ chgS c fz
  · exact .inl (nth_kill _ _ _ hd)
  have e : nth (setMany δ (chgS c fz) []) s = nth δ s := nth_setMany_notin _ _ _ _ hd
  by_cases hb : nth δ s = .bad
  · exact .inl (e.trans hb)
  have h0 := (h.slot s).resolve_left hb
  refine .inr ?_
  have hs : s ∉ fz := fun hs => hd (List.mem_append_left _ hs)
  have hdp : s ∉ depsAll c.K fz := fun hs => hd (List.mem_append_right _ hs)
  have hkeep : ∀ r, r ∉ fz → isRoot c.K r → nth (setMany δ (chgS c fz) []) r = nth δ r := fun r h1 h2 => nth_setMany_notin _ _ _ _ fun hm => by
    rcases List.mem_append.1 hm with hm | hm
    · exact h1 hm
    · exact root_notinAll h2 _ hm
  rw [nthK_rcx] at h0
  rw [e]
  generalize hk : nthK c.K s = k at h0
  cases k
  case own z lv io =>
    have e2 : frz1 c.K fz s (.own z lv io) = .own z lv io := by cases io <;> simp [frz1, memN_f hs]
    rw [e2] at h0
    exact h0
  case via r =>
    have hr : r ∉ fz := fun hr => hdp (mem_depsAll (.inl hk) _ hr)
    simp only [frz1, memN_f hr] at h0
    obtain ⟨b1, b2, b3, b4⟩ := h0
    obtain ⟨g1, g2⟩ := frz_back (isOwn_root b4)
    exact ⟨b1, b2, by rw [hkeep r hr g1]; exact b3, by rw [← isOwn_of g2]; exact b4⟩
  case ref r =>
    have hr : r ∉ fz := fun hr => hdp (mem_depsAll (.inr hk) _ hr)
    simp only [frz1, memN_f hr] at h0
    obtain ⟨i, f, b1, b2, b3⟩ := h0
    obtain ⟨g1, g2⟩ := frz_back (RefV_root b3)
    exact ⟨i, f, b1, by rw [hkeep r hr g1]; exact b2, by rw [← g2]; exact b3⟩
  all_goals exact h0

theorem resC_recast : ∀ (l : List ResultVar) (δ δ' : List D) (k : List D → Option Out), (∀ t ∈ resSl l, nth δ t = nth δ' t) → resC (rcx c fz) δ l k = resC c δ' l k
  | [], _, _, _, _ => rfl
  | .tmp t :: l, δ, δ', k, h => by
    simp only [resC, nthC_eq]
    rw [h t (by simp [resSl])]
    exact resC_recast l δ δ' _ fun t ht => h t (by simp [resSl, ht])
  | .cell b t :: l, δ, δ', k, h => by
    simp only [resC, nthC_eq]
    rw [h b (by simp [resSl])]
    cases look c.T t with
    | none => rfl
    | some i =>
      simp only
      refine congrArg _ (funext fun y => ?_)
      exact resC_recast l δ δ' _ fun t ht => h t (by simp [resSl, ht])
theorem ret_recast {V : Nat → Value} {k : Out → Option Out} {r : Out} (hfz : okFz c fz = true) (h : NextV (rcx c fz) B X w0 F0 V (fun δ => retK (rcx c fz) δ (retO k)) r a w) : NextV c B X w0 F0 V (fun δ => retK c δ k) r a w := by
  obtain ⟨⟨F, O, δ, hI, hk⟩, hV⟩ := h
  obtain ⟨rs, h1, h2, h3⟩ := retK_is hk
  unfold okFz at hfz
  simp only [Bool.and_eq_true, List.all_eq_true, Bool.not_eq_true'] at hfz
  have out : ∀ s, memN s (chgS c fz) = false → nth (setMany δ (chgS c fz) []) s = nth δ s := fun s hs => nth_setMany_notin _ _ _ _ fun hm => by
    rw [memN_t hm] at hs
    cases hs
  have hg : getAll (setMany δ (chgS c fz) []) c.ios = getAll δ c.ios := by
    have : ∀ l : List Nat, (∀ s ∈ l, memN s (chgS c fz) = false) → getAll (setMany δ (chgS c fz) []) l = getAll δ l := by
      intro l
      induction l with
      | nil => intro _; rfl
      | cons s l ih =>
        intro hl
        simp only [getAll]
        rw [out s (hl s (by simp)), ih fun t ht => hl t (by simp [ht])]
    exact this _ hfz.2
  refine ⟨⟨F, O, _, hI.uncast, retK_of (rs := rs) ?_ ?_ ?_⟩, fun s hs => hV s (by rw [frz_io]; exact hs)⟩
  · rw [← resC_recast (fz := fz) c.res δ _ _ fun t ht => (out t (hfz.1.2 t ht)).symm]
    exact h1
  · rw [hg]
    exact h2
  · rw [hg]
    exact h3

theorem denR_sound (hT : okT P c.T = true) (hS : ∀ f S, look c.S f = some S → Meets c.G P f S) (hm : P.follows .mixedOrders = true) {V : Nat → Value} {R : List (Nat × List Nat)} : ∀ (b : Code) (p bid : Nat), okCodeR c R p bid b = true → ∀ (F : Nat → Prop) (O : Nat → Option (Nat × Nat)) (a : Act) (w : World) (δ : List D),
    Inv c B X w0 F0 F O a w δ → IoV c V a → ∀ (k : Out → Option Out) (r : Out), denR c R p bid b δ k = some r → ∀ Q, (∀ e a w, Post c B X w0 F0 V k r e a w → Q e a w) → b.wp P Q a w
  | .seq x y, p, bid, hok, F, O, a, w, δ, hI, hV, k, r, hg, Q, hQ => by
    simp only [okCodeR, Bool.and_eq_true] at hok
    simp only [denR] at hg
    refine wp_seq (denR_sound hT hS hm x _ bid hok.1 F O a w δ hI hV _ r hg _ (fun e a' w' hp => ?_))
    cases e with
    | normal =>
      obtain ⟨⟨F', O', δ', hI', hk'⟩, hV'⟩ := hp
      have hok2 := hok.2
      simp only [seqK] at hk'
      cases hH : look R p with
      | none =>
        rw [hH] at hk' hok2
        exact denR_sound hT hS hm y _ bid hok2 F' O' a' w' δ' hI' hV' k r hk' Q hQ
      | some fz =>
        rw [hH] at hk' hok2
        simp only [Bool.and_eq_true] at hok2
        simp only [viaC_eq, setManyC_eq] at hk'
        obtain ⟨F2, O2, hI2⟩ := hI'.recast hok2.1
        refine den_sound (c := rcx c fz) hT hS hm y bid hok2.2 F2 O2 a' w' _ hI2 (fun s hs => hV' s (by rw [← frz_io (fz := fz)]; exact hs)) (retO k) r hk' Q (fun e a w hp => ?_)
        cases e with
        | normal => obtain ⟨⟨_, _, _, _, h⟩, _⟩ := hp; cases h
        | exit i => obtain ⟨⟨_, _, _, _, h⟩, _⟩ := hp; cases h
        | ret => exact hQ .ret _ _ (ret_recast hok2.1 hp)
        | _ => exact hp.elim
    | exit id => exact hQ _ _ _ hp
    | ret => exact hQ _ _ _ hp
    | _ => exact hp.elim
  | .cond x t e, p, bid, hok, F, O, a, w, δ, hI, hV, k, r, hg, Q, hQ => by
    simp only [okCodeR, Bool.and_eq_true] at hok
    obtain ⟨⟨hlv, hok1⟩, hok2⟩ := hok
    have hop := hI.opd (ble_iff.1 hlv)
    have key : ifD (opD δ x) (denR c R (Nat.mul 2 p) bid t δ k) (denR c R (Nat.add (Nat.mul 2 p) 1) bid e δ k) = some r := by
      simp only [denR] at hg
      cases x with
      | tmp s => simpa only [opC, nthC_eq, opD] using hg
      | const v => simpa only [opC, opD] using hg
      | func f => simpa only [opC, opD] using hg
      | global g => simp [opC] at hg
    unfold ifD at key
    split at key
    · rename_i hd
      rw [hd] at hop
      exact wp_cond_true (RepB_v hop).1 (denR_sound hT hS hm t _ bid hok1 F O a w δ hI hV k r key Q hQ)
    · rename_i hd
      rw [hd] at hop
      exact wp_cond_false (RepB_v hop).1 (denR_sound hT hS hm e _ bid hok2 F O a w δ hI hV k r key Q hQ)
    · cases key
  | .block id b, p, bid, hok, F, O, a, w, δ, hI, hV, k, r, hg, Q, hQ => by
    simp only [okCodeR] at hok
    refine wp_block (denR_sound hT hS hm b _ id hok F O a w δ hI hV _ r hg _ (fun e a' w' hp => ?_))
    cases e with
    | normal => exact hQ .normal _ _ hp
    | exit i =>
      simp only [Exit.inBlock]
      have hp' : NextV c B X w0 F0 V (fun δ => blkK id (.ext i δ) k) r a' w' := hp
      split
      · rename_i hi
        refine hQ .normal _ _ (NextV_mono hp' fun δ F O _ h => ?_)
        simp only [blkK] at h
        rw [beq_iff.2 (by simpa using hi)] at h
        exact h
      · rename_i hi
        refine hQ (.exit i) _ _ (NextV_mono hp' fun δ F O _ h => ?_)
        simp only [blkK] at h
        cases hb : Nat.beq i id
        · rw [hb] at h; exact h
        · exact absurd (by simpa using beq_iff.1 hb) hi
    | ret => exact hQ .ret _ _ hp
    | _ => exact hp.elim
  | .skip, p, bid, hok, F, O, a, w, δ, hI, hV, k, r, hg, Q, hQ => den_sound hT hS hm .skip bid hok F O a w δ hI hV k r hg Q hQ
  | .region id ops d, p, bid, hok, F, O, a, w, δ, hI, hV, k, r, hg, Q, hQ => den_sound hT hS hm (.region id ops d) bid hok F O a w δ hI hV k r hg Q hQ
  | .loop b, p, bid, hok, F, O, a, w, δ, hI, hV, k, r, hg, Q, hQ => den_sound hT hS hm (.loop b) bid hok F O a w δ hI hV k r hg Q hQ
  | .exit id, p, bid, hok, F, O, a, w, δ, hI, hV, k, r, hg, Q, hQ => den_sound hT hS hm (.exit id) bid hok F O a w δ hI hV k r hg Q hQ
  | .ret, p, bid, hok, F, O, a, w, δ, hI, hV, k, r, hg, Q, hQ => den_sound hT hS hm .ret bid hok F O a w δ hI hV k r hg Q hQ
  | .label _, _, _, hok, _, _, _, _, _, _, _, _, _, _, _, _ => by simp [okCodeR, okCode] at hok
  | .goto _, _, _, hok, _, _, _, _, _, _, _, _, _, _, _, _ => by simp [okCodeR, okCode] at hok
  | .scope _, _, _, hok, _, _, _, _, _, _, _, _, _, _, _, _ => by simp [okCodeR, okCode] at hok

theorem fn_callsR (hT : okT P c.T = true) (hS : ∀ f S, look c.S f = some S → Meets c.G P f S) (hm : P.follows .mixedOrders = true) {R : List (Nat × List Nat)} {f : FuncId} {fn : Func} (hf : P.funcs[f]? = some fn) {pm rm : List Kd} (hok : okFnR c R fn pm rm = true) (hres : c.res = fn.results.toList)
    {ds rs us : List D} (hd : denFR c R fn ds = some (.ret rs us)) {args : Array Value} {w : World} {F : Nat → Prop} {ow : Nat → Option Nat} (hgl : gOk c.G w F) (ha : ArgsOk w F ow 0 pm ds args.toList) (hF : ∀ b, F b → b < w.heap.size ∧ ow b = none) (hO : ∀ b i, ow b = some i → b < w.heap.size) :
    Calls P f args w fun e w' => ∃ v, e = .returned v ∧ ∃ F' R' vs, v = resV vs ∧ CallPost { pm := pm, rm := rm, f := denFR c R fn } args rs us w F ow F' R' vs w' := by
  unfold okFnR at hok
  simp only [Bool.and_eq_true, decide_eq_true_eq] at hok
  obtain ⟨⟨⟨⟨⟨hcode, hlenK⟩, hpre⟩, hpm⟩, hokr⟩, hios⟩ := hok
  rw [beq_iff, lenN_eq] at hlenK
  obtain ⟨hpl, hpn⟩ := prefK_nth hpre
  obtain ⟨hdl, hal, hargs⟩ := ArgsOk_at pm ds args.toList 0 ha
  have hasz : args.size = pm.length := by simpa using hal
  unfold denFR at hd
  cases hb : fn.body with
  | none => rw [hb] at hd; cases hd
  | some b =>
    rw [hb] at hd hcode
    simp only at hd hcode
    refine calls_of_wp hf hb ?_
    have hav : ∀ s, s < pm.length → av ({ tmps := args ++ Array.replicate (fn.ntmps - args.size) undef, defers := [] } : Act) s = args.toList.getD s undef := fun s hs => by
      have h1 : s < args.size := by omega
      simp only [av, Array.getD_eq_getD_getElem?, List.getD_eq_getElem?_getD, Array.getElem?_toList]
      rw [Array.getElem?_append_left h1]
    have hinit : Inv c w.heap.size (fun b => ow b ≠ none) w F F (fun b => (ow b).map fun i => (i, 0)) { tmps := args ++ Array.replicate (fn.ntmps - args.size) undef, defers := [] } w (padTo fn.ntmps ds) := by
      refine ⟨by simp; omega, by rw [padTo_len, hlenK], rfl, fun s => ?_, fun b hb => ⟨(hF b hb).1, by simp [(hF b hb).2]⟩, fun b p hp => ?_, fun _ h => h, fun _ h => .inl h, Nat.le_refl _, rfl, rfl, rfl, fun _ _ _ => rfl, hgl⟩
      · unfold SlotOk
        rw [padTo_nth _ _ _ (by rw [hdl]; omega)]
        by_cases hs : s < pm.length
        · rw [hpn s hs, hav s hs]
          rcases hargs s hs with hbad | harg
          · exact .inl hbad
          refine .inr ?_
          have hlv : ∀ lv, lv ≠ 1 → ∀ b, FB F 0 lv b → FB F w.heap.size lv b := fun lv h1 b hb => by
            match lv, h1 with
            | 0, _ => exact hb
            | _ + 2, _ => exact hb
          rcases okPm_at hpm s hs with ⟨lv, hk, h1⟩ | ⟨z, lv, hk, h1⟩ | ⟨n, lv, hk, h1⟩
          · rw [hk] at harg ⊢
            exact .inr (RepV_mono (hlv lv h1) (fun _ _ => rfl) harg)
          · rw [hk] at harg ⊢
            exact .inr (OwnV_mono' (hlv lv h1) (fun _ _ => rfl) (fun g _ hg => ⟨⟨by simp only [Nat.zero_add] at hg; simp [hg], fun h => by cases h⟩, rfl⟩) harg)
          · rw [hk] at harg ⊢
            exact .inr (BoxV_mono' (hlv lv h1) (fun _ _ => rfl) (fun g _ hg => ⟨⟨by simp only [Nat.zero_add] at hg; simp [hg], fun h => by cases h⟩, rfl⟩) harg)
        · refine .inl ?_
          rw [nth_eq, List.getD_eq_getElem?_getD, List.getElem?_eq_none (by omega)]
          rfl
      · obtain ⟨i, hi, rfl⟩ := Option.map_eq_some_iff.1 hp
        exact ⟨hO b i hi, .inr (by rw [hi]; simp)⟩
    refine denR_sound hT hS hm b 1 0 hcode F _ _ w _ hinit (V := av { tmps := args ++ Array.replicate (fn.ntmps - args.size) undef, defers := [] }) (fun _ _ => rfl) _ _ hd _ (fun e a' w' hp => ?_)
    have fin : NextV c w.heap.size (fun b => ow b ≠ none) w F (av { tmps := args ++ Array.replicate (fn.ntmps - args.size) undef, defers := [] }) (fun δ => retK c δ some) (.ret rs us) a' w' → a'.defers = [] ∧ ∃ v, (results fn a'.tmps).run P w' = .ok v w' ∧ ∃ v', Ending.returned v = .returned v' ∧ ∃ F' R' vs, v' = resV vs ∧ CallPost { pm := pm, rm := rm, f := denFR c R fn } args rs us w F ow F' R' vs w' := by
      rintro ⟨⟨F', O', δ', hI', hk⟩, hV'⟩
      obtain ⟨rs', h1, h2, h3⟩ := retK_is hk
      simp only [Option.some.injEq, Out.ret.injEq] at h3
      obtain ⟨rfl, rfl⟩ := h3
      obtain ⟨vs, g1, g2, g3, g4⟩ := res_run (P := P) hT hI' c.res rm rs' hokr h1
      refine ⟨hI'.df, resV vs, ?_, _, rfl, F', fun b => if w.heap.size ≤ b then (match O' b with
        | some (t, 0) => resIx c.res t 0
        | _ => none) else none, vs, rfl, ?_⟩
      · have hrun : (fn.results.mapM (getRes a'.tmps)).run P w' = .ok vs.toArray w' := by
          rw [Array.mapM_eq_mapM_toList, ← hres]
          simp [g1]
        have hrw : results fn a'.tmps = (do
            let vs ← fn.results.mapM (getRes a'.tmps)
            pure (if h : vs.size = 1 then vs[0] else .tuple vs)) := by
          unfold results
          congr 1
        rw [hrw]
        simp only [Sem.run_bind, hrun, Result.andThen_ok, Sem.run_pure]
        congr 1
        rcases vs with _ | ⟨y, _ | ⟨y', vs⟩⟩
        · simp [resV]
        · simp [resV]
        · simp [resV]
      · refine ⟨hI'.os, hI'.tape, hI'.output, hI'.bb, fun b hb ho => hI'.keep b hb (by simp [ho]), hI'.f0, fun b hb => ⟨hI'.fn b hb, (hI'.fl b hb).1, by simp only [(hI'.fl b hb).2]; split <;> rfl⟩, fun b j hj => ?_, g2, g3, fun j => ?_, ?_⟩
        · split at hj
          case isFalse => cases hj
          rename_i hB
          refine ⟨hB, ?_⟩
          split at hj
          · rename_i t he; exact (hI'.ol b _ he).1
          · cases hj
        · refine ResOk_mono (fun hk g hg => ?_) (g4 j)
          obtain ⟨z, lv, hk⟩ := hk
          obtain ⟨e1, t, e2, e3⟩ := hg
          rw [if_pos e1]
          simp only [e3]
          have := (resIx_own c.res rm hokr j t 0 z lv hk e2).1
          simpa using this
        · rw [hios]
          refine UsOk_of pm args.toList 0 hal (fun j hj hio => ?_)
          rw [Nat.zero_add]
          have hkj := hpn j hj
          have hbj : nth δ' j ≠ .bad := by
            refine h2 _ ?_
            rw [hios, getAll_map]
            exact List.mem_map_of_mem (by simpa using ioIdx_mem pm 0 j hj hio)
          have havj : av a' j = args.toList.getD j undef := (hV' j (by rw [hkj]; exact hio)).trans (hav j hj)
          have hlv : ∀ lv, lv ≠ 1 → ∀ b, FB F' w.heap.size lv b → FB F' 0 lv b := fun lv h1 b hb => by
            match lv, h1 with
            | 0, _ => exact hb
            | _ + 2, _ => exact hb
          refine ⟨hbj, .inr ?_⟩
          rcases okPm_at hpm j hj with ⟨lv, hk, h1⟩ | ⟨z, lv, hk, h1⟩ | ⟨n, lv, hk, h1⟩
          · rw [hk] at hio; cases hio
          · have h5 := hI'.own (hkj.trans hk) hbj
            rw [havj] at h5
            rw [hk]
            exact OwnV_mono' (hlv lv h1) (fun _ _ => rfl) (fun _ _ _ => ⟨trivial, rfl⟩) h5
          · have h5 := hI'.box (hkj.trans hk) hbj
            rw [havj] at h5
            rw [hk]
            exact BoxV_mono' (hlv lv h1) (fun _ _ => rfl) (fun _ _ _ => ⟨trivial, rfl⟩) h5
    cases e with
    | normal => exact fin hp
    | exit i =>
      obtain ⟨⟨_, _, _, _, h⟩, _⟩ := hp
      cases h
    | ret =>
      refine fin (NextV_mono hp fun δ F O _ h => ?_)
      obtain ⟨rs', h1, h2, h3⟩ := retK_is h
      exact retK_of h1 h2 h3
    | _ => exact hp.elim

theorem meets_ofR (hT : okT P c.T = true) (hS : ∀ f S, look c.S f = some S → Meets c.G P f S) (hm : P.follows .mixedOrders = true) {R : List (Nat × List Nat)} {f : FuncId} {fn : Func} (hf : P.funcs[f]? = some fn) (hname : (fn.name == "runtime.NumGoroutine") = false) {pm rm : List Kd} (hok : okFnR c R fn pm rm = true) (hres : c.res = fn.results.toList) :
    Meets c.G P f { pm := pm, rm := rm, f := denFR c R fn } := by
  intro ds rs us hd args w F ow hgl ha hF hO o a next Q hn
  have hbody : ∃ b, fn.body = some b := by
    have hd' : denFR c R fn ds = some (.ret rs us) := hd
    unfold denFR at hd'
    cases hb : fn.body with
    | none => rw [hb] at hd'; cases hd'
    | some b => exact ⟨b, rfl⟩
  obtain ⟨b, hb⟩ := hbody
  have hrun : (callFunc f args).run P w = .ok (.enter f args) w := by
    have h1 : ¬ fn.name = "runtime.NumGoroutine" := by simpa using hname
    simp [callFunc, hf, h1, hb]
  rw [hrun, Oper.upon_enter]
  refine Calls.mono (fn_callsR hT hS hm hf hok hres hd hgl ha hF hO) (fun e w' he => ?_)
  obtain ⟨v, rfl, F', R', vs, h1, h2⟩ := he
  exact hn v w' ⟨F', R', vs, h1, h2⟩


end
end Go.V
/-
  The evaluator with recasts of single regions: in them, slots that own a slice hold plain data (what is put into another slice, or handed back); after them these slots are void.
-/
namespace Go.V
open Go.RowKit
set_option linter.unusedSimpArgs false

@[reducible] noncomputable def denQ (c : Cx) (Z : List (Nat × List Nat)) : Nat → Code → List D → (Out → Option Out) → Option Out
  | _, .skip, δ, k => k (.nrm δ)
  | _, .region id ops _, δ, k => match look Z id with
    | some fz => viaC c.K δ (depsAll c.K fz) fun l => setManyC δ (depsAll c.K fz) l fun δ' => runOps (rcx c fz) ops.toList ops.toList δ' fun δ2 => setManyC δ2 fz [] fun δ3 => setManyC δ3 (depsAll c.K fz) [] fun δ4 => k (.nrm δ4)
    | none => runOps c ops.toList ops.toList δ fun δ' => k (.nrm δ')
  | bid, .seq a b, δ, k => denQ c Z bid a δ fun o => seqK o (fun δ' => denQ c Z bid b δ' k) k
  | bid, .cond x t e, δ, k => opC δ x fun q => ifD q (denQ c Z bid t δ k) (denQ c Z bid e δ k)
  | _, .block id b, δ, k => denQ c Z id b δ fun o => blkK id o k
  | bid, .loop b, δ, k => match look c.H bid with
    | none => none
    | some (hl, xl) =>
      getC δ hl fun s => (loopC (fun s => expandC (lenN c.K) hl s fun δ => denQ c Z bid b δ (shrinkK hl xl)) s).bind fun o =>
        outK o (fun i s => expandC (lenN c.K) xl s fun δ => k (.ext i δ)) (fun a b => k (.ret a b))
  | _, .exit id, δ, k => k (.ext id δ)
  | _, .ret, δ, k => resC c δ c.res fun rs => getC δ c.ios fun us => usK us (k (.ret rs us))
  | _, _, _, _ => none
@[reducible] noncomputable def denFQ (c : Cx) (Z : List (Nat × List Nat)) (fn : Func) (ds : List D) : Option Out :=
  match fn.body with
  | none => none
  | some b => denQ c Z 0 b (padTo fn.ntmps ds) fun o => match o with
    | .nrm δ => resC c δ c.res fun rs => getC δ c.ios fun us => usK us (some (.ret rs us))
    | .ext _ _ => none
    | .ret rs us => some (.ret rs us)
def okCodeQ (c : Cx) (Z : List (Nat × List Nat)) : Nat → Code → Bool
  | _, .skip => true
  | bid, .region id ops d => match look Z id with
    | some fz => okFz c fz && okCode (rcx c fz) bid (.region id ops d)
    | none => okCode c bid (.region id ops d)
  | b, .seq x y => okCodeQ c Z b x && okCodeQ c Z b y
  | b, .cond x t e => Nat.ble (lvOf c.K x) 2 && okCodeQ c Z b t && okCodeQ c Z b e
  | _, .block id x => okCodeQ c Z id x
  | b, .loop x => okCodeQ c Z b x && (match look c.H b with
    | some (hl, xl) => okLive c.K hl && okLive c.K xl
    | none => false)
  | _, .exit _ => true
  | _, .ret => true
  | _, _ => false
def okFnQ (c : Cx) (Z : List (Nat × List Nat)) (fn : Func) (pm rm : List Kd) : Bool :=
  (match fn.body with
    | some b => okCodeQ c Z 0 b
    | none => false) && Nat.beq (lenN c.K) fn.ntmps && prefK pm c.K && okPm pm && okRes c c.res rm && decide (c.ios = ioIdx 0 pm)

section
variable {P : Program} {c : Cx} {B : Nat} {X : Nat → Prop} {w0 : World} {F0 F : Nat → Prop} {O : Nat → Option (Nat × Nat)} {a : Act} {w : World} {δ : List D} {fz : List Nat}

theorem setMany_two : ∀ (ss ts : List Nat) (δ : List D), setMany (setMany δ ss []) ts [] = setMany δ (ss ++ ts) []
  | [], _, _ => rfl
  | i :: ss, ts, δ => by
    simp only [List.cons_append, setMany]
    exact setMany_two ss ts _
def unK (c : Cx) (fz : List Nat) (k : Out → Option Out) (o : Out) : Option Out :=
  match o with
  | .nrm δ => k (.nrm (setMany δ (chgS c fz) []))
  | _ => none
theorem loop_roundsQ {V : Nat → Value} {b : Code} {bid : Nat} {Z : List (Nat × List Nat)} {hl xl : List Nat} (h1 : okLive c.K hl = true) (h2 : okLive c.K xl = true)
    (ih : ∀ (F : Nat → Prop) (O : Nat → Option (Nat × Nat)) (a : Act) (w : World) (δ : List D), Inv c B X w0 F0 F O a w δ → IoV c V a → ∀ (k : Out → Option Out) (r : Out), denQ c Z bid b δ k = some r → ∀ Q, (∀ e a w, Post c B X w0 F0 V k r e a w → Q e a w) → b.wp P Q a w)
    {k : Out → Option Out} {r : Out} {Q : Exit → Act → World → Prop} (hQ : ∀ e a w, Post c B X w0 F0 V k r e a w → Q e a w) {o : Out}
    (ho : outK o (fun i s => expandC (lenN c.K) xl s fun δ => k (.ext i δ)) (fun x y => k (.ret x y)) = some r) : ∀ (n : Nat) (F : Nat → Prop) (O : Nat → Option (Nat × Nat)) (a : Act) (w : World) (δ : List D), Inv c B X w0 F0 F O a w δ → IoV c V a →
    iter (fun s => expandC (lenN c.K) hl s fun δ => denQ c Z bid b δ (shrinkK hl xl)) n (getAll δ hl) = some o → Code.rounds P b Q n a w
  | 0, _, _, _, _, _, _, _, h => by cases h
  | n + 1, F, O, a, w, δ, hI, hV, h => by
    simp only [iter, expandC_eq] at h
    rw [rounds_succ]
    have hI' := hI.carry h1
    cases hb : denQ c Z bid b (carry (lenN c.K) hl δ) (shrinkK hl xl) with
    | none => rw [hb] at h; cases h
    | some ob =>
      rw [hb] at h
      refine ih F O a w _ hI' hV _ ob hb _ (fun e a' w' hp => ?_)
      cases ob with
      | nrm s' =>
        simp only at h
        cases e with
        | normal =>
          obtain ⟨⟨F', O', δ', g1, g2⟩, g3⟩ := hp
          simp only [shrinkK, getC_eq, Option.some.injEq, Out.nrm.injEq] at g2
          rw [← g2] at h
          exact loop_roundsQ h1 h2 ih hQ ho n F' O' a' w' δ' g1 g3 h
        | exit i =>
          obtain ⟨⟨F', O', δ', g1, g2⟩, g3⟩ := hp
          simp [shrinkK, getC_eq] at g2
        | ret =>
          obtain ⟨⟨F', O', δ', g1, g2⟩, g3⟩ := hp
          obtain ⟨rs, _, _, g4⟩ := retK_is g2
          simp [shrinkK] at g4
        | _ => exact hp.elim
      | ext i l =>
        simp only [Option.some.injEq] at h
        subst h
        cases e with
        | normal =>
          obtain ⟨⟨F', O', δ', g1, g2⟩, g3⟩ := hp
          simp [shrinkK, getC_eq] at g2
        | exit j =>
          obtain ⟨⟨F', O', δ', g1, g2⟩, g3⟩ := hp
          simp only [shrinkK, getC_eq, Option.some.injEq, Out.ext.injEq] at g2
          obtain ⟨rfl, rfl⟩ := g2
          simp only [outK, expandC_eq] at ho
          exact hQ (.exit j) _ _ ⟨⟨F', O', _, g1.carry h2, ho⟩, g3⟩
        | ret =>
          obtain ⟨⟨F', O', δ', g1, g2⟩, g3⟩ := hp
          obtain ⟨rs, _, _, g4⟩ := retK_is g2
          simp [shrinkK] at g4
        | _ => exact hp.elim
      | ret x y =>
        simp only [Option.some.injEq] at h
        subst h
        cases e with
        | normal =>
          obtain ⟨⟨F', O', δ', g1, g2⟩, g3⟩ := hp
          simp [shrinkK, getC_eq] at g2
        | exit j =>
          obtain ⟨⟨F', O', δ', g1, g2⟩, g3⟩ := hp
          simp [shrinkK, getC_eq] at g2
        | ret =>
          obtain ⟨⟨F', O', δ', g1, g2⟩, g3⟩ := hp
          obtain ⟨rs, g5, g6, g4⟩ := retK_is g2
          simp only [shrinkK, Option.some.injEq, Out.ret.injEq] at g4
          obtain ⟨rfl, rfl⟩ := g4
          exact hQ .ret _ _ ⟨⟨F', O', δ', g1, retK_of g5 g6 ho⟩, g3⟩
        | _ => exact hp.elim

theorem denQ_sound (hT : okT P c.T = true) (hS : ∀ f S, look c.S f = some S → Meets c.G P f S) (hm : P.follows .mixedOrders = true) {V : Nat → Value} {Z : List (Nat × List Nat)} : ∀ (b : Code) (bid : Nat), okCodeQ c Z bid b = true → ∀ (F : Nat → Prop) (O : Nat → Option (Nat × Nat)) (a : Act) (w : World) (δ : List D),
    Inv c B X w0 F0 F O a w δ → IoV c V a → ∀ (k : Out → Option Out) (r : Out), denQ c Z bid b δ k = some r → ∀ Q, (∀ e a w, Post c B X w0 F0 V k r e a w → Q e a w) → b.wp P Q a w
  | .skip, bid, _, F, O, a, w, δ, hI, hV, k, r, hg, Q, hQ => wp_skip (hQ _ _ _ ⟨⟨F, O, δ, hI, hg⟩, hV⟩)
  | .region id ops d, bid, hok, F, O, a, w, δ, hI, hV, k, r, hg, Q, hQ => by
    simp only [okCodeQ] at hok
    simp only [denQ] at hg
    cases hH : look Z id with
    | none =>
      rw [hH] at hok hg
      exact den_sound hT hS hm (.region id ops d) bid hok F O a w δ hI hV k r hg Q hQ
    | some fz =>
      rw [hH] at hok hg
      simp only [Bool.and_eq_true] at hok
      simp only [viaC_eq, setManyC_eq, setMany_two] at hg
      obtain ⟨F2, O2, hI2⟩ := hI.recast hok.1
      refine den_sound (c := rcx c fz) hT hS hm (.region id ops d) bid hok.2 F2 O2 a w _ hI2 (fun s hs => hV s (by rw [← frz_io (fz := fz)]; exact hs)) (unK c fz k) r hg Q (fun e a w hp => ?_)
      cases e with
      | normal =>
        obtain ⟨⟨F', O', δ', hI', hk'⟩, hV'⟩ := hp
        exact hQ .normal _ _ ⟨⟨F', O', _, hI'.uncast, hk'⟩, fun s hs => hV' s (by rw [frz_io]; exact hs)⟩
      | exit i => obtain ⟨⟨_, _, _, _, h⟩, _⟩ := hp; cases h
      | ret =>
        obtain ⟨⟨_, _, _, _, h⟩, _⟩ := hp
        obtain ⟨rs, h1, h2, h3⟩ := retK_is h
        cases h3
      | _ => exact hp.elim
  | .seq x y, bid, hok, F, O, a, w, δ, hI, hV, k, r, hg, Q, hQ => by
    simp only [okCodeQ, Bool.and_eq_true] at hok
    refine wp_seq (denQ_sound hT hS hm x bid hok.1 F O a w δ hI hV _ r hg _ (fun e a' w' hp => ?_))
    cases e with
    | normal =>
      obtain ⟨⟨F', O', δ', hI', hk'⟩, hV'⟩ := hp
      exact denQ_sound hT hS hm y bid hok.2 F' O' a' w' δ' hI' hV' k r hk' Q hQ
    | exit id => exact hQ _ _ _ hp
    | ret => exact hQ _ _ _ hp
    | _ => exact hp.elim
  | .cond x t e, bid, hok, F, O, a, w, δ, hI, hV, k, r, hg, Q, hQ => by
    simp only [okCodeQ, Bool.and_eq_true] at hok
    obtain ⟨⟨hlv, hok1⟩, hok2⟩ := hok
    have hop := hI.opd (ble_iff.1 hlv)
    have key : ifD (opD δ x) (denQ c Z bid t δ k) (denQ c Z bid e δ k) = some r := by
      simp only [denQ] at hg
      cases x with
      | tmp s => simpa only [opC, nthC_eq, opD] using hg
      | const v => simpa only [opC, opD] using hg
      | func f => simpa only [opC, opD] using hg
      | global g => simp [opC] at hg
    unfold ifD at key
    split at key
    · rename_i hd
      rw [hd] at hop
      exact wp_cond_true (RepB_v hop).1 (denQ_sound hT hS hm t bid hok1 F O a w δ hI hV k r key Q hQ)
    · rename_i hd
      rw [hd] at hop
      exact wp_cond_false (RepB_v hop).1 (denQ_sound hT hS hm e bid hok2 F O a w δ hI hV k r key Q hQ)
    · cases key
  | .block id b, bid, hok, F, O, a, w, δ, hI, hV, k, r, hg, Q, hQ => by
    simp only [okCodeQ] at hok
    refine wp_block (denQ_sound hT hS hm b id hok F O a w δ hI hV _ r hg _ (fun e a' w' hp => ?_))
    cases e with
    | normal => exact hQ .normal _ _ hp
    | exit i =>
      simp only [Exit.inBlock]
      have hp' : NextV c B X w0 F0 V (fun δ => blkK id (.ext i δ) k) r a' w' := hp
      split
      · rename_i hi
        refine hQ .normal _ _ (NextV_mono hp' fun δ F O _ h => ?_)
        simp only [blkK] at h
        rw [beq_iff.2 (by simpa using hi)] at h
        exact h
      · rename_i hi
        refine hQ (.exit i) _ _ (NextV_mono hp' fun δ F O _ h => ?_)
        simp only [blkK] at h
        cases hb : Nat.beq i id
        · rw [hb] at h; exact h
        · exact absurd (by simpa using beq_iff.1 hb) hi
    | ret => exact hQ .ret _ _ hp
    | _ => exact hp.elim
  | .loop b, bid, hok, F, O, a, w, δ, hI, hV, k, r, hg, Q, hQ => by
    simp only [okCodeQ, Bool.and_eq_true] at hok
    obtain ⟨hok1, hok2⟩ := hok
    simp only [denQ] at hg
    cases hH : look c.H bid with
    | none => rw [hH] at hg; cases hg
    | some hx =>
      obtain ⟨hl, xl⟩ := hx
      rw [hH] at hg hok2
      simp only [Bool.and_eq_true] at hok2
      simp only [getC_eq] at hg
      obtain ⟨o', h1, h2⟩ := Option.bind_eq_some_iff.1 hg
      unfold loopC at h1
      split at h1
      case isFalse => cases h1
      rename_i hex
      refine wp_loop_rounds (Classical.choose hex) ?_
      refine loop_roundsQ (hl := hl) (xl := xl) hok2.1 hok2.2 (fun F O a w δ hI hV k r hg Q hQ => denQ_sound hT hS hm b bid hok1 F O a w δ hI hV k r hg Q hQ) hQ h2 _ F O a w δ hI hV h1
  | .exit id, bid, _, F, O, a, w, δ, hI, hV, k, r, hg, Q, hQ => wp_exit (hQ _ _ _ ⟨⟨F, O, δ, hI, hg⟩, hV⟩)
  | .ret, bid, _, F, O, a, w, δ, hI, hV, k, r, hg, Q, hQ => wp_ret (hQ _ _ _ ⟨⟨F, O, δ, hI, hg⟩, hV⟩)
  | .label _, _, hok, _, _, _, _, _, _, _, _, _, _, _, _ => by simp [okCodeQ] at hok
  | .goto _, _, hok, _, _, _, _, _, _, _, _, _, _, _, _ => by simp [okCodeQ] at hok
  | .scope _, _, hok, _, _, _, _, _, _, _, _, _, _, _, _ => by simp [okCodeQ] at hok

theorem fn_callsQ (hT : okT P c.T = true) (hS : ∀ f S, look c.S f = some S → Meets c.G P f S) (hm : P.follows .mixedOrders = true) {Z : List (Nat × List Nat)} {f : FuncId} {fn : Func} (hf : P.funcs[f]? = some fn) {pm rm : List Kd} (hok : okFnQ c Z fn pm rm = true) (hres : c.res = fn.results.toList)
    {ds rs us : List D} (hd : denFQ c Z fn ds = some (.ret rs us)) {args : Array Value} {w : World} {F : Nat → Prop} {ow : Nat → Option Nat} (hgl : gOk c.G w F) (ha : ArgsOk w F ow 0 pm ds args.toList) (hF : ∀ b, F b → b < w.heap.size ∧ ow b = none) (hO : ∀ b i, ow b = some i → b < w.heap.size) :
    Calls P f args w fun e w' => ∃ v, e = .returned v ∧ ∃ F' R' vs, v = resV vs ∧ CallPost { pm := pm, rm := rm, f := denFQ c Z fn } args rs us w F ow F' R' vs w' := by
  unfold okFnQ at hok
  simp only [Bool.and_eq_true, decide_eq_true_eq] at hok
  obtain ⟨⟨⟨⟨⟨hcode, hlenK⟩, hpre⟩, hpm⟩, hokr⟩, hios⟩ := hok
  rw [beq_iff, lenN_eq] at hlenK
  obtain ⟨hpl, hpn⟩ := prefK_nth hpre
  obtain ⟨hdl, hal, hargs⟩ := ArgsOk_at pm ds args.toList 0 ha
  have hasz : args.size = pm.length := by simpa using hal
  unfold denFQ at hd
  cases hb : fn.body with
  | none => rw [hb] at hd; cases hd
  | some b =>
    rw [hb] at hd hcode
    simp only at hd hcode
    refine calls_of_wp hf hb ?_
    have hav : ∀ s, s < pm.length → av ({ tmps := args ++ Array.replicate (fn.ntmps - args.size) undef, defers := [] } : Act) s = args.toList.getD s undef := fun s hs => by
      have h1 : s < args.size := by omega
      simp only [av, Array.getD_eq_getD_getElem?, List.getD_eq_getElem?_getD, Array.getElem?_toList]
      rw [Array.getElem?_append_left h1]
    have hinit : Inv c w.heap.size (fun b => ow b ≠ none) w F F (fun b => (ow b).map fun i => (i, 0)) { tmps := args ++ Array.replicate (fn.ntmps - args.size) undef, defers := [] } w (padTo fn.ntmps ds) := by
      refine ⟨by simp; omega, by rw [padTo_len, hlenK], rfl, fun s => ?_, fun b hb => ⟨(hF b hb).1, by simp [(hF b hb).2]⟩, fun b p hp => ?_, fun _ h => h, fun _ h => .inl h, Nat.le_refl _, rfl, rfl, rfl, fun _ _ _ => rfl, hgl⟩
      · unfold SlotOk
        rw [padTo_nth _ _ _ (by rw [hdl]; omega)]
        by_cases hs : s < pm.length
        · rw [hpn s hs, hav s hs]
          rcases hargs s hs with hbad | harg
          · exact .inl hbad
          refine .inr ?_
          have hlv : ∀ lv, lv ≠ 1 → ∀ b, FB F 0 lv b → FB F w.heap.size lv b := fun lv h1 b hb => by
            match lv, h1 with
            | 0, _ => exact hb
            | _ + 2, _ => exact hb
          rcases okPm_at hpm s hs with ⟨lv, hk, h1⟩ | ⟨z, lv, hk, h1⟩ | ⟨n, lv, hk, h1⟩
          · rw [hk] at harg ⊢
            exact .inr (RepV_mono (hlv lv h1) (fun _ _ => rfl) harg)
          · rw [hk] at harg ⊢
            exact .inr (OwnV_mono' (hlv lv h1) (fun _ _ => rfl) (fun g _ hg => ⟨⟨by simp only [Nat.zero_add] at hg; simp [hg], fun h => by cases h⟩, rfl⟩) harg)
          · rw [hk] at harg ⊢
            exact .inr (BoxV_mono' (hlv lv h1) (fun _ _ => rfl) (fun g _ hg => ⟨⟨by simp only [Nat.zero_add] at hg; simp [hg], fun h => by cases h⟩, rfl⟩) harg)
        · refine .inl ?_
          rw [nth_eq, List.getD_eq_getElem?_getD, List.getElem?_eq_none (by omega)]
          rfl
      · obtain ⟨i, hi, rfl⟩ := Option.map_eq_some_iff.1 hp
        exact ⟨hO b i hi, .inr (by rw [hi]; simp)⟩
    refine denQ_sound hT hS hm b 0 hcode F _ _ w _ hinit (V := av { tmps := args ++ Array.replicate (fn.ntmps - args.size) undef, defers := [] }) (fun _ _ => rfl) _ _ hd _ (fun e a' w' hp => ?_)
    have fin : NextV c w.heap.size (fun b => ow b ≠ none) w F (av { tmps := args ++ Array.replicate (fn.ntmps - args.size) undef, defers := [] }) (fun δ => retK c δ some) (.ret rs us) a' w' → a'.defers = [] ∧ ∃ v, (results fn a'.tmps).run P w' = .ok v w' ∧ ∃ v', Ending.returned v = .returned v' ∧ ∃ F' R' vs, v' = resV vs ∧ CallPost { pm := pm, rm := rm, f := denFQ c Z fn } args rs us w F ow F' R' vs w' := by
      rintro ⟨⟨F', O', δ', hI', hk⟩, hV'⟩
      obtain ⟨rs', h1, h2, h3⟩ := retK_is hk
      simp only [Option.some.injEq, Out.ret.injEq] at h3
      obtain ⟨rfl, rfl⟩ := h3
      obtain ⟨vs, g1, g2, g3, g4⟩ := res_run (P := P) hT hI' c.res rm rs' hokr h1
      refine ⟨hI'.df, resV vs, ?_, _, rfl, F', fun b => if w.heap.size ≤ b then (match O' b with
        | some (t, 0) => resIx c.res t 0
        | _ => none) else none, vs, rfl, ?_⟩
      · have hrun : (fn.results.mapM (getRes a'.tmps)).run P w' = .ok vs.toArray w' := by
          rw [Array.mapM_eq_mapM_toList, ← hres]
          simp [g1]
        have hrw : results fn a'.tmps = (do
            let vs ← fn.results.mapM (getRes a'.tmps)
            pure (if h : vs.size = 1 then vs[0] else .tuple vs)) := by
          unfold results
          congr 1
        rw [hrw]
        simp only [Sem.run_bind, hrun, Result.andThen_ok, Sem.run_pure]
        congr 1
        rcases vs with _ | ⟨y, _ | ⟨y', vs⟩⟩
        · simp [resV]
        · simp [resV]
        · simp [resV]
      · refine ⟨hI'.os, hI'.tape, hI'.output, hI'.bb, fun b hb ho => hI'.keep b hb (by simp [ho]), hI'.f0, fun b hb => ⟨hI'.fn b hb, (hI'.fl b hb).1, by simp only [(hI'.fl b hb).2]; split <;> rfl⟩, fun b j hj => ?_, g2, g3, fun j => ?_, ?_⟩
        · split at hj
          case isFalse => cases hj
          rename_i hB
          refine ⟨hB, ?_⟩
          split at hj
          · rename_i t he; exact (hI'.ol b _ he).1
          · cases hj
        · refine ResOk_mono (fun hk g hg => ?_) (g4 j)
          obtain ⟨z, lv, hk⟩ := hk
          obtain ⟨e1, t, e2, e3⟩ := hg
          rw [if_pos e1]
          simp only [e3]
          have := (resIx_own c.res rm hokr j t 0 z lv hk e2).1
          simpa using this
        · rw [hios]
          refine UsOk_of pm args.toList 0 hal (fun j hj hio => ?_)
          rw [Nat.zero_add]
          have hkj := hpn j hj
          have hbj : nth δ' j ≠ .bad := by
            refine h2 _ ?_
            rw [hios, getAll_map]
            exact List.mem_map_of_mem (by simpa using ioIdx_mem pm 0 j hj hio)
          have havj : av a' j = args.toList.getD j undef := (hV' j (by rw [hkj]; exact hio)).trans (hav j hj)
          have hlv : ∀ lv, lv ≠ 1 → ∀ b, FB F' w.heap.size lv b → FB F' 0 lv b := fun lv h1 b hb => by
            match lv, h1 with
            | 0, _ => exact hb
            | _ + 2, _ => exact hb
          refine ⟨hbj, .inr ?_⟩
          rcases okPm_at hpm j hj with ⟨lv, hk, h1⟩ | ⟨z, lv, hk, h1⟩ | ⟨n, lv, hk, h1⟩
          · rw [hk] at hio; cases hio
          · have h5 := hI'.own (hkj.trans hk) hbj
            rw [havj] at h5
            rw [hk]
            exact OwnV_mono' (hlv lv h1) (fun _ _ => rfl) (fun _ _ _ => ⟨trivial, rfl⟩) h5
          · have h5 := hI'.box (hkj.trans hk) hbj
            rw [havj] at h5
            rw [hk]
            exact BoxV_mono' (hlv lv h1) (fun _ _ => rfl) (fun _ _ _ => ⟨trivial, rfl⟩) h5
    cases e with
    | normal => exact fin hp
    | exit i =>
      obtain ⟨⟨_, _, _, _, h⟩, _⟩ := hp
      cases h
    | ret =>
      refine fin (NextV_mono hp fun δ F O _ h => ?_)
      obtain ⟨rs', h1, h2, h3⟩ := retK_is h
      exact retK_of h1 h2 h3
    | _ => exact hp.elim

theorem meets_ofQ (hT : okT P c.T = true) (hS : ∀ f S, look c.S f = some S → Meets c.G P f S) (hm : P.follows .mixedOrders = true) {Z : List (Nat × List Nat)} {f : FuncId} {fn : Func} (hf : P.funcs[f]? = some fn) (hname : (fn.name == "runtime.NumGoroutine") = false) {pm rm : List Kd} (hok : okFnQ c Z fn pm rm = true) (hres : c.res = fn.results.toList) :
    Meets c.G P f { pm := pm, rm := rm, f := denFQ c Z fn } := by
  intro ds rs us hd args w F ow hgl ha hF hO o a next Q hn
  have hbody : ∃ b, fn.body = some b := by
    have hd' : denFQ c Z fn ds = some (.ret rs us) := hd
    unfold denFQ at hd'
    cases hb : fn.body with
    | none => rw [hb] at hd'; cases hd'
    | some b => exact ⟨b, rfl⟩
  obtain ⟨b, hb⟩ := hbody
  have hrun : (callFunc f args).run P w = .ok (.enter f args) w := by
    have h1 : ¬ fn.name = "runtime.NumGoroutine" := by simpa using hname
    simp [callFunc, hf, h1, hb]
  rw [hrun, Oper.upon_enter]
  refine Calls.mono (fn_callsQ hT hS hm hf hok hres hd hgl ha hF hO) (fun e w' he => ?_)
  obtain ⟨v, rfl, F', R', vs, h1, h2⟩ := he
  exact hn v w' ⟨F', R', vs, h1, h2⟩


end
end Go.V
/-
  The evaluator with recasts of single regions, as VQ; where the list of slots begins with 1000000, the region's last operation is carried out behind it, with the slots' own kinds.
-/
namespace Go.V
open Go.RowKit
set_option linter.unusedSimpArgs false

@[reducible] def initL : List Oper → List Oper
  | [] => []
  | [_] => []
  | a :: b :: l => a :: initL (b :: l)
@[reducible] def lastL : List Oper → List Oper
  | [] => []
  | [a] => [a]
  | _ :: b :: l => lastL (b :: l)
theorem init_last : ∀ (l : List Oper), l ≠ [] → ∃ o, lastL l = [o] ∧ l = initL l ++ [o]
  | [], h => absurd rfl h
  | [a], _ => ⟨a, rfl, rfl⟩
  | a :: b :: l, _ => by
    obtain ⟨o, h1, h2⟩ := init_last (b :: l) (by simp)
    exact ⟨o, h1, by simp only [initL, List.cons_append]; rw [← h2]⟩
/-- The last operation comes behind all others, whatever the order; no guard leads to what is not there. -/
def splitOk (ops : List Oper) : Bool :=
  match lastL ops with
  | [o] => (match o.guard with
    | none => true
    | some _ => false) && ((List.range (initL ops).length).all fun i => o.after.toList.any fun e => e.on == i && Region.binds .any e) && (o.after.toList.all fun e => decide (e.on < (initL ops).length)) &&
    (initL ops).zipIdx.all fun p => (p.1.after.toList.all fun e => !Region.binds .any e || decide (e.on < p.2)) && (match p.1.guard with
      | none => true
      | some (j, _) => decide (j < (initL ops).length))
  | _ => false

theorem wp_weak {P : Program} {o : Oper} {a : Act} {w : World} {K K' : Act → World → Prop} {Q Q' : Exit → Act → World → Prop} (hK : ∀ a w, K a w → K' a w) (hQ : ∀ e a w, e ≠ .normal → Q e a w → Q' e a w) (h : o.wp P a w K Q) : o.wp P a w K' Q' := by
  unfold Oper.wp at *
  generalize (execOp a.eval o).run P w = r at *
  cases r with
  | ok n w' =>
    cases n <;> simp only [Oper.upon] at h ⊢ <;> first
      | exact hK _ _ h
      | exact Calls.mono h (fun e w'' he => by
          cases e <;> first
            | exact hK _ _ he
            | exact hQ _ _ _ (by simp) he
            | (obtain ⟨x, y, hx⟩ := he; exact ⟨x, y, hQ _ _ _ (by simp) hx⟩))
      | exact Rows.mono h (fun _ _ he => hK _ _ he)
  | halt x w' => cases x <;> simp only [Oper.upon] at h ⊢ <;> first
      | exact hQ _ _ _ (by simp) h
      | exact h

theorem yield_push {init : Array Oper} {o : Oper} {t : Array Value} {j : Nat} (h : j < init.size) : yielded (init.push o) t j = yielded init t j := by
  unfold yielded
  rw [Array.getElem?_push_lt h, Array.getElem?_eq_getElem h]
theorem getD_push {l : Array Bool} {i : Nat} {d : Bool} (h : i < l.size) : (l.push false).getD i d = l.getD i d := by
  simp [Array.getD_eq_getD_getElem?, Array.getElem?_push_lt h, h]
theorem set_push {l : Array Bool} {i : Nat} (h : i < l.size) : (l.push false).setIfInBounds i true = (l.setIfInBounds i true).push false := by
  apply Array.ext_getElem?
  intro j
  simp only [Array.getElem?_setIfInBounds, Array.getElem?_push, Array.size_push, Array.size_setIfInBounds]
  by_cases hj : i = j
  · subst hj
    simp [h, Nat.lt_succ_of_lt h, Nat.ne_of_lt h]
  · simp [hj]

section
variable {P : Program} {init : Array Oper} {o : Oper} {Q : Exit → Act → World → Prop} {Wl : Act → World → Prop}
theorem all_listed (hac : ∀ (i : Nat) (q : Oper), init[i]? = some q → ∀ e ∈ q.after, Region.binds .any e = true → e.on < i) {listed : Array Bool} (hsz : listed.size = init.size) (hr : Region.ready .any init listed = []) : ∀ i, i < init.size → listed.getD i false = true := by
  intro i
  induction i using Nat.strongRecOn with
  | _ i ih =>
    intro hi
    have hb : i < listed.size := by omega
    cases hl : listed.getD i false with
    | true => rfl
    | false =>
      exfalso
      have hl' : listed.getD i true = false := by
        rw [Array.getD_eq_getD_getElem?, Array.getElem?_eq_getElem hb] at hl ⊢
        exact hl
      have ho : init[i]? = some init[i] := Array.getElem?_eq_getElem hi
      have hmem : i ∈ Region.ready .any init listed := by
        unfold Region.ready
        rw [List.mem_filter]
        refine ⟨List.mem_range.2 hi, ?_⟩
        rw [hl', ho]
        simp only [Bool.not_false, Bool.true_and, Option.map_some, Option.getD_some, Array.all_eq_true_iff_forall_mem, Bool.or_eq_true]
        intro e he
        cases hb : Region.binds .any e
        · exact .inl rfl
        right
        have h1 := hac i _ ho e he hb
        exact ih e.on h1 (by omega)
      rw [hr] at hmem
      cases hmem
theorem ready_full (hg : ∀ e ∈ o.after, e.on < init.size) {listed : Array Bool} (hsz : listed.size = init.size) (hall : ∀ i, i < init.size → listed.getD i false = true) : ∀ i, i ∈ Region.ready .any (init.push o) (listed.push false) ↔ i = init.size := by
  intro i
  unfold Region.ready
  rw [List.mem_filter, List.mem_range, Array.size_push]
  constructor
  · rintro ⟨h1, h2⟩
    by_cases hi : i < init.size
    · exfalso
      rw [getD_push (by omega)] at h2
      have h3 := hall i hi
      rw [Array.getD_eq_getD_getElem?, Array.getElem?_eq_getElem (by omega)] at h2 h3
      simp only [Option.getD_some] at h2 h3
      rw [h3] at h2
      simp at h2
    · omega
  · rintro rfl
    refine ⟨by omega, ?_⟩
    have e1 : (listed.push false).getD init.size true = false := by
      rw [← hsz, Array.getD_eq_getD_getElem?]
      simp
    rw [e1, Array.getElem?_push_size]
    simp only [Bool.not_false, Bool.true_and, Option.map_some, Option.getD_some, Array.all_eq_true_iff_forall_mem, Bool.or_eq_true]
    intro e he
    right
    rw [getD_push (by have := hg e he; omega)]
    exact hall _ (hg e he)
theorem wpAny_push (hl : ∀ i, i < init.size → ∃ e ∈ o.after, e.on = i ∧ Region.binds .any e = true) (hg : ∀ e ∈ o.after, e.on < init.size) (hac : ∀ (i : Nat) (q : Oper), init[i]? = some q → ∀ e ∈ q.after, Region.binds .any e = true → e.on < i)
    (hgd : ∀ (i : Nat) (q : Oper), init[i]? = some q → ∀ j p, q.guard = some (j, p) → j < init.size) (hng : o.guard = none) (hW : ∀ a w, Wl a w → o.wp P a w (fun a w => Q .normal a w) Q) :
    ∀ (fuel : Nat) (listed : Array Bool) (a : Act) (w : World), listed.size = init.size → wpAny P .any init (fun e a w => e = .normal ∧ Wl a w) fuel listed a w → wpAny P .any (init.push o) Q (fuel + 1) (listed.push false) a w := by
  have full : ∀ (fuel : Nat) (listed : Array Bool) (a : Act) (w : World), listed.size = init.size → (∀ i, i < init.size → listed.getD i false = true) → Wl a w → wpAny P .any (init.push o) Q (fuel + 1) (listed.push false) a w := by
    intro fuel listed a w hsz hall hw
    have hr := ready_full (o := o) hg hsz hall
    refine ⟨fun h => ?_, fun i hi => ?_⟩
    · have := (hr init.size).2 rfl
      rw [h] at this
      cases this
    · have e := (hr i).1 hi
      subst e
      have hdone : ∀ a w, Q .normal a w → wpAny P .any (init.push o) Q fuel ((listed.push false).setIfInBounds init.size true) a w := by
        intro a w hq
        have hn : Region.ready .any (init.push o) ((listed.push false).setIfInBounds init.size true) = [] := by
          unfold Region.ready
          rw [List.filter_eq_nil_iff]
          intro i hi
          rw [List.mem_range, Array.size_push] at hi
          have : ((listed.push false).setIfInBounds init.size true).getD i true = true := by
            rw [Array.getD_eq_getD_getElem?, Array.getElem?_setIfInBounds]
            by_cases hi2 : init.size = i
            · subst hi2
              simp [hsz]
            · rw [if_neg hi2, Array.getElem?_push_lt (by omega), Option.getD_some]
              have h3 := hall i (by omega)
              rw [Array.getD_eq_getD_getElem?, Array.getElem?_eq_getElem (by omega)] at h3
              simpa using h3
          rw [this]
          simp
        cases fuel with
        | zero => exact ⟨hn, hq⟩
        | succ n => exact ⟨fun _ => hq, fun i hi => by rw [hn] at hi; cases hi⟩
      unfold wpOp
      rw [Array.getElem?_push_size]
      have hw1 : Region.wanted o (yielded (init.push o) a.tmps) = true := by
        unfold Region.wanted
        rw [hng]
      simp only [hw1, if_true]
      exact .inl (wp_weak hdone (fun _ _ _ _ h => h) (hW a w hw))
  intro fuel
  induction fuel with
  | zero =>
    intro listed a w hsz h
    exact full 0 listed a w hsz (all_listed hac hsz h.1) h.2.2
  | succ fuel ih =>
    intro listed a w hsz h
    by_cases hr : Region.ready .any init listed = []
    · exact full _ listed a w hsz (all_listed hac hsz hr) (h.1 hr).2
    · have hex : ∃ m, m < init.size ∧ listed.getD m false = false := by
        cases hc : Region.ready .any init listed with
        | nil => exact absurd hc hr
        | cons m l =>
          have hm : m ∈ Region.ready .any init listed := by rw [hc]; simp
          unfold Region.ready at hm
          rw [List.mem_filter, List.mem_range] at hm
          obtain ⟨h1, h2⟩ := hm
          simp only [Bool.and_eq_true, Bool.not_eq_true'] at h2
          refine ⟨m, h1, ?_⟩
          have h3 := h2.1
          rw [Array.getD_eq_getD_getElem?, Array.getElem?_eq_getElem (by omega)] at h3 ⊢
          exact h3
      obtain ⟨m, hm1, hm2⟩ := hex
      have hsub : ∀ i, i ∈ Region.ready .any (init.push o) (listed.push false) → i < init.size ∧ i ∈ Region.ready .any init listed := by
        intro i hi
        unfold Region.ready at hi
        rw [List.mem_filter, List.mem_range, Array.size_push] at hi
        obtain ⟨h1, h2⟩ := hi
        by_cases hi2 : i < init.size
        · refine ⟨hi2, ?_⟩
          unfold Region.ready
          rw [List.mem_filter, List.mem_range]
          refine ⟨hi2, ?_⟩
          rw [getD_push (by omega), Array.getElem?_push_lt hi2, Option.map_some, Option.getD_some] at h2
          rw [Array.getElem?_eq_getElem hi2, Option.map_some, Option.getD_some]
          simp only [Bool.and_eq_true, Array.all_eq_true_iff_forall_mem, Bool.or_eq_true] at h2 ⊢
          refine ⟨h2.1, fun e he => ?_⟩
          rcases h2.2 e he with h3 | h3
          · exact .inl h3
          · right
            cases hb : Region.binds .any e
            · by_cases he2 : e.on < listed.size
              · rw [getD_push he2] at h3
                exact h3
              · exfalso
                rw [Array.getD_eq_getD_getElem?] at h3
                rw [Array.getElem?_push] at h3
                split at h3
                · simp at h3
                · rw [Array.getElem?_eq_none (by omega)] at h3
                  simp at h3
            · have := hac i _ (Array.getElem?_eq_getElem hi2) e he hb
              rw [getD_push (by omega)] at h3
              exact h3
        · exfalso
          have e : i = init.size := by omega
          subst e
          rw [Array.getElem?_push_size] at h2
          simp only [Option.map_some, Option.getD_some, Bool.and_eq_true, Array.all_eq_true_iff_forall_mem, Bool.or_eq_true, Bool.not_eq_true'] at h2
          obtain ⟨e, he, h3, h4⟩ := hl m hm1
          rcases h2.2 e he with h5 | h5
          · rw [h4] at h5; cases h5
          · rw [h3, getD_push (by omega), hm2] at h5
            cases h5
      refine ⟨fun hn => ?_, fun i hi => ?_⟩
      · exfalso
        cases hc : Region.ready .any init listed with
        | nil => exact hr hc
        | cons q l =>
          have hq : q ∈ Region.ready .any init listed := by rw [hc]; simp
          have : q ∈ Region.ready .any (init.push o) (listed.push false) := by
            unfold Region.ready at hq ⊢
            rw [List.mem_filter, List.mem_range] at hq ⊢
            obtain ⟨h1, h2⟩ := hq
            rw [Array.size_push]
            refine ⟨by omega, ?_⟩
            rw [Array.getElem?_eq_getElem h1, Option.map_some, Option.getD_some] at h2
            rw [getD_push (by omega), Array.getElem?_push_lt h1, Option.map_some, Option.getD_some]
            simp only [Bool.and_eq_true, Array.all_eq_true_iff_forall_mem, Bool.or_eq_true] at h2 ⊢
            refine ⟨h2.1, fun e he => ?_⟩
            rcases h2.2 e he with h3 | h3
            · exact .inl h3
            · right
              have he2 : e.on < listed.size := by
                rcases Nat.lt_or_ge e.on listed.size with h | h
                · exact h
                · rw [Array.getD_eq_getD_getElem?, Array.getElem?_eq_none h] at h3
                  simp at h3
              rw [getD_push he2]
              exact h3
          rw [hn] at this
          cases this
      · obtain ⟨hi1, hi2⟩ := hsub i hi
        have h3 := h.2 i hi2
        unfold wpOp at h3 ⊢
        rw [Array.getElem?_push_lt hi1]
        rw [Array.getElem?_eq_getElem hi1] at h3
        simp only at h3 ⊢
        have hy : Region.wanted init[i] (yielded (init.push o) a.tmps) = Region.wanted init[i] (yielded init a.tmps) := by
          unfold Region.wanted
          cases hgq : init[i].guard with
          | none => rfl
          | some jp =>
            obtain ⟨j, p⟩ := jp
            simp only
            rw [yield_push (hgd i _ (Array.getElem?_eq_getElem hi1) j p hgq)]
        rw [hy, set_push (by omega)]
        have hK : ∀ a w, wpAny P .any init (fun e a w => e = .normal ∧ Wl a w) fuel (listed.setIfInBounds i true) a w → wpAny P .any (init.push o) Q (fuel + 1) ((listed.setIfInBounds i true).push false) a w := fun a w hh => ih _ a w (by simpa using hsz) hh
        split
        · rename_i hw
          rw [if_pos hw] at h3
          rcases h3 with h3 | ⟨_, x, y, hx, _⟩
          · exact .inl (wp_weak hK (fun e a w hne hq => absurd hq.1 hne) h3)
          · cases hx
        · rename_i hw
          rw [if_neg hw] at h3
          exact hK _ _ h3
end
end Go.V
/-
  The evaluator with recasts of single regions (VQ) whose last operation may be carried out with the slots' own kinds.
-/
namespace Go.V
open Go.RowKit
set_option linter.unusedSimpArgs false

/-- 1000000 at the head: the last operation by itself. -/
@[reducible] def splitM : List Nat → Option (List Nat)
  | [] => none
  | m :: l => match Nat.beq m 1000000 with
    | true => some l
    | false => none
@[reducible] noncomputable def denS (c : Cx) (Z : List (Nat × List Nat)) : Nat → Code → List D → (Out → Option Out) → Option Out
  | _, .skip, δ, k => k (.nrm δ)
  | _, .region id ops _, δ, k => match look Z id with
    | some fz => match splitM fz with
     | some fz => viaC c.K δ (depsAll c.K fz) fun l => setManyC δ (depsAll c.K fz) l fun δ' => runOps (rcx c fz) (initL ops.toList) (initL ops.toList) δ' fun δ2 => setManyC δ2 fz [] fun δ3 => setManyC δ3 (depsAll c.K fz) [] fun δ4 => runOps c ops.toList (lastL ops.toList) δ4 fun δ5 => k (.nrm δ5)
     | none => viaC c.K δ (depsAll c.K fz) fun l => setManyC δ (depsAll c.K fz) l fun δ' => runOps (rcx c fz) ops.toList ops.toList δ' fun δ2 => setManyC δ2 fz [] fun δ3 => setManyC δ3 (depsAll c.K fz) [] fun δ4 => k (.nrm δ4)
    | none => runOps c ops.toList ops.toList δ fun δ' => k (.nrm δ')
  | bid, .seq a b, δ, k => denS c Z bid a δ fun o => seqK o (fun δ' => denS c Z bid b δ' k) k
  | bid, .cond x t e, δ, k => opC δ x fun q => ifD q (denS c Z bid t δ k) (denS c Z bid e δ k)
  | _, .block id b, δ, k => denS c Z id b δ fun o => blkK id o k
  | bid, .loop b, δ, k => match look c.H bid with
    | none => none
    | some (hl, xl) =>
      getC δ hl fun s => (loopC (fun s => expandC (lenN c.K) hl s fun δ => denS c Z bid b δ (shrinkK hl xl)) s).bind fun o =>
        outK o (fun i s => expandC (lenN c.K) xl s fun δ => k (.ext i δ)) (fun a b => k (.ret a b))
  | _, .exit id, δ, k => k (.ext id δ)
  | _, .ret, δ, k => resC c δ c.res fun rs => getC δ c.ios fun us => usK us (k (.ret rs us))
  | _, _, _, _ => none
@[reducible] noncomputable def denFS (c : Cx) (Z : List (Nat × List Nat)) (fn : Func) (ds : List D) : Option Out :=
  match fn.body with
  | none => none
  | some b => denS c Z 0 b (padTo fn.ntmps ds) fun o => match o with
    | .nrm δ => resC c δ c.res fun rs => getC δ c.ios fun us => usK us (some (.ret rs us))
    | .ext _ _ => none
    | .ret rs us => some (.ret rs us)
def okCodeS (c : Cx) (Z : List (Nat × List Nat)) : Nat → Code → Bool
  | _, .skip => true
  | bid, .region id ops d => match look Z id with
    | some fz => match splitM fz with
      | some fz => okFz c fz && (d && splitOk ops.toList && okCode (rcx c fz) bid (.region id (initL ops.toList).toArray d) && (lastL ops.toList).all (okOp c ops.toList))
      | none => okFz c fz && okCode (rcx c fz) bid (.region id ops d)
    | none => okCode c bid (.region id ops d)
  | b, .seq x y => okCodeS c Z b x && okCodeS c Z b y
  | b, .cond x t e => Nat.ble (lvOf c.K x) 2 && okCodeS c Z b t && okCodeS c Z b e
  | _, .block id x => okCodeS c Z id x
  | b, .loop x => okCodeS c Z b x && (match look c.H b with
    | some (hl, xl) => okLive c.K hl && okLive c.K xl
    | none => false)
  | _, .exit _ => true
  | _, .ret => true
  | _, _ => false
def okFnS (c : Cx) (Z : List (Nat × List Nat)) (fn : Func) (pm rm : List Kd) : Bool :=
  (match fn.body with
    | some b => okCodeS c Z 0 b
    | none => false) && Nat.beq (lenN c.K) fn.ntmps && prefK pm c.K && okPm pm && okRes c c.res rm && decide (c.ios = ioIdx 0 pm)

section
variable {P : Program} {c : Cx} {B : Nat} {X : Nat → Prop} {w0 : World} {F0 F : Nat → Prop} {O : Nat → Option (Nat × Nat)} {a : Act} {w : World} {δ : List D} {fz : List Nat}

theorem loop_roundsS {V : Nat → Value} {b : Code} {bid : Nat} {Z : List (Nat × List Nat)} {hl xl : List Nat} (h1 : okLive c.K hl = true) (h2 : okLive c.K xl = true)
    (ih : ∀ (F : Nat → Prop) (O : Nat → Option (Nat × Nat)) (a : Act) (w : World) (δ : List D), Inv c B X w0 F0 F O a w δ → IoV c V a → ∀ (k : Out → Option Out) (r : Out), denS c Z bid b δ k = some r → ∀ Q, (∀ e a w, Post c B X w0 F0 V k r e a w → Q e a w) → b.wp P Q a w)
    {k : Out → Option Out} {r : Out} {Q : Exit → Act → World → Prop} (hQ : ∀ e a w, Post c B X w0 F0 V k r e a w → Q e a w) {o : Out}
    (ho : outK o (fun i s => expandC (lenN c.K) xl s fun δ => k (.ext i δ)) (fun x y => k (.ret x y)) = some r) : ∀ (n : Nat) (F : Nat → Prop) (O : Nat → Option (Nat × Nat)) (a : Act) (w : World) (δ : List D), Inv c B X w0 F0 F O a w δ → IoV c V a →
    iter (fun s => expandC (lenN c.K) hl s fun δ => denS c Z bid b δ (shrinkK hl xl)) n (getAll δ hl) = some o → Code.rounds P b Q n a w
  | 0, _, _, _, _, _, _, _, h => by cases h
  | n + 1, F, O, a, w, δ, hI, hV, h => by
    simp only [iter, expandC_eq] at h
    rw [rounds_succ]
    have hI' := hI.carry h1
    cases hb : denS c Z bid b (carry (lenN c.K) hl δ) (shrinkK hl xl) with
    | none => rw [hb] at h; cases h
    | some ob =>
      rw [hb] at h
      refine ih F O a w _ hI' hV _ ob hb _ (fun e a' w' hp => ?_)
      cases ob with
      | nrm s' =>
        simp only at h
        cases e with
        | normal =>
          obtain ⟨⟨F', O', δ', g1, g2⟩, g3⟩ := hp
          simp only [shrinkK, getC_eq, Option.some.injEq, Out.nrm.injEq] at g2
          rw [← g2] at h
          exact loop_roundsS h1 h2 ih hQ ho n F' O' a' w' δ' g1 g3 h
        | exit i =>
          obtain ⟨⟨F', O', δ', g1, g2⟩, g3⟩ := hp
          simp [shrinkK, getC_eq] at g2
        | ret =>
          obtain ⟨⟨F', O', δ', g1, g2⟩, g3⟩ := hp
          obtain ⟨rs, _, _, g4⟩ := retK_is g2
          simp [shrinkK] at g4
        | _ => exact hp.elim
      | ext i l =>
        simp only [Option.some.injEq] at h
        subst h
        cases e with
        | normal =>
          obtain ⟨⟨F', O', δ', g1, g2⟩, g3⟩ := hp
          simp [shrinkK, getC_eq] at g2
        | exit j =>
          obtain ⟨⟨F', O', δ', g1, g2⟩, g3⟩ := hp
          simp only [shrinkK, getC_eq, Option.some.injEq, Out.ext.injEq] at g2
          obtain ⟨rfl, rfl⟩ := g2
          simp only [outK, expandC_eq] at ho
          exact hQ (.exit j) _ _ ⟨⟨F', O', _, g1.carry h2, ho⟩, g3⟩
        | ret =>
          obtain ⟨⟨F', O', δ', g1, g2⟩, g3⟩ := hp
          obtain ⟨rs, _, _, g4⟩ := retK_is g2
          simp [shrinkK] at g4
        | _ => exact hp.elim
      | ret x y =>
        simp only [Option.some.injEq] at h
        subst h
        cases e with
        | normal =>
          obtain ⟨⟨F', O', δ', g1, g2⟩, g3⟩ := hp
          simp [shrinkK, getC_eq] at g2
        | exit j =>
          obtain ⟨⟨F', O', δ', g1, g2⟩, g3⟩ := hp
          simp [shrinkK, getC_eq] at g2
        | ret =>
          obtain ⟨⟨F', O', δ', g1, g2⟩, g3⟩ := hp
          obtain ⟨rs, g5, g6, g4⟩ := retK_is g2
          simp only [shrinkK, Option.some.injEq, Out.ret.injEq] at g4
          obtain ⟨rfl, rfl⟩ := g4
          exact hQ .ret _ _ ⟨⟨F', O', δ', g1, retK_of g5 g6 ho⟩, g3⟩
        | _ => exact hp.elim

theorem denS_sound (hT : okT P c.T = true) (hS : ∀ f S, look c.S f = some S → Meets c.G P f S) (hm : P.follows .mixedOrders = true) {V : Nat → Value} {Z : List (Nat × List Nat)} : ∀ (b : Code) (bid : Nat), okCodeS c Z bid b = true → ∀ (F : Nat → Prop) (O : Nat → Option (Nat × Nat)) (a : Act) (w : World) (δ : List D),
    Inv c B X w0 F0 F O a w δ → IoV c V a → ∀ (k : Out → Option Out) (r : Out), denS c Z bid b δ k = some r → ∀ Q, (∀ e a w, Post c B X w0 F0 V k r e a w → Q e a w) → b.wp P Q a w
  | .skip, bid, _, F, O, a, w, δ, hI, hV, k, r, hg, Q, hQ => wp_skip (hQ _ _ _ ⟨⟨F, O, δ, hI, hg⟩, hV⟩)
  | .region id ops d, bid, hok, F, O, a, w, δ, hI, hV, k, r, hg, Q, hQ => by
    simp only [okCodeS] at hok
    simp only [denS] at hg
    cases hH : look Z id with
    | none =>
      rw [hH] at hok hg
      exact den_sound hT hS hm (.region id ops d) bid hok F O a w δ hI hV k r hg Q hQ
    | some fz =>
      rw [hH] at hok hg
      simp only at hok hg
      cases hM : splitM fz with
      | none =>
        rw [hM] at hok hg
        simp only [Bool.and_eq_true] at hok
        simp only [viaC_eq, setManyC_eq, setMany_two] at hg
        obtain ⟨F2, O2, hI2⟩ := hI.recast hok.1
        refine den_sound (c := rcx c fz) hT hS hm (.region id ops d) bid hok.2 F2 O2 a w _ hI2 (fun s hs => hV s (by rw [← frz_io (fz := fz)]; exact hs)) (unK c fz k) r hg Q (fun e a w hp => ?_)
        cases e with
        | normal =>
          obtain ⟨⟨F', O', δ', hI', hk'⟩, hV'⟩ := hp
          exact hQ .normal _ _ ⟨⟨F', O', _, hI'.uncast, hk'⟩, fun s hs => hV' s (by rw [frz_io]; exact hs)⟩
        | exit i => obtain ⟨⟨_, _, _, _, h⟩, _⟩ := hp; cases h
        | ret =>
          obtain ⟨⟨_, _, _, _, h⟩, _⟩ := hp
          obtain ⟨rs, h1, h2, h3⟩ := retK_is h
          cases h3
        | _ => exact hp.elim
      | some fy =>
        rw [hM] at hok hg
        simp only [Bool.and_eq_true] at hok
        obtain ⟨hz, ⟨⟨hd, hsp⟩, hci⟩, hlo⟩ := hok
        subst hd
        simp only [viaC_eq, setManyC_eq, setMany_two] at hg
        obtain ⟨F2, O2, hI2⟩ := hI.recast hz
        have hne : ops.toList ≠ [] := fun e => by rw [e] at hsp; simp [splitOk, lastL] at hsp
        obtain ⟨o, ho, hops⟩ := init_last ops.toList hne
        unfold splitOk at hsp
        rw [ho] at hsp
        simp only [Bool.and_eq_true] at hsp
        obtain ⟨⟨⟨p1, p2⟩, p3⟩, p4⟩ := hsp
        rw [List.all_eq_true] at p2 p3 p4
        have hng : o.guard = none := by
          cases hgq : o.guard with
          | none => rfl
          | some jp => rw [hgq] at p1; cases p1
        have hsz : (initL ops.toList).toArray.size = (initL ops.toList).length := by simp
        have hopsA : ops = (initL ops.toList).toArray.push o := by
          apply Array.ext'
          simpa using hops
        simp only [okCode, Bool.and_eq_true, List.all_eq_true, Bool.or_eq_true, Bool.not_true, Bool.false_eq_true, false_or] at hci
        rw [ho] at hlo hg
        simp only [List.all_cons, List.all_nil, Bool.and_true] at hlo
        have hzip : ∀ (i : Nat) (q : Oper), (initL ops.toList).toArray[i]? = some q → (q, i) ∈ (initL ops.toList).zipIdx := fun i q hq => by
          rw [List.mem_zipIdx_iff_getElem?]
          simpa using hq
        refine wp_region_any hm ?_
        have hA := any_soundA (c := rcx c fy) (B := B) (X := X) (w0 := w0) (F0 := F0) (P := P) (V := V) (ops := (initL ops.toList).toArray) (Q := fun e a w => e = .normal ∧ o.wp P a w (fun a w => Q .normal a w) Q) (r := r)
          (k := fun δ2 => runOps c ops.toList [o] (setMany δ2 (fy ++ depsAll c.K fy) []) fun δ5 => k (.nrm δ5)) hT hS (by simpa using hci.2) (fun a w hn => ⟨rfl, ?_⟩) (by simpa using hci.1) hI2 (fun s hs => hV s (by rw [← frz_io (fz := fy)]; exact hs)) (by simpa using hg)
        · have hB := wpAny_push (P := P) (Q := Q) (o := o) (init := (initL ops.toList).toArray) (Wl := fun a w => o.wp P a w (fun a w => Q .normal a w) Q) (fun i hi => ?_) (fun e he => ?_) (fun i q hq e he hb => ?_) (fun i q hq j p hgq => ?_) hng (fun _ _ h => h) _ _ a _ (by simp) hA
          · have e1 : ops.size = (initL ops.toList).toArray.size + 1 := by
              conv => lhs; rw [hopsA]
              simp
            have e2 : (Array.replicate ops.size false) = (Array.replicate (initL ops.toList).toArray.size false).push false := by
              rw [e1]
              apply Array.ext'
              simp [List.replicate_succ']
            rw [e2, e1]
            conv => enter [3]; rw [hopsA]
            exact hB
          · have h := p2 i (List.mem_range.2 (by simpa using hi))
            rw [List.any_eq_true] at h
            obtain ⟨e, he, h⟩ := h
            simp only [Bool.and_eq_true, beq_iff_eq] at h
            exact ⟨e, by simpa using he, h.1, h.2⟩
          · have h := p3 e (by simpa using he)
            rw [hsz]
            simpa using h
          · have h := p4 _ (hzip i q hq)
            simp only [Bool.and_eq_true, List.all_eq_true, Bool.or_eq_true, Bool.not_eq_true', decide_eq_true_eq] at h
            exact (h.1 e (by simpa using he)).resolve_left (by rw [hb]; simp)
          · have h := p4 _ (hzip i q hq)
            simp only [Bool.and_eq_true] at h
            have h2 := h.2
            rw [hgq] at h2
            rw [hsz]
            simpa using h2
        · obtain ⟨⟨F', O', δ', hI', hk'⟩, hV'⟩ := hn
          have hst := step_sound (ops := ops) hT hS hlo (hI'.uncast) (fun s hs => hV' s (by rw [frz_io]; exact hs)) (k := fun δ5 => k (.nrm δ5)) (r := r) hk' Q
          have hw1 : Region.wanted o (yielded ops a.tmps) = true := by
            unfold Region.wanted
            rw [hng]
          rw [if_pos hw1] at hst
          exact wp_weak (fun a w hh => hQ .normal _ _ hh) (fun _ _ _ _ h => h) hst
  | .seq x y, bid, hok, F, O, a, w, δ, hI, hV, k, r, hg, Q, hQ => by
    simp only [okCodeS, Bool.and_eq_true] at hok
    refine wp_seq (denS_sound hT hS hm x bid hok.1 F O a w δ hI hV _ r hg _ (fun e a' w' hp => ?_))
    cases e with
    | normal =>
      obtain ⟨⟨F', O', δ', hI', hk'⟩, hV'⟩ := hp
      exact denS_sound hT hS hm y bid hok.2 F' O' a' w' δ' hI' hV' k r hk' Q hQ
    | exit id => exact hQ _ _ _ hp
    | ret => exact hQ _ _ _ hp
    | _ => exact hp.elim
  | .cond x t e, bid, hok, F, O, a, w, δ, hI, hV, k, r, hg, Q, hQ => by
    simp only [okCodeS, Bool.and_eq_true] at hok
    obtain ⟨⟨hlv, hok1⟩, hok2⟩ := hok
    have hop := hI.opd (ble_iff.1 hlv)
    have key : ifD (opD δ x) (denS c Z bid t δ k) (denS c Z bid e δ k) = some r := by
      simp only [denS] at hg
      cases x with
      | tmp s => simpa only [opC, nthC_eq, opD] using hg
      | const v => simpa only [opC, opD] using hg
      | func f => simpa only [opC, opD] using hg
      | global g => simp [opC] at hg
    unfold ifD at key
    split at key
    · rename_i hd
      rw [hd] at hop
      exact wp_cond_true (RepB_v hop).1 (denS_sound hT hS hm t bid hok1 F O a w δ hI hV k r key Q hQ)
    · rename_i hd
      rw [hd] at hop
      exact wp_cond_false (RepB_v hop).1 (denS_sound hT hS hm e bid hok2 F O a w δ hI hV k r key Q hQ)
    · cases key
  | .block id b, bid, hok, F, O, a, w, δ, hI, hV, k, r, hg, Q, hQ => by
    simp only [okCodeS] at hok
    refine wp_block (denS_sound hT hS hm b id hok F O a w δ hI hV _ r hg _ (fun e a' w' hp => ?_))
    cases e with
    | normal => exact hQ .normal _ _ hp
    | exit i =>
      simp only [Exit.inBlock]
      have hp' : NextV c B X w0 F0 V (fun δ => blkK id (.ext i δ) k) r a' w' := hp
      split
      · rename_i hi
        refine hQ .normal _ _ (NextV_mono hp' fun δ F O _ h => ?_)
        simp only [blkK] at h
        rw [beq_iff.2 (by simpa using hi)] at h
        exact h
      · rename_i hi
        refine hQ (.exit i) _ _ (NextV_mono hp' fun δ F O _ h => ?_)
        simp only [blkK] at h
        cases hb : Nat.beq i id
        · rw [hb] at h; exact h
        · exact absurd (by simpa using beq_iff.1 hb) hi
    | ret => exact hQ .ret _ _ hp
    | _ => exact hp.elim
  | .loop b, bid, hok, F, O, a, w, δ, hI, hV, k, r, hg, Q, hQ => by
    simp only [okCodeS, Bool.and_eq_true] at hok
    obtain ⟨hok1, hok2⟩ := hok
    simp only [denS] at hg
    cases hH : look c.H bid with
    | none => rw [hH] at hg; cases hg
    | some hx =>
      obtain ⟨hl, xl⟩ := hx
      rw [hH] at hg hok2
      simp only [Bool.and_eq_true] at hok2
      simp only [getC_eq] at hg
      obtain ⟨o', h1, h2⟩ := Option.bind_eq_some_iff.1 hg
      unfold loopC at h1
      split at h1
      case isFalse => cases h1
      rename_i hex
      refine wp_loop_rounds (Classical.choose hex) ?_
      refine loop_roundsS (hl := hl) (xl := xl) hok2.1 hok2.2 (fun F O a w δ hI hV k r hg Q hQ => denS_sound hT hS hm b bid hok1 F O a w δ hI hV k r hg Q hQ) hQ h2 _ F O a w δ hI hV h1
  | .exit id, bid, _, F, O, a, w, δ, hI, hV, k, r, hg, Q, hQ => wp_exit (hQ _ _ _ ⟨⟨F, O, δ, hI, hg⟩, hV⟩)
  | .ret, bid, _, F, O, a, w, δ, hI, hV, k, r, hg, Q, hQ => wp_ret (hQ _ _ _ ⟨⟨F, O, δ, hI, hg⟩, hV⟩)
  | .label _, _, hok, _, _, _, _, _, _, _, _, _, _, _, _ => by simp [okCodeS] at hok
  | .goto _, _, hok, _, _, _, _, _, _, _, _, _, _, _, _ => by simp [okCodeS] at hok
  | .scope _, _, hok, _, _, _, _, _, _, _, _, _, _, _, _ => by simp [okCodeS] at hok

theorem fn_callsS (hT : okT P c.T = true) (hS : ∀ f S, look c.S f = some S → Meets c.G P f S) (hm : P.follows .mixedOrders = true) {Z : List (Nat × List Nat)} {f : FuncId} {fn : Func} (hf : P.funcs[f]? = some fn) {pm rm : List Kd} (hok : okFnS c Z fn pm rm = true) (hres : c.res = fn.results.toList)
    {ds rs us : List D} (hd : denFS c Z fn ds = some (.ret rs us)) {args : Array Value} {w : World} {F : Nat → Prop} {ow : Nat → Option Nat} (hgl : gOk c.G w F) (ha : ArgsOk w F ow 0 pm ds args.toList) (hF : ∀ b, F b → b < w.heap.size ∧ ow b = none) (hO : ∀ b i, ow b = some i → b < w.heap.size) :
    Calls P f args w fun e w' => ∃ v, e = .returned v ∧ ∃ F' R' vs, v = resV vs ∧ CallPost { pm := pm, rm := rm, f := denFS c Z fn } args rs us w F ow F' R' vs w' := by
  unfold okFnS at hok
  simp only [Bool.and_eq_true, decide_eq_true_eq] at hok
  obtain ⟨⟨⟨⟨⟨hcode, hlenK⟩, hpre⟩, hpm⟩, hokr⟩, hios⟩ := hok
  rw [beq_iff, lenN_eq] at hlenK
  obtain ⟨hpl, hpn⟩ := prefK_nth hpre
  obtain ⟨hdl, hal, hargs⟩ := ArgsOk_at pm ds args.toList 0 ha
  have hasz : args.size = pm.length := by simpa using hal
  unfold denFS at hd
  cases hb : fn.body with
  | none => rw [hb] at hd; cases hd
  | some b =>
    rw [hb] at hd hcode
    simp only at hd hcode
    refine calls_of_wp hf hb ?_
    have hav : ∀ s, s < pm.length → av ({ tmps := args ++ Array.replicate (fn.ntmps - args.size) undef, defers := [] } : Act) s = args.toList.getD s undef := fun s hs => by
      have h1 : s < args.size := by omega
      simp only [av, Array.getD_eq_getD_getElem?, List.getD_eq_getElem?_getD, Array.getElem?_toList]
      rw [Array.getElem?_append_left h1]
    have hinit : Inv c w.heap.size (fun b => ow b ≠ none) w F F (fun b => (ow b).map fun i => (i, 0)) { tmps := args ++ Array.replicate (fn.ntmps - args.size) undef, defers := [] } w (padTo fn.ntmps ds) := by
      refine ⟨by simp; omega, by rw [padTo_len, hlenK], rfl, fun s => ?_, fun b hb => ⟨(hF b hb).1, by simp [(hF b hb).2]⟩, fun b p hp => ?_, fun _ h => h, fun _ h => .inl h, Nat.le_refl _, rfl, rfl, rfl, fun _ _ _ => rfl, hgl⟩
      · unfold SlotOk
        rw [padTo_nth _ _ _ (by rw [hdl]; omega)]
        by_cases hs : s < pm.length
        · rw [hpn s hs, hav s hs]
          rcases hargs s hs with hbad | harg
          · exact .inl hbad
          refine .inr ?_
          have hlv : ∀ lv, lv ≠ 1 → ∀ b, FB F 0 lv b → FB F w.heap.size lv b := fun lv h1 b hb => by
            match lv, h1 with
            | 0, _ => exact hb
            | _ + 2, _ => exact hb
          rcases okPm_at hpm s hs with ⟨lv, hk, h1⟩ | ⟨z, lv, hk, h1⟩ | ⟨n, lv, hk, h1⟩
          · rw [hk] at harg ⊢
            exact .inr (RepV_mono (hlv lv h1) (fun _ _ => rfl) harg)
          · rw [hk] at harg ⊢
            exact .inr (OwnV_mono' (hlv lv h1) (fun _ _ => rfl) (fun g _ hg => ⟨⟨by simp only [Nat.zero_add] at hg; simp [hg], fun h => by cases h⟩, rfl⟩) harg)
          · rw [hk] at harg ⊢
            exact .inr (BoxV_mono' (hlv lv h1) (fun _ _ => rfl) (fun g _ hg => ⟨⟨by simp only [Nat.zero_add] at hg; simp [hg], fun h => by cases h⟩, rfl⟩) harg)
        · refine .inl ?_
          rw [nth_eq, List.getD_eq_getElem?_getD, List.getElem?_eq_none (by omega)]
          rfl
      · obtain ⟨i, hi, rfl⟩ := Option.map_eq_some_iff.1 hp
        exact ⟨hO b i hi, .inr (by rw [hi]; simp)⟩
    refine denS_sound hT hS hm b 0 hcode F _ _ w _ hinit (V := av { tmps := args ++ Array.replicate (fn.ntmps - args.size) undef, defers := [] }) (fun _ _ => rfl) _ _ hd _ (fun e a' w' hp => ?_)
    have fin : NextV c w.heap.size (fun b => ow b ≠ none) w F (av { tmps := args ++ Array.replicate (fn.ntmps - args.size) undef, defers := [] }) (fun δ => retK c δ some) (.ret rs us) a' w' → a'.defers = [] ∧ ∃ v, (results fn a'.tmps).run P w' = .ok v w' ∧ ∃ v', Ending.returned v = .returned v' ∧ ∃ F' R' vs, v' = resV vs ∧ CallPost { pm := pm, rm := rm, f := denFS c Z fn } args rs us w F ow F' R' vs w' := by
      rintro ⟨⟨F', O', δ', hI', hk⟩, hV'⟩
      obtain ⟨rs', h1, h2, h3⟩ := retK_is hk
      simp only [Option.some.injEq, Out.ret.injEq] at h3
      obtain ⟨rfl, rfl⟩ := h3
      obtain ⟨vs, g1, g2, g3, g4⟩ := res_run (P := P) hT hI' c.res rm rs' hokr h1
      refine ⟨hI'.df, resV vs, ?_, _, rfl, F', fun b => if w.heap.size ≤ b then (match O' b with
        | some (t, 0) => resIx c.res t 0
        | _ => none) else none, vs, rfl, ?_⟩
      · have hrun : (fn.results.mapM (getRes a'.tmps)).run P w' = .ok vs.toArray w' := by
          rw [Array.mapM_eq_mapM_toList, ← hres]
          simp [g1]
        have hrw : results fn a'.tmps = (do
            let vs ← fn.results.mapM (getRes a'.tmps)
            pure (if h : vs.size = 1 then vs[0] else .tuple vs)) := by
          unfold results
          congr 1
        rw [hrw]
        simp only [Sem.run_bind, hrun, Result.andThen_ok, Sem.run_pure]
        congr 1
        rcases vs with _ | ⟨y, _ | ⟨y', vs⟩⟩
        · simp [resV]
        · simp [resV]
        · simp [resV]
      · refine ⟨hI'.os, hI'.tape, hI'.output, hI'.bb, fun b hb ho => hI'.keep b hb (by simp [ho]), hI'.f0, fun b hb => ⟨hI'.fn b hb, (hI'.fl b hb).1, by simp only [(hI'.fl b hb).2]; split <;> rfl⟩, fun b j hj => ?_, g2, g3, fun j => ?_, ?_⟩
        · split at hj
          case isFalse => cases hj
          rename_i hB
          refine ⟨hB, ?_⟩
          split at hj
          · rename_i t he; exact (hI'.ol b _ he).1
          · cases hj
        · refine ResOk_mono (fun hk g hg => ?_) (g4 j)
          obtain ⟨z, lv, hk⟩ := hk
          obtain ⟨e1, t, e2, e3⟩ := hg
          rw [if_pos e1]
          simp only [e3]
          have := (resIx_own c.res rm hokr j t 0 z lv hk e2).1
          simpa using this
        · rw [hios]
          refine UsOk_of pm args.toList 0 hal (fun j hj hio => ?_)
          rw [Nat.zero_add]
          have hkj := hpn j hj
          have hbj : nth δ' j ≠ .bad := by
            refine h2 _ ?_
            rw [hios, getAll_map]
            exact List.mem_map_of_mem (by simpa using ioIdx_mem pm 0 j hj hio)
          have havj : av a' j = args.toList.getD j undef := (hV' j (by rw [hkj]; exact hio)).trans (hav j hj)
          have hlv : ∀ lv, lv ≠ 1 → ∀ b, FB F' w.heap.size lv b → FB F' 0 lv b := fun lv h1 b hb => by
            match lv, h1 with
            | 0, _ => exact hb
            | _ + 2, _ => exact hb
          refine ⟨hbj, .inr ?_⟩
          rcases okPm_at hpm j hj with ⟨lv, hk, h1⟩ | ⟨z, lv, hk, h1⟩ | ⟨n, lv, hk, h1⟩
          · rw [hk] at hio; cases hio
          · have h5 := hI'.own (hkj.trans hk) hbj
            rw [havj] at h5
            rw [hk]
            exact OwnV_mono' (hlv lv h1) (fun _ _ => rfl) (fun _ _ _ => ⟨trivial, rfl⟩) h5
          · have h5 := hI'.box (hkj.trans hk) hbj
            rw [havj] at h5
            rw [hk]
            exact BoxV_mono' (hlv lv h1) (fun _ _ => rfl) (fun _ _ _ => ⟨trivial, rfl⟩) h5
    cases e with
    | normal => exact fin hp
    | exit i =>
      obtain ⟨⟨_, _, _, _, h⟩, _⟩ := hp
      cases h
    | ret =>
      refine fin (NextV_mono hp fun δ F O _ h => ?_)
      obtain ⟨rs', h1, h2, h3⟩ := retK_is h
      exact retK_of h1 h2 h3
    | _ => exact hp.elim

theorem meets_ofS (hT : okT P c.T = true) (hS : ∀ f S, look c.S f = some S → Meets c.G P f S) (hm : P.follows .mixedOrders = true) {Z : List (Nat × List Nat)} {f : FuncId} {fn : Func} (hf : P.funcs[f]? = some fn) (hname : (fn.name == "runtime.NumGoroutine") = false) {pm rm : List Kd} (hok : okFnS c Z fn pm rm = true) (hres : c.res = fn.results.toList) :
    Meets c.G P f { pm := pm, rm := rm, f := denFS c Z fn } := by
  intro ds rs us hd args w F ow hgl ha hF hO o a next Q hn
  have hbody : ∃ b, fn.body = some b := by
    have hd' : denFS c Z fn ds = some (.ret rs us) := hd
    unfold denFS at hd'
    cases hb : fn.body with
    | none => rw [hb] at hd'; cases hd'
    | some b => exact ⟨b, rfl⟩
  obtain ⟨b, hb⟩ := hbody
  have hrun : (callFunc f args).run P w = .ok (.enter f args) w := by
    have h1 : ¬ fn.name = "runtime.NumGoroutine" := by simpa using hname
    simp [callFunc, hf, h1, hb]
  rw [hrun, Oper.upon_enter]
  refine Calls.mono (fn_callsS hT hS hm hf hok hres hd hgl ha hF hO) (fun e w' he => ?_)
  obtain ⟨v, rfl, F', R', vs, h1, h2⟩ := he
  exact hn v w' ⟨F', R', vs, h1, h2⟩


end
end Go.V
/-
  Contexts and contracts of functions, printed by gen.py.
-/
namespace Go.Proofs.YtaphcpfkgpaefaaGreat
open Go.V
set_option maxRecDepth 100000
@[reducible] def ty5 : TI := { n := 1, zero := [.v (.int .u8 0)], ik := some .u8 }
@[reducible] def ty22 : TI := { n := 1, zero := [.arr 1 []], elem := 5, ez := 1, eb := 1 }
@[reducible] def ty23 : TI := { n := 1, zero := [.arr 4 []], elem := 34, ez := 4, eb := 32 }
@[reducible] def ty24 : TI := { n := 1, zero := [.arr 1 []], elem := 3, ez := 1, eb := 8 }
@[reducible] def ty34 : TI := { agg := true, n := 4, zero := [.v (.int .i64 0), .v (.int .i64 0), .v (.int .i64 0), .v (.int .i64 0)], fs := [(0, 3), (1, 3), (2, 3), (3, 3)], eq := [1, 1, 1, 1] }
@[reducible] def ty49 : TI := { n := 1, zero := [.v (.int .u64 0)], ik := some .u64 }
@[reducible] def ty52 : TI := { n := 1, zero := [.v (.int .u64 0)], ik := some .u64 }
@[reducible] def ty54 : TI := { agg := true, n := 3, zero := [.arr 1 [], .v (.int .i64 0), .v (.int .u64 0)], fs := [(0, 22), (1, 3), (2, 52)] }
/-- (*loop.example/g01054/spec.l1Cur).next -/
@[reducible] noncomputable def c_spec_l1Cur_next : Cx := { K := [.box 3 2 true, .no, .dat 0, .dat 0, .ref 0, .ref 0, .ref 0, .dat 0, .ref 0, .ref 0, .ref 0, .dat 2, .dat 0, .dat 0, .ref 0, .ref 0, .ref 0, .dat 2, .ref 0, .ref 0, .ref 0, .dat 0, .dat 2, .dat 0, .dat 0, .ref 0, .ref 0, .ref 0, .dat 0, .dat 0, .ref 0, .ref 0, .ref 0, .ref 0, .ref 0, .ref 0, .dat 0, .dat 0, .dat 0, .dat 0, .dat 0, .dat 0, .ref 0, .ref 0, .ref 0, .ref 0, .ref 0, .dat 0, .ref 0, .ref 0, .ref 0, .dat 2, .dat 0, .dat 0, .dat 0, .ref 0, .ref 0, .ref 0, .dat 0, .dat 0, .dat 0, .dat 0], T := [(3, ty3), (5, ty5), (22, ty22), (52, ty52), (54, ty54)], S := [], H := [], res := [.tmp 2], ios := [0], G := gl0 }
noncomputable def F_spec_l1Cur_next : List D → Option Out := denF c_spec_l1Cur_next Tryz.f64
@[reducible] noncomputable def S_spec_l1Cur_next : FS := { pm := [.box 3 2 true], rm := [.dat 0], f := F_spec_l1Cur_next }
theorem M_spec_l1Cur_next : Meets gl0 Tryz.prog 64 S_spec_l1Cur_next := meets_of (P := Tryz.prog) (c := c_spec_l1Cur_next) (fn := Tryz.f64) (pm := S_spec_l1Cur_next.pm) (rm := S_spec_l1Cur_next.rm) (by kernel_rfl) lookNil follows_mixed Tryz.func64 (by kernel_rfl) (by kernel_rfl) rfl
/-- (*loop.example/g01054/spec.l1Cur).pick -/
@[reducible] noncomputable def c_spec_l1Cur_pick : Cx := { K := [.box 3 2 true, .dat 0, .no, .no, .dat 0, .dat 0, .dat 0, .dat 0, .ref 0, .dat 0, .dat 0, .dat 0, .dat 0, .dat 0, .ref 0, .dat 0, .dat 0, .dat 0, .dat 0, .dat 0], T := [(3, ty3)], S := [(64, S_spec_l1Cur_next)], H := [], res := [.tmp 4], ios := [0], G := gl0 }
noncomputable def F_spec_l1Cur_pick : List D → Option Out := denF c_spec_l1Cur_pick Tryz.f55
@[reducible] noncomputable def S_spec_l1Cur_pick : FS := { pm := [.box 3 2 true, .dat 0], rm := [.dat 0], f := F_spec_l1Cur_pick }
theorem M_spec_l1Cur_pick : Meets gl0 Tryz.prog 55 S_spec_l1Cur_pick := meets_of (P := Tryz.prog) (c := c_spec_l1Cur_pick) (fn := Tryz.f55) (pm := S_spec_l1Cur_pick.pm) (rm := S_spec_l1Cur_pick.rm) (by kernel_rfl) (lookCons M_spec_l1Cur_next lookNil) follows_mixed Tryz.func55 (by kernel_rfl) (by kernel_rfl) rfl
/-- (*loop.example/g01054/spec.l1Cur).one -/
@[reducible] noncomputable def c_spec_l1Cur_one : Cx := { K := [.box 3 2 true, .dat 0, .no, .no, .dat 0, .ref 0, .dat 0, .dat 0, .dat 0], T := [(3, ty3)], S := [(55, S_spec_l1Cur_pick)], H := [], res := [.tmp 4], ios := [0], G := gl0 }
noncomputable def F_spec_l1Cur_one : List D → Option Out := denF c_spec_l1Cur_one Tryz.f37
@[reducible] noncomputable def S_spec_l1Cur_one : FS := { pm := [.box 3 2 true, .dat 0], rm := [.dat 0], f := F_spec_l1Cur_one }
theorem M_spec_l1Cur_one : Meets gl0 Tryz.prog 37 S_spec_l1Cur_one := meets_of (P := Tryz.prog) (c := c_spec_l1Cur_one) (fn := Tryz.f37) (pm := S_spec_l1Cur_one.pm) (rm := S_spec_l1Cur_one.rm) (by kernel_rfl) (lookCons M_spec_l1Cur_pick lookNil) follows_mixed Tryz.func37 (by kernel_rfl) (by kernel_rfl) rfl
/-- (*loop.example/g01054/spec.l1Cur).among -/
@[reducible] noncomputable def c_spec_l1Cur_among : Cx := { K := [.box 3 2 true, .dat 2, .no, .no, .dat 0, .dat 2, .ref 0, .dat 2, .dat 0, .dat 0, .dat 2, .dat 0], T := [(3, ty3), (24, ty24)], S := [(55, S_spec_l1Cur_pick)], H := [], res := [.tmp 4], ios := [0], G := gl0 }
noncomputable def F_spec_l1Cur_among : List D → Option Out := denF c_spec_l1Cur_among Tryz.f56
@[reducible] noncomputable def S_spec_l1Cur_among : FS := { pm := [.box 3 2 true, .dat 2], rm := [.dat 0], f := F_spec_l1Cur_among }
theorem M_spec_l1Cur_among : Meets gl0 Tryz.prog 56 S_spec_l1Cur_among := meets_of (P := Tryz.prog) (c := c_spec_l1Cur_among) (fn := Tryz.f56) (pm := S_spec_l1Cur_among.pm) (rm := S_spec_l1Cur_among.rm) (by kernel_rfl) (lookCons M_spec_l1Cur_pick lookNil) follows_mixed Tryz.func56 (by kernel_rfl) (by kernel_rfl) rfl
/-- (*loop.example/g01054/spec.l1Cur).orders -/
@[reducible] noncomputable def c_spec_l1Cur_orders : Cx := { K := [.box 3 2 true, .no, .own 4 0 false, .own 4 0 false, .dat 0, .dat 0, .dat 0, .ref 0, .dat 0, .ref 0, .dat 0, .ref 0, .dat 0, .dat 0, .via 3, .dat 0, .dat 0, .dat 0, .dat 0, .ref 0, .dat 0, .dat 0, .dat 0, .own 4 0 false, .dat 0, .ref 0, .dat 0, .dat 0, .ref 0, .dat 0, .dat 0, .ref 0, .dat 0, .dat 0, .dat 0, .dat 1, .own 4 0 false, .dat 0, .dat 0, .ref 0, .dat 0, .dat 0, .ref 0, .dat 0, .dat 0, .dat 0, .via 3, .dat 0, .ref 0, .dat 1, .dat 0, .ref 3, .ref 3, .dat 0, .dat 0, .via 3, .dat 0, .ref 0, .dat 1, .dat 0, .ref 3, .ref 3, .dat 0, .dat 0, .via 3, .dat 0, .ref 0, .dat 1, .dat 0, .ref 3, .ref 3, .dat 0, .dat 0, .via 3, .dat 0, .ref 0, .dat 1, .dat 0, .ref 3, .ref 3, .own 4 0 false], T := [(3, ty3), (23, ty23), (24, ty24), (34, ty34)], S := [(37, S_spec_l1Cur_one), (55, S_spec_l1Cur_pick), (56, S_spec_l1Cur_among)], H := [(0, ([0, 3, 4, 5], [0, 3, 5]))], res := [.tmp 2], ios := [0], G := gl0 }
@[reducible] def J_spec_l1Cur_orders : List (Nat × List Nat) := [(31, [0, 3, 4, 5])]
noncomputable def F_spec_l1Cur_orders : List D → Option Out := denFJ c_spec_l1Cur_orders J_spec_l1Cur_orders Tryz.f36
@[reducible] noncomputable def S_spec_l1Cur_orders : FS := { pm := [.box 3 2 true], rm := [.own 4 0 false], f := F_spec_l1Cur_orders }
theorem M_spec_l1Cur_orders : Meets gl0 Tryz.prog 36 S_spec_l1Cur_orders := meets_ofJ (J := J_spec_l1Cur_orders) (P := Tryz.prog) (c := c_spec_l1Cur_orders) (fn := Tryz.f36) (pm := S_spec_l1Cur_orders.pm) (rm := S_spec_l1Cur_orders.rm) (by kernel_rfl) (lookCons M_spec_l1Cur_one (lookCons M_spec_l1Cur_pick (lookCons M_spec_l1Cur_among lookNil))) follows_mixed (by kernel_rfl) Tryz.func36 (by kernel_rfl) (by kernel_rfl) rfl
/-- (*loop.example/g01054/spec.l1Cur).sequence -/
@[reducible] noncomputable def c_spec_l1Cur_sequence : Cx := { K := [.box 3 2 true, .dat 0, .no, .no, .own 1 0 false, .own 1 0 false, .dat 0, .dat 0, .dat 0, .dat 0, .dat 0, .dat 0, .dat 0, .ref 0, .via 5, .dat 0, .dat 0, .dat 0, .own 1 0 false, .via 5, .dat 0, .dat 1, .own 1 0 false, .dat 0, .dat 1, .own 1 0 false, .via 5, .dat 0, .dat 1, .own 1 0 false, .ref 0, .dat 0, .dat 0, .dat 0, .own 1 0 false, .dat 1, .own 1 0 false, .dat 0, .dat 0, .dat 0, .dat 0, .via 5, .ref 0, .dat 0, .dat 1, .dat 0, .ref 5, .own 1 0 false], T := [(3, ty3), (24, ty24)], S := [(55, S_spec_l1Cur_pick), (56, S_spec_l1Cur_among)], H := [(0, ([0, 1, 5, 6], [0, 1, 5]))], res := [.tmp 4], ios := [0], G := gl0 }
@[reducible] def Z_spec_l1Cur_sequence : List (Nat × List Nat) := [(6, [1000000, 5])]
noncomputable def F_spec_l1Cur_sequence : List D → Option Out := denFS c_spec_l1Cur_sequence Z_spec_l1Cur_sequence Tryz.f43
@[reducible] noncomputable def S_spec_l1Cur_sequence : FS := { pm := [.box 3 2 true, .dat 0], rm := [.own 1 0 false], f := F_spec_l1Cur_sequence }
theorem M_spec_l1Cur_sequence : Meets gl0 Tryz.prog 43 S_spec_l1Cur_sequence := meets_ofS (Z := Z_spec_l1Cur_sequence) (P := Tryz.prog) (c := c_spec_l1Cur_sequence) (fn := Tryz.f43) (pm := S_spec_l1Cur_sequence.pm) (rm := S_spec_l1Cur_sequence.rm) (by kernel_rfl) (lookCons M_spec_l1Cur_pick (lookCons M_spec_l1Cur_among lookNil)) follows_mixed Tryz.func43 (by kernel_rfl) (by kernel_rfl) rfl
/-- loop.example/g01054/spec.DrawFinishTimes -/
@[reducible] noncomputable def c_spec_DrawFinishTimes : Cx := { K := [.dat 2, .no, .dat 1, .own 1 0 false, .ref 8, .dat 1, .dat 2, .dat 2, .box 3 2 false, .ref 8, .dat 1, .dat 1, .ref 8, .dat 1, .dat 0, .own 1 0 false], T := [(3, ty3), (22, ty22), (23, ty23), (24, ty24), (34, ty34), (52, ty52), (54, ty54)], S := [(36, S_spec_l1Cur_orders), (43, S_spec_l1Cur_sequence)], H := [], res := [.tmp 2, .tmp 3], ios := [], G := gl0 }
noncomputable def F_spec_DrawFinishTimes : List D → Option Out := denF c_spec_DrawFinishTimes Tryz.f19
@[reducible] noncomputable def S_spec_DrawFinishTimes : FS := { pm := [.dat 2], rm := [.dat 1, .own 1 0 false], f := F_spec_DrawFinishTimes }
theorem M_spec_DrawFinishTimes : Meets gl0 Tryz.prog 19 S_spec_DrawFinishTimes := meets_of (P := Tryz.prog) (c := c_spec_DrawFinishTimes) (fn := Tryz.f19) (pm := S_spec_DrawFinishTimes.pm) (rm := S_spec_DrawFinishTimes.rm) (by kernel_rfl) (lookCons M_spec_l1Cur_orders (lookCons M_spec_l1Cur_sequence lookNil)) follows_mixed Tryz.func19 (by kernel_rfl) (by kernel_rfl) rfl
/-- loop.example/g01054/spec.DrawLateOrders -/
@[reducible] noncomputable def c_spec_DrawLateOrders : Cx := { K := [.dat 2, .no, .dat 1, .own 1 0 false, .dat 2, .tup [.dat 1, .own 1 0 false], .dat 1, .own 1 0 false], T := [(23, ty23), (24, ty24)], S := [(19, S_spec_DrawFinishTimes)], H := [], res := [.tmp 2, .tmp 3], ios := [], G := gl0 }
noncomputable def F_spec_DrawLateOrders : List D → Option Out := denF c_spec_DrawLateOrders Tryz.f4
@[reducible] noncomputable def S_spec_DrawLateOrders : FS := { pm := [.dat 2], rm := [.dat 1, .own 1 0 false], f := F_spec_DrawLateOrders }
theorem M_spec_DrawLateOrders : Meets gl0 Tryz.prog 4 S_spec_DrawLateOrders := meets_of (P := Tryz.prog) (c := c_spec_DrawLateOrders) (fn := Tryz.f4) (pm := S_spec_DrawLateOrders.pm) (rm := S_spec_DrawLateOrders.rm) (by kernel_rfl) (lookCons M_spec_DrawFinishTimes lookNil) follows_mixed Tryz.func4 (by kernel_rfl) (by kernel_rfl) rfl
/-- loop.example/g01054/spec.l1In -/
@[reducible] noncomputable def c_spec_l1In : Cx := { K := [.dat 0, .dat 0, .dat 0, .no, .no, .no, .dat 0, .dat 0, .dat 0, .dat 0, .dat 0, .dat 0, .dat 0, .dat 0, .dat 0], T := [(3, ty3)], S := [], H := [], res := [.tmp 6], ios := [], G := gl0 }
noncomputable def F_spec_l1In : List D → Option Out := denF c_spec_l1In Tryz.f46
@[reducible] noncomputable def S_spec_l1In : FS := { pm := [.dat 0, .dat 0, .dat 0], rm := [.dat 0], f := F_spec_l1In }
theorem M_spec_l1In : Meets gl0 Tryz.prog 46 S_spec_l1In := meets_of (P := Tryz.prog) (c := c_spec_l1In) (fn := Tryz.f46) (pm := S_spec_l1In.pm) (rm := S_spec_l1In.rm) (by kernel_rfl) lookNil follows_mixed Tryz.func46 (by kernel_rfl) (by kernel_rfl) rfl
/-- loop.example/g01054/spec.orOne -/
@[reducible] noncomputable def c_spec_orOne : Cx := { K := [.dat 0, .box 4 0 false, .dat 0, .ref 1, .dat 0, .dat 0, .dat 0, .ref 1, .dat 0, .dat 0, .dat 0, .dat 0, .ref 1, .dat 0, .dat 0, .dat 0, .dat 0, .ref 1, .dat 0, .dat 0, .dat 0], T := [(3, ty3), (34, ty34)], S := [(46, S_spec_l1In)], H := [], res := [.tmp 2], ios := [], G := gl0 }
noncomputable def F_spec_orOne : List D → Option Out := denF c_spec_orOne Tryz.f53
@[reducible] noncomputable def S_spec_orOne : FS := { pm := [.dat 0], rm := [.dat 0], f := F_spec_orOne }
theorem M_spec_orOne : Meets gl0 Tryz.prog 53 S_spec_orOne := meets_of (P := Tryz.prog) (c := c_spec_orOne) (fn := Tryz.f53) (pm := S_spec_orOne.pm) (rm := S_spec_orOne.rm) (by kernel_rfl) (lookCons M_spec_l1In lookNil) follows_mixed Tryz.func53 (by kernel_rfl) (by kernel_rfl) rfl
/-- loop.example/g01054/spec.orGood -/
@[reducible] noncomputable def c_spec_orGood : Cx := { K := [.dat 2, .no, .dat 0, .dat 0, .box 4 0 false, .dat 2, .dat 0, .dat 0, .dat 0, .dat 0, .dat 2, .dat 0, .dat 0, .dat 0, .dat 0, .dat 0, .dat 0, .dat 0, .dat 0, .dat 2, .dat 0, .dat 0, .dat 2, .dat 2, .dat 0, .ref 4, .dat 0, .dat 0, .dat 0, .dat 0, .dat 0, .dat 2, .dat 0, .dat 0], T := [(3, ty3), (23, ty23), (34, ty34)], S := [(53, S_spec_orOne)], H := [(0, ([0, 5, 6, 7], [0]))], res := [.tmp 2], ios := [], G := gl0 }
noncomputable def F_spec_orGood : List D → Option Out := denF c_spec_orGood Tryz.f30
@[reducible] noncomputable def S_spec_orGood : FS := { pm := [.dat 2], rm := [.dat 0], f := F_spec_orGood }
theorem M_spec_orGood : Meets gl0 Tryz.prog 30 S_spec_orGood := meets_of (P := Tryz.prog) (c := c_spec_orGood) (fn := Tryz.f30) (pm := S_spec_orGood.pm) (rm := S_spec_orGood.rm) (by kernel_rfl) (lookCons M_spec_orOne lookNil) follows_mixed Tryz.func30 (by kernel_rfl) (by kernel_rfl) rfl
/-- loop.example/g01054/spec.l1Has -/
@[reducible] noncomputable def c_spec_l1Has : Cx := { K := [.dat 2, .dat 0, .no, .no, .dat 0, .no, .dat 0, .dat 2, .dat 0, .dat 0, .dat 0, .dat 2, .dat 0, .dat 0, .dat 0, .dat 0, .dat 0], T := [(3, ty3), (24, ty24)], S := [], H := [(0, ([1, 7, 8, 9], []))], res := [.tmp 4], ios := [], G := gl0 }
noncomputable def F_spec_l1Has : List D → Option Out := denF c_spec_l1Has Tryz.f47
@[reducible] noncomputable def S_spec_l1Has : FS := { pm := [.dat 2, .dat 0], rm := [.dat 0], f := F_spec_l1Has }
theorem M_spec_l1Has : Meets gl0 Tryz.prog 47 S_spec_l1Has := meets_of (P := Tryz.prog) (c := c_spec_l1Has) (fn := Tryz.f47) (pm := S_spec_l1Has.pm) (rm := S_spec_l1Has.rm) (by kernel_rfl) lookNil follows_mixed Tryz.func47 (by kernel_rfl) (by kernel_rfl) rfl
/-- loop.example/g01054/spec.orAsked -/
@[reducible] noncomputable def c_spec_orAsked : Cx := { K := [.dat 2, .dat 2, .no, .no, .dat 0, .dat 0, .dat 0, .dat 2, .dat 0, .dat 0, .dat 0, .dat 2, .dat 0, .dat 2, .dat 0, .dat 0, .dat 0, .dat 2, .dat 0, .dat 0, .dat 0, .dat 0, .dat 2, .dat 0, .dat 0, .dat 2, .dat 0, .dat 0, .dat 0, .dat 0, .dat 0, .dat 2, .dat 0, .dat 2, .dat 0, .dat 0, .dat 0, .dat 0], T := [(3, ty3), (23, ty23), (24, ty24), (34, ty34)], S := [(30, S_spec_orGood), (46, S_spec_l1In), (47, S_spec_l1Has)], H := [(0, ([0, 1, 17, 18, 19], []))], res := [.tmp 4], ios := [], G := gl0 }
noncomputable def F_spec_orAsked : List D → Option Out := denF c_spec_orAsked Tryz.f23
@[reducible] noncomputable def S_spec_orAsked : FS := { pm := [.dat 2, .dat 2], rm := [.dat 0], f := F_spec_orAsked }
theorem M_spec_orAsked : Meets gl0 Tryz.prog 23 S_spec_orAsked := meets_of (P := Tryz.prog) (c := c_spec_orAsked) (fn := Tryz.f23) (pm := S_spec_orAsked.pm) (rm := S_spec_orAsked.rm) (by kernel_rfl) (lookCons M_spec_orGood (lookCons M_spec_l1In (lookCons M_spec_l1Has lookNil))) follows_mixed Tryz.func23 (by kernel_rfl) (by kernel_rfl) rfl
/-- loop.example/g01054/spec.l1Most -/
@[reducible] noncomputable def c_spec_l1Most : Cx := { K := [.dat 0, .dat 0, .no, .no, .dat 0, .dat 0, .dat 0, .dat 0, .dat 0, .dat 0], T := [(3, ty3)], S := [], H := [], res := [.tmp 4], ios := [], G := gl0 }
noncomputable def F_spec_l1Most : List D → Option Out := denF c_spec_l1Most Tryz.f49
@[reducible] noncomputable def S_spec_l1Most : FS := { pm := [.dat 0, .dat 0], rm := [.dat 0], f := F_spec_l1Most }
theorem M_spec_l1Most : Meets gl0 Tryz.prog 49 S_spec_l1Most := meets_of (P := Tryz.prog) (c := c_spec_l1Most) (fn := Tryz.f49) (pm := S_spec_l1Most.pm) (rm := S_spec_l1Most.rm) (by kernel_rfl) lookNil follows_mixed Tryz.func49 (by kernel_rfl) (by kernel_rfl) rfl
/-- loop.example/g01054/spec.orTimes -/
@[reducible] noncomputable def c_spec_orTimes : Cx := { K := [.dat 2, .dat 2, .no, .no, .own 1 0 false, .dat 0, .own 1 0 false, .dat 0, .dat 0, .dat 0, .no, .dat 0, .dat 2, .dat 0, .dat 0, .dat 0, .dat 2, .dat 0, .dat 0, .dat 2, .dat 0, .dat 2, .dat 2, .dat 0, .dat 0, .dat 0, .dat 0, .dat 0, .dat 0, .dat 0, .dat 0, .dat 0, .dat 0, .dat 0, .dat 2, .dat 0, .dat 2, .dat 2, .dat 0, .dat 0, .own 1 0 false, .dat 0, .dat 1, .own 1 0 false, .dat 0, .own 1 0 false, .dat 0], T := [(3, ty3), (23, ty23), (24, ty24), (34, ty34)], S := [(49, S_spec_l1Most)], H := [(0, ([0, 6, 7, 8, 9, 12, 13, 14], [6, 9]))], res := [.tmp 4, .tmp 5], ios := [], G := gl0 }
noncomputable def F_spec_orTimes : List D → Option Out := denF c_spec_orTimes Tryz.f48
@[reducible] noncomputable def S_spec_orTimes : FS := { pm := [.dat 2, .dat 2], rm := [.own 1 0 false, .dat 0], f := F_spec_orTimes }
theorem M_spec_orTimes : Meets gl0 Tryz.prog 48 S_spec_orTimes := meets_of (P := Tryz.prog) (c := c_spec_orTimes) (fn := Tryz.f48) (pm := S_spec_orTimes.pm) (rm := S_spec_orTimes.rm) (by kernel_rfl) (lookCons M_spec_l1Most lookNil) follows_mixed Tryz.func48 (by kernel_rfl) (by kernel_rfl) rfl
/-- loop.example/g01054/spec.orLate -/
@[reducible] noncomputable def c_spec_orLate : Cx := { K := [.dat 2, .dat 2, .no, .no, .own 1 0 false, .dat 1, .dat 0, .own 1 0 false, .dat 0, .dat 0, .tup [.own 1 0 false, .dat 0], .dat 2, .dat 2, .tup [.own 1 0 false, .dat 0], .dat 1, .dat 0, .dat 2, .dat 0, .dat 0, .dat 0, .dat 0, .dat 2, .dat 0, .own 1 0 false, .dat 1, .dat 0, .dat 1, .dat 0, .dat 2, .dat 0, .dat 2, .dat 2, .dat 0, .dat 0, .dat 0, .dat 1, .own 1 0 false, .dat 0, .own 1 0 false], T := [(3, ty3), (23, ty23), (24, ty24), (34, ty34)], S := [(48, S_spec_orTimes), (49, S_spec_l1Most)], H := [(0, ([0, 5, 7, 16, 17, 18], [7]))], res := [.tmp 4], ios := [], G := gl0 }
noncomputable def F_spec_orLate : List D → Option Out := denF c_spec_orLate Tryz.f24
@[reducible] noncomputable def S_spec_orLate : FS := { pm := [.dat 2, .dat 2], rm := [.own 1 0 false], f := F_spec_orLate }
theorem M_spec_orLate : Meets gl0 Tryz.prog 24 S_spec_orLate := meets_of (P := Tryz.prog) (c := c_spec_orLate) (fn := Tryz.f24) (pm := S_spec_orLate.pm) (rm := S_spec_orLate.rm) (by kernel_rfl) (lookCons M_spec_orTimes (lookCons M_spec_l1Most lookNil)) follows_mixed Tryz.func24 (by kernel_rfl) (by kernel_rfl) rfl
/-- loop.example/g01054/spec.l1Put -/
@[reducible] noncomputable def c_spec_l1Put : Cx := { K := [.dat 2, .dat 0, .no, .no, .dat 2, .dat 0, .own 1 0 false, .dat 0, .dat 2, .dat 0, .dat 0, .dat 0, .dat 2, .dat 0, .dat 2, .dat 0, .dat 0, .dat 0, .dat 0, .dat 0, .dat 0, .dat 0, .dat 2, .dat 0, .dat 0, .dat 0, .dat 2, .dat 0, .dat 2, .dat 0, .dat 0, .dat 0, .dat 0, .dat 2, .own 1 0 false, .dat 2, .dat 0, .dat 2, .own 1 0 false, .own 1 0 false, .dat 0, .dat 1, .own 1 0 false, .own 1 0 false, .dat 2, .dat 0, .dat 2, .dat 2], T := [(3, ty3), (24, ty24)], S := [], H := [(0, ([0, 1, 5], [0, 1, 5]))], res := [.tmp 4], ios := [], G := gl0 }
noncomputable def F_spec_l1Put : List D → Option Out := denF c_spec_l1Put Tryz.f25
@[reducible] noncomputable def S_spec_l1Put : FS := { pm := [.dat 2, .dat 0], rm := [.dat 2], f := F_spec_l1Put }
theorem M_spec_l1Put : Meets gl0 Tryz.prog 25 S_spec_l1Put := meets_of (P := Tryz.prog) (c := c_spec_l1Put) (fn := Tryz.f25) (pm := S_spec_l1Put.pm) (rm := S_spec_l1Put.rm) (by kernel_rfl) lookNil follows_mixed Tryz.func25 (by kernel_rfl) (by kernel_rfl) rfl
/-- loop.example/g01054/spec.LateOrders -/
@[reducible] noncomputable def c_spec_LateOrders : Cx := { K := [.dat 2, .dat 2, .no, .no, .dat 2, .dat 0, .dat 2, .dat 0, .dat 0, .dat 2, .dat 2, .dat 0, .dat 0, .dat 2, .dat 2, .dat 1, .dat 0, .dat 0, .dat 0, .dat 0, .dat 1, .dat 0, .dat 0, .dat 0, .dat 2, .dat 2, .dat 2, .dat 0, .dat 2, .dat 0, .dat 2, .dat 2, .dat 0, .dat 2, .dat 0, .dat 2], T := [(3, ty3), (23, ty23), (24, ty24), (34, ty34)], S := [(23, S_spec_orAsked), (24, S_spec_orLate), (25, S_spec_l1Put)], H := [(0, ([0, 1, 6, 15, 16, 17], [6]))], res := [.tmp 4, .tmp 5], ios := [], G := gl0 }
noncomputable def F_spec_LateOrders : List D → Option Out := denF c_spec_LateOrders Tryz.f6
@[reducible] noncomputable def S_spec_LateOrders : FS := { pm := [.dat 2, .dat 2], rm := [.dat 2, .dat 0], f := F_spec_LateOrders }
theorem M_spec_LateOrders : Meets gl0 Tryz.prog 6 S_spec_LateOrders := meets_of (P := Tryz.prog) (c := c_spec_LateOrders) (fn := Tryz.f6) (pm := S_spec_LateOrders.pm) (rm := S_spec_LateOrders.rm) (by kernel_rfl) (lookCons M_spec_orAsked (lookCons M_spec_orLate (lookCons M_spec_l1Put lookNil))) follows_mixed Tryz.func6 (by kernel_rfl) (by kernel_rfl) rfl
/-- loop.example/g01054/spec.juSum -/
@[reducible] noncomputable def c_spec_juSum : Cx := { K := [.dat 2, .no, .dat 0, .dat 0, .no, .dat 0, .dat 2, .dat 0, .dat 0, .dat 0, .dat 2, .dat 0, .dat 0, .dat 0, .dat 0, .dat 0, .dat 0], T := [(3, ty3), (24, ty24)], S := [], H := [(0, ([3, 6, 7, 8], [3]))], res := [.tmp 2], ios := [], G := gl0 }
noncomputable def F_spec_juSum : List D → Option Out := denF c_spec_juSum Tryz.f27
@[reducible] noncomputable def S_spec_juSum : FS := { pm := [.dat 2], rm := [.dat 0], f := F_spec_juSum }
theorem M_spec_juSum : Meets gl0 Tryz.prog 27 S_spec_juSum := meets_of (P := Tryz.prog) (c := c_spec_juSum) (fn := Tryz.f27) (pm := S_spec_juSum.pm) (rm := S_spec_juSum.rm) (by kernel_rfl) lookNil follows_mixed Tryz.func27 (by kernel_rfl) (by kernel_rfl) rfl
/-- loop.example/g01054/spec.TotalLateness -/
@[reducible] noncomputable def c_spec_TotalLateness : Cx := { K := [.dat 2, .dat 2, .no, .no, .dat 0, .dat 0, .dat 2, .dat 2, .dat 0, .dat 0, .dat 2, .dat 2, .dat 1, .dat 0], T := [], S := [(23, S_spec_orAsked), (24, S_spec_orLate), (27, S_spec_juSum)], H := [], res := [.tmp 4, .tmp 5], ios := [], G := gl0 }
noncomputable def F_spec_TotalLateness : List D → Option Out := denF c_spec_TotalLateness Tryz.f8
@[reducible] noncomputable def S_spec_TotalLateness : FS := { pm := [.dat 2, .dat 2], rm := [.dat 0, .dat 0], f := F_spec_TotalLateness }
theorem M_spec_TotalLateness : Meets gl0 Tryz.prog 8 S_spec_TotalLateness := meets_of (P := Tryz.prog) (c := c_spec_TotalLateness) (fn := Tryz.f8) (pm := S_spec_TotalLateness.pm) (rm := S_spec_TotalLateness.rm) (by kernel_rfl) (lookCons M_spec_orAsked (lookCons M_spec_orLate (lookCons M_spec_juSum lookNil))) follows_mixed Tryz.func8 (by kernel_rfl) (by kernel_rfl) rfl
/-- loop.example/g01054/spec.orSorted -/
@[reducible] noncomputable def c_spec_orSorted : Cx := { K := [.dat 2, .no, .dat 1, .dat 1, .dat 0, .dat 0, .dat 2, .dat 0, .dat 0, .dat 0, .dat 0, .dat 1, .dat 0, .dat 0, .dat 0, .dat 0, .dat 2, .dat 1, .dat 0, .dat 0, .dat 1, .dat 0, .dat 2, .dat 0, .dat 2, .dat 0, .dat 2, .dat 0, .dat 0, .dat 0, .dat 0, .dat 0, .own 1 0 false, .dat 1, .dat 0, .dat 1, .own 1 0 false, .dat 0, .dat 1, .own 1 0 false, .dat 1, .dat 0, .dat 1, .dat 1, .dat 0, .dat 1], T := [(3, ty3), (24, ty24)], S := [], H := [(0, ([0, 3, 7, 8], [3])), (2, ([0, 3, 4, 5, 7, 8], [0, 3, 4, 5, 7, 8]))], res := [.tmp 2], ios := [], G := gl0 }
noncomputable def F_spec_orSorted : List D → Option Out := denF c_spec_orSorted Tryz.f54
@[reducible] noncomputable def S_spec_orSorted : FS := { pm := [.dat 2], rm := [.dat 1], f := F_spec_orSorted }
theorem M_spec_orSorted : Meets gl0 Tryz.prog 54 S_spec_orSorted := meets_of (P := Tryz.prog) (c := c_spec_orSorted) (fn := Tryz.f54) (pm := S_spec_orSorted.pm) (rm := S_spec_orSorted.rm) (by kernel_rfl) lookNil follows_mixed Tryz.func54 (by kernel_rfl) (by kernel_rfl) rfl
/-- loop.example/g01054/spec.orByDue -/
@[reducible] noncomputable def c_spec_orByDue : Cx := { K := [.dat 2, .no, .dat 1, .own 1 0 false, .no, .box 4 0 false, .dat 2, .dat 0, .dat 0, .dat 0, .dat 2, .dat 0, .own 1 0 false, .ref 5, .dat 0, .dat 1, .own 1 0 false, .dat 0, .via 3, .dat 1], T := [(3, ty3), (23, ty23), (24, ty24), (34, ty34)], S := [(54, S_spec_orSorted)], H := [(0, ([3, 6, 7, 8], [3]))], res := [.tmp 2], ios := [], G := gl0 }
noncomputable def F_spec_orByDue : List D → Option Out := denF c_spec_orByDue Tryz.f31
@[reducible] noncomputable def S_spec_orByDue : FS := { pm := [.dat 2], rm := [.dat 1], f := F_spec_orByDue }
theorem M_spec_orByDue : Meets gl0 Tryz.prog 31 S_spec_orByDue := meets_of (P := Tryz.prog) (c := c_spec_orByDue) (fn := Tryz.f31) (pm := S_spec_orByDue.pm) (rm := S_spec_orByDue.rm) (by kernel_rfl) (lookCons M_spec_orSorted lookNil) follows_mixed Tryz.func31 (by kernel_rfl) (by kernel_rfl) rfl
/-- loop.example/g01054/spec.SequenceByDue -/
@[reducible] noncomputable def c_spec_SequenceByDue : Cx := { K := [.dat 2, .no, .dat 1, .dat 0, .dat 2, .dat 0, .dat 0, .dat 2, .dat 1], T := [(24, ty24)], S := [(30, S_spec_orGood), (31, S_spec_orByDue)], H := [], res := [.tmp 2, .tmp 3], ios := [], G := gl0 }
noncomputable def F_spec_SequenceByDue : List D → Option Out := denF c_spec_SequenceByDue Tryz.f10
@[reducible] noncomputable def S_spec_SequenceByDue : FS := { pm := [.dat 2], rm := [.dat 1, .dat 0], f := F_spec_SequenceByDue }
theorem M_spec_SequenceByDue : Meets gl0 Tryz.prog 10 S_spec_SequenceByDue := meets_of (P := Tryz.prog) (c := c_spec_SequenceByDue) (fn := Tryz.f10) (pm := S_spec_SequenceByDue.pm) (rm := S_spec_SequenceByDue.rm) (by kernel_rfl) (lookCons M_spec_orGood (lookCons M_spec_orByDue lookNil)) follows_mixed Tryz.func10 (by kernel_rfl) (by kernel_rfl) rfl
/-- loop.example/g01054/spec.orWorst -/
@[reducible] noncomputable def c_spec_orWorst : Cx := { K := [.dat 2, .dat 2, .no, .no, .dat 0, .dat 0, .no, .dat 0, .dat 2, .dat 2, .dat 1, .dat 0, .dat 0, .dat 0, .dat 1, .dat 0, .dat 0, .dat 0, .dat 0, .dat 0, .dat 0], T := [(3, ty3), (24, ty24)], S := [(24, S_spec_orLate), (49, S_spec_l1Most)], H := [(0, ([5, 10, 11, 12], [5]))], res := [.tmp 4], ios := [], G := gl0 }
noncomputable def F_spec_orWorst : List D → Option Out := denF c_spec_orWorst Tryz.f34
@[reducible] noncomputable def S_spec_orWorst : FS := { pm := [.dat 2, .dat 2], rm := [.dat 0], f := F_spec_orWorst }
theorem M_spec_orWorst : Meets gl0 Tryz.prog 34 S_spec_orWorst := meets_of (P := Tryz.prog) (c := c_spec_orWorst) (fn := Tryz.f34) (pm := S_spec_orWorst.pm) (rm := S_spec_orWorst.rm) (by kernel_rfl) (lookCons M_spec_orLate (lookCons M_spec_l1Most lookNil)) follows_mixed Tryz.func34 (by kernel_rfl) (by kernel_rfl) rfl
/-- loop.example/g01054/spec.tyLess -/
@[reducible] noncomputable def c_spec_tyLess : Cx := { K := [.dat 2, .dat 2, .no, .no, .dat 0, .dat 0, .dat 0, .dat 2, .dat 0, .dat 0, .dat 0, .dat 0, .dat 2, .dat 0, .dat 0, .dat 0, .dat 0, .dat 0, .dat 2, .dat 0, .dat 2, .dat 0, .dat 2, .dat 0, .dat 2, .dat 0, .dat 0, .dat 2, .dat 0, .dat 2, .dat 0, .dat 2, .dat 0, .dat 2, .dat 0, .dat 0, .dat 2, .dat 0, .dat 2, .dat 0, .dat 0], T := [(3, ty3), (24, ty24)], S := [], H := [(0, ([0, 1, 5], [0, 1]))], res := [.tmp 4], ios := [], G := gl0 }
noncomputable def F_spec_tyLess : List D → Option Out := denF c_spec_tyLess Tryz.f35
@[reducible] noncomputable def S_spec_tyLess : FS := { pm := [.dat 2, .dat 2], rm := [.dat 0], f := F_spec_tyLess }
theorem M_spec_tyLess : Meets gl0 Tryz.prog 35 S_spec_tyLess := meets_of (P := Tryz.prog) (c := c_spec_tyLess) (fn := Tryz.f35) (pm := S_spec_tyLess.pm) (rm := S_spec_tyLess.rm) (by kernel_rfl) lookNil follows_mixed Tryz.func35 (by kernel_rfl) (by kernel_rfl) rfl
/-- loop.example/g01054/spec.MostInTime -/
@[reducible] noncomputable def c_spec_MostInTime : Cx := { K := [.dat 2, .no, .dat 2, .dat 0, .dat 2, .dat 0, .dat 2, .own 1 0 false, .no, .dat 0, .dat 2, .dat 0, .dat 0, .dat 0, .dat 2, .dat 0, .dat 0, .dat 0, .dat 0, .dat 0, .dat 0, .dat 2, .dat 1, .dat 0, .dat 0, .dat 0, .dat 1, .dat 0, .dat 0, .dat 0, .dat 0, .dat 0, .dat 0, .dat 0, .own 1 0 false, .dat 0, .dat 1, .own 1 0 false, .dat 2, .dat 0, .dat 2, .dat 0, .dat 2, .via 7, .dat 0, .dat 0, .dat 0, .dat 2, .dat 0, .dat 2, .dat 0, .dat 0, .dat 0, .dat 2, .dat 0, .dat 2, .dat 0, .dat 0, .dat 0, .dat 2, .dat 2, .dat 0, .dat 0, .dat 0, .dat 0, .dat 2, .dat 2], T := [(3, ty3), (23, ty23), (24, ty24), (34, ty34), (49, ty49)], S := [(25, S_spec_l1Put), (30, S_spec_orGood), (31, S_spec_orByDue), (34, S_spec_orWorst), (35, S_spec_tyLess)], H := [(0, ([0, 4, 5], [4])), (2, ([0, 4, 5, 6, 7, 22, 23, 24], [0, 4, 5, 6, 7]))], res := [.tmp 2, .tmp 3], ios := [], G := gl0 }
noncomputable def F_spec_MostInTime : List D → Option Out := denF c_spec_MostInTime Tryz.f12
@[reducible] noncomputable def S_spec_MostInTime : FS := { pm := [.dat 2], rm := [.dat 2, .dat 0], f := F_spec_MostInTime }
theorem M_spec_MostInTime : Meets gl0 Tryz.prog 12 S_spec_MostInTime := meets_of (P := Tryz.prog) (c := c_spec_MostInTime) (fn := Tryz.f12) (pm := S_spec_MostInTime.pm) (rm := S_spec_MostInTime.rm) (by kernel_rfl) (lookCons M_spec_l1Put (lookCons M_spec_orGood (lookCons M_spec_orByDue (lookCons M_spec_orWorst (lookCons M_spec_tyLess lookNil))))) follows_mixed Tryz.func12 (by kernel_rfl) (by kernel_rfl) rfl
/-- loop.example/g01054/spec.DrawLeastLateness -/
@[reducible] noncomputable def c_spec_DrawLeastLateness : Cx := { K := [.dat 2, .no, .own 4 0 false, .ref 7, .own 4 0 false, .dat 2, .dat 2, .box 3 2 false, .ref 7, .own 4 0 false, .via 4, .dat 0, .dat 0, .dat 0, .ref 7, .dat 0, .dat 0, .dat 0, .own 4 0 false, .own 4 0 false, .own 4 0 false], T := [(3, ty3), (22, ty22), (23, ty23), (34, ty34), (52, ty52), (54, ty54)], S := [(36, S_spec_l1Cur_orders), (37, S_spec_l1Cur_one)], H := [], res := [.tmp 2], ios := [], G := gl0 }
noncomputable def F_spec_DrawLeastLateness : List D → Option Out := denF c_spec_DrawLeastLateness Tryz.f15
@[reducible] noncomputable def S_spec_DrawLeastLateness : FS := { pm := [.dat 2], rm := [.own 4 0 false], f := F_spec_DrawLeastLateness }
theorem M_spec_DrawLeastLateness : Meets gl0 Tryz.prog 15 S_spec_DrawLeastLateness := meets_of (P := Tryz.prog) (c := c_spec_DrawLeastLateness) (fn := Tryz.f15) (pm := S_spec_DrawLeastLateness.pm) (rm := S_spec_DrawLeastLateness.rm) (by kernel_rfl) (lookCons M_spec_l1Cur_orders (lookCons M_spec_l1Cur_one lookNil)) follows_mixed Tryz.func15 (by kernel_rfl) (by kernel_rfl) rfl
/-- loop.example/g01054/spec.l1Own -/
@[reducible] noncomputable def c_spec_l1Own : Cx := { K := [.dat 2, .no, .own 1 0 false, .own 1 0 false, .dat 2, .own 1 0 false], T := [(3, ty3), (24, ty24)], S := [], H := [], res := [.tmp 2], ios := [], G := gl0 }
noncomputable def F_spec_l1Own : List D → Option Out := denF c_spec_l1Own Tryz.f59
@[reducible] noncomputable def S_spec_l1Own : FS := { pm := [.dat 2], rm := [.own 1 0 false], f := F_spec_l1Own }
theorem M_spec_l1Own : Meets gl0 Tryz.prog 59 S_spec_l1Own := meets_of (P := Tryz.prog) (c := c_spec_l1Own) (fn := Tryz.f59) (pm := S_spec_l1Own.pm) (rm := S_spec_l1Own.rm) (by kernel_rfl) lookNil follows_mixed Tryz.func59 (by kernel_rfl) (by kernel_rfl) rfl
/-- loop.example/g01054/spec.orFirst -/
@[reducible] noncomputable def c_spec_orFirst (k : List D → Option Out) : Cx := { K := [.dat 2, .dat 2, .no, .no, .dat 2, .dat 0, .dat 2, .dat 0, .dat 0, .dat 1, .dat 2, .dat 0, .dat 2, .dat 0, .dat 2, .dat 0, .dat 0, .dat 2, .dat 2, .dat 2, .dat 0, .dat 2, .dat 0, .dat 0, .dat 0, .dat 0, .dat 2, .dat 0, .dat 0, .dat 2, .own 1 0 false, .dat 0, .dat 1, .dat 1, .dat 0, .dat 0, .dat 0, .dat 2, .dat 1, .dat 0, .dat 0, .dat 0, .dat 0, .tup [.dat 2, .dat 0], .dat 2, .dat 1, .tup [.dat 2, .dat 0], .dat 2, .dat 0, .dat 0, .dat 0, .dat 0, .dat 0, .dat 0, .dat 0, .dat 0, .dat 2, .dat 0, .dat 0, .dat 2, .dat 0], T := [(3, ty3), (23, ty23), (24, ty24), (34, ty34)], S := [(34, S_spec_orWorst), (41, { pm := [.dat 2, .dat 2], rm := [.dat 2, .dat 0], f := k }), (47, S_spec_l1Has), (59, S_spec_l1Own)], H := [(0, ([0, 1, 6, 7, 22, 23], [6, 7]))], res := [.tmp 4, .tmp 5], ios := [], G := gl0 }
noncomputable def R_spec_orFirst : Nat → List D → Option Out
  | 0, _ => none
  | n + 1, ds => denF (c_spec_orFirst (R_spec_orFirst n)) Tryz.f41 ds
noncomputable def F_spec_orFirst : List D → Option Out := R_spec_orFirst 9
@[reducible] noncomputable def S_spec_orFirst : FS := { pm := [.dat 2, .dat 2], rm := [.dat 2, .dat 0], f := F_spec_orFirst }
theorem MR_spec_orFirst : ∀ n : Nat, Meets gl0 Tryz.prog 41 { pm := [.dat 2, .dat 2], rm := [.dat 2, .dat 0], f := R_spec_orFirst n }
  | 0 => meets_none (fun _ => rfl)
  | n + 1 => by
    have ih := MR_spec_orFirst n
    exact meets_of (P := Tryz.prog) (c := c_spec_orFirst (R_spec_orFirst n)) (fn := Tryz.f41) (pm := S_spec_orFirst.pm) (rm := S_spec_orFirst.rm) (by kernel_rfl) (lookCons M_spec_orWorst (lookCons ih (lookCons M_spec_l1Has (lookCons M_spec_l1Own lookNil)))) follows_mixed Tryz.func41 (by kernel_rfl) (by kernel_rfl) rfl
theorem M_spec_orFirst : Meets gl0 Tryz.prog 41 S_spec_orFirst := MR_spec_orFirst 9
/-- loop.example/g01054/spec.LeastLateness -/
@[reducible] noncomputable def c_spec_LeastLateness : Cx := { K := [.dat 2, .no, .dat 2, .dat 0, .dat 0, .dat 2, .dat 0, .dat 2, .dat 0, .dat 0, .tup [.dat 2, .dat 0], .dat 2, .tup [.dat 2, .dat 0], .dat 2, .dat 0, .dat 2, .dat 0], T := [(24, ty24)], S := [(30, S_spec_orGood), (41, S_spec_orFirst)], H := [], res := [.tmp 2, .tmp 3, .tmp 4], ios := [], G := gl0 }
noncomputable def F_spec_LeastLateness : List D → Option Out := denF c_spec_LeastLateness Tryz.f17
@[reducible] noncomputable def S_spec_LeastLateness : FS := { pm := [.dat 2], rm := [.dat 2, .dat 0, .dat 0], f := F_spec_LeastLateness }
theorem M_spec_LeastLateness : Meets gl0 Tryz.prog 17 S_spec_LeastLateness := meets_of (P := Tryz.prog) (c := c_spec_LeastLateness) (fn := Tryz.f17) (pm := S_spec_LeastLateness.pm) (rm := S_spec_LeastLateness.rm) (by kernel_rfl) (lookCons M_spec_orGood (lookCons M_spec_orFirst lookNil)) follows_mixed Tryz.func17 (by kernel_rfl) (by kernel_rfl) rfl
/-- loop.example/g01054/impl.isOrder -/
@[reducible] noncomputable def c_impl_isOrder : Cx := { K := [.dat 0, .box 4 0 false, .dat 0, .ref 1, .dat 0, .dat 0, .dat 0, .ref 1, .dat 0, .dat 0, .dat 0, .dat 0, .ref 1, .dat 0, .dat 0, .dat 0, .dat 0, .ref 1, .dat 0, .dat 0, .dat 0], T := [(3, ty3), (34, ty34)], S := [(60, S_impl_within)], H := [], res := [.tmp 2], ios := [], G := gl0 }
noncomputable def F_impl_isOrder : List D → Option Out := denF c_impl_isOrder Tryz.f50
@[reducible] noncomputable def S_impl_isOrder : FS := { pm := [.dat 0], rm := [.dat 0], f := F_impl_isOrder }
theorem M_impl_isOrder : Meets gl0 Tryz.prog 50 S_impl_isOrder := meets_of (P := Tryz.prog) (c := c_impl_isOrder) (fn := Tryz.f50) (pm := S_impl_isOrder.pm) (rm := S_impl_isOrder.rm) (by kernel_rfl) (lookCons M_impl_within lookNil) follows_mixed Tryz.func50 (by kernel_rfl) (by kernel_rfl) rfl
/-- loop.example/g01054/impl.AreOrders -/
@[reducible] noncomputable def c_impl_AreOrders : Cx := { K := [.dat 2, .no, .dat 0, .dat 0, .box 4 0 false, .dat 2, .dat 0, .dat 0, .dat 0, .dat 0, .dat 2, .dat 0, .dat 0, .dat 0, .dat 0, .dat 0, .dat 0, .dat 0, .dat 0, .dat 2, .dat 0, .dat 0, .dat 2, .dat 2, .dat 0, .ref 4, .dat 0, .dat 0, .dat 0, .dat 0, .dat 0, .dat 2, .dat 0, .dat 0], T := [(3, ty3), (23, ty23), (34, ty34)], S := [(50, S_impl_isOrder)], H := [(0, ([0, 5, 6, 7], [0]))], res := [.tmp 2], ios := [], G := gl0 }
noncomputable def F_impl_AreOrders : List D → Option Out := denF c_impl_AreOrders Tryz.f28
@[reducible] noncomputable def S_impl_AreOrders : FS := { pm := [.dat 2], rm := [.dat 0], f := F_impl_AreOrders }
theorem M_impl_AreOrders : Meets gl0 Tryz.prog 28 S_impl_AreOrders := meets_of (P := Tryz.prog) (c := c_impl_AreOrders) (fn := Tryz.f28) (pm := S_impl_AreOrders.pm) (rm := S_impl_AreOrders.rm) (by kernel_rfl) (lookCons M_impl_isOrder lookNil) follows_mixed Tryz.func28 (by kernel_rfl) (by kernel_rfl) rfl
/-- loop.example/g01054/impl.isSequence -/
@[reducible] noncomputable def c_impl_isSequence : Cx := { K := [.dat 2, .dat 2, .no, .no, .dat 0, .dat 2, .dat 0, .dat 0, .dat 2, .dat 0, .dat 2, .dat 0, .dat 0, .dat 0, .dat 0, .dat 2, .dat 2, .dat 0, .dat 0, .dat 0], T := [(3, ty3), (23, ty23), (24, ty24), (34, ty34)], S := [(28, S_impl_AreOrders), (44, S_impl_isDifferent)], H := [], res := [.tmp 4], ios := [], G := gl0 }
noncomputable def F_impl_isSequence : List D → Option Out := denF c_impl_isSequence Tryz.f20
@[reducible] noncomputable def S_impl_isSequence : FS := { pm := [.dat 2, .dat 2], rm := [.dat 0], f := F_impl_isSequence }
theorem M_impl_isSequence : Meets gl0 Tryz.prog 20 S_impl_isSequence := meets_of (P := Tryz.prog) (c := c_impl_isSequence) (fn := Tryz.f20) (pm := S_impl_isSequence.pm) (rm := S_impl_isSequence.rm) (by kernel_rfl) (lookCons M_impl_AreOrders (lookCons M_impl_isDifferent lookNil)) follows_mixed Tryz.func20 (by kernel_rfl) (by kernel_rfl) rfl
/-- loop.example/g01054/impl.finished -/
@[reducible] noncomputable def c_impl_finished : Cx := { K := [.dat 2, .dat 2, .no, .no, .own 1 0 false, .own 1 0 false, .dat 0, .dat 0, .no, .dat 0, .own 1 0 false, .dat 2, .dat 0, .dat 0, .dat 0, .dat 2, .dat 0, .dat 0, .dat 2, .dat 0, .dat 2, .dat 2, .dat 0, .dat 0, .dat 0, .dat 0, .dat 0, .dat 2, .dat 0, .dat 2, .dat 2, .dat 0, .dat 0, .own 1 0 false, .dat 0, .dat 1, .own 1 0 false, .dat 0, .own 1 0 false], T := [(3, ty3), (23, ty23), (24, ty24), (34, ty34)], S := [], H := [(0, ([0, 5, 6, 7, 11, 12, 13], [5]))], res := [.tmp 4], ios := [], G := gl0 }
noncomputable def F_impl_finished : List D → Option Out := denF c_impl_finished Tryz.f42
@[reducible] noncomputable def S_impl_finished : FS := { pm := [.dat 2, .dat 2], rm := [.own 1 0 false], f := F_impl_finished }
theorem M_impl_finished : Meets gl0 Tryz.prog 42 S_impl_finished := meets_of (P := Tryz.prog) (c := c_impl_finished) (fn := Tryz.f42) (pm := S_impl_finished.pm) (rm := S_impl_finished.rm) (by kernel_rfl) lookNil follows_mixed Tryz.func42 (by kernel_rfl) (by kernel_rfl) rfl
/-- loop.example/g01054/impl.lateness -/
@[reducible] noncomputable def c_impl_lateness : Cx := { K := [.dat 2, .dat 2, .no, .no, .own 1 0 false, .own 1 0 false, .dat 0, .dat 0, .own 1 0 false, .dat 2, .dat 2, .dat 1, .dat 0, .dat 0, .dat 0, .dat 0, .dat 1, .dat 0, .own 1 0 false, .dat 0, .dat 2, .dat 2, .dat 0, .dat 2, .dat 0, .dat 2, .dat 2, .dat 0, .dat 0, .dat 0, .dat 1, .own 1 0 false, .dat 0, .own 1 0 false], T := [(3, ty3), (23, ty23), (24, ty24), (34, ty34)], S := [(42, S_impl_finished)], H := [(0, ([0, 1, 5, 11, 12, 13], [5]))], res := [.tmp 4], ios := [], G := gl0 }
noncomputable def F_impl_lateness : List D → Option Out := denF c_impl_lateness Tryz.f21
@[reducible] noncomputable def S_impl_lateness : FS := { pm := [.dat 2, .dat 2], rm := [.own 1 0 false], f := F_impl_lateness }
theorem M_impl_lateness : Meets gl0 Tryz.prog 21 S_impl_lateness := meets_of (P := Tryz.prog) (c := c_impl_lateness) (fn := Tryz.f21) (pm := S_impl_lateness.pm) (rm := S_impl_lateness.rm) (by kernel_rfl) (lookCons M_impl_finished lookNil) follows_mixed Tryz.func21 (by kernel_rfl) (by kernel_rfl) rfl
/-- loop.example/g01054/impl.sum -/
@[reducible] noncomputable def c_impl_sum : Cx := { K := [.dat 2, .no, .dat 0, .dat 0, .no, .dat 0, .dat 2, .dat 0, .dat 0, .dat 0, .dat 2, .dat 0, .dat 0, .dat 0, .dat 0, .dat 0, .dat 0], T := [(3, ty3), (24, ty24)], S := [], H := [(0, ([3, 6, 7, 8], [3]))], res := [.tmp 2], ios := [], G := gl0 }
noncomputable def F_impl_sum : List D → Option Out := denF c_impl_sum Tryz.f26
@[reducible] noncomputable def S_impl_sum : FS := { pm := [.dat 2], rm := [.dat 0], f := F_impl_sum }
theorem M_impl_sum : Meets gl0 Tryz.prog 26 S_impl_sum := meets_of (P := Tryz.prog) (c := c_impl_sum) (fn := Tryz.f26) (pm := S_impl_sum.pm) (rm := S_impl_sum.rm) (by kernel_rfl) lookNil follows_mixed Tryz.func26 (by kernel_rfl) (by kernel_rfl) rfl
/-- loop.example/g01054/impl.TotalLateness -/
@[reducible] noncomputable def c_impl_TotalLateness : Cx := { K := [.dat 2, .dat 2, .no, .no, .dat 0, .dat 0, .dat 2, .dat 2, .dat 0, .dat 0, .dat 2, .dat 2, .dat 1, .dat 0], T := [], S := [(20, S_impl_isSequence), (21, S_impl_lateness), (26, S_impl_sum)], H := [], res := [.tmp 4, .tmp 5], ios := [], G := gl0 }
noncomputable def F_impl_TotalLateness : List D → Option Out := denF c_impl_TotalLateness Tryz.f7
@[reducible] noncomputable def S_impl_TotalLateness : FS := { pm := [.dat 2, .dat 2], rm := [.dat 0, .dat 0], f := F_impl_TotalLateness }
theorem M_impl_TotalLateness : Meets gl0 Tryz.prog 7 S_impl_TotalLateness := meets_of (P := Tryz.prog) (c := c_impl_TotalLateness) (fn := Tryz.f7) (pm := S_impl_TotalLateness.pm) (rm := S_impl_TotalLateness.rm) (by kernel_rfl) (lookCons M_impl_isSequence (lookCons M_impl_lateness (lookCons M_impl_sum lookNil))) follows_mixed Tryz.func7 (by kernel_rfl) (by kernel_rfl) rfl
/-- loop.example/g01054/impl.FinishTimes -/
@[reducible] noncomputable def c_impl_FinishTimes : Cx := { K := [.dat 2, .dat 2, .no, .no, .own 1 0 false, .dat 0, .dat 2, .dat 2, .dat 0, .dat 0, .own 1 0 false, .dat 2, .dat 2, .own 1 0 false], T := [(3, ty3), (24, ty24)], S := [(20, S_impl_isSequence), (42, S_impl_finished)], H := [], res := [.tmp 4, .tmp 5], ios := [], G := gl0 }
noncomputable def F_impl_FinishTimes : List D → Option Out := denF c_impl_FinishTimes Tryz.f18
@[reducible] noncomputable def S_impl_FinishTimes : FS := { pm := [.dat 2, .dat 2], rm := [.own 1 0 false, .dat 0], f := F_impl_FinishTimes }
theorem M_impl_FinishTimes : Meets gl0 Tryz.prog 18 S_impl_FinishTimes := meets_of (P := Tryz.prog) (c := c_impl_FinishTimes) (fn := Tryz.f18) (pm := S_impl_FinishTimes.pm) (rm := S_impl_FinishTimes.rm) (by kernel_rfl) (lookCons M_impl_isSequence (lookCons M_impl_finished lookNil)) follows_mixed Tryz.func18 (by kernel_rfl) (by kernel_rfl) rfl
/-- loop.example/g01054/impl.hasNumber -/
@[reducible] noncomputable def c_impl_hasNumber : Cx := { K := [.dat 2, .dat 0, .no, .no, .dat 0, .no, .dat 0, .dat 2, .dat 0, .dat 0, .dat 0, .dat 2, .dat 0, .dat 0, .dat 0, .dat 0, .dat 0], T := [(3, ty3), (24, ty24)], S := [], H := [(0, ([1, 7, 8, 9], []))], res := [.tmp 4], ios := [], G := gl0 }
noncomputable def F_impl_hasNumber : List D → Option Out := denF c_impl_hasNumber Tryz.f33
@[reducible] noncomputable def S_impl_hasNumber : FS := { pm := [.dat 2, .dat 0], rm := [.dat 0], f := F_impl_hasNumber }
theorem M_impl_hasNumber : Meets gl0 Tryz.prog 33 S_impl_hasNumber := meets_of (P := Tryz.prog) (c := c_impl_hasNumber) (fn := Tryz.f33) (pm := S_impl_hasNumber.pm) (rm := S_impl_hasNumber.rm) (by kernel_rfl) lookNil follows_mixed Tryz.func33 (by kernel_rfl) (by kernel_rfl) rfl
/-- loop.example/g01054/impl.greatest -/
@[reducible] noncomputable def c_impl_greatest : Cx := { K := [.dat 2, .no, .dat 0, .dat 0, .no, .dat 0, .dat 2, .dat 0, .dat 0, .dat 0, .dat 2, .dat 0, .dat 0, .dat 0, .dat 0, .dat 0, .dat 0], T := [(3, ty3), (24, ty24)], S := [], H := [(0, ([3, 6, 7, 8], [3]))], res := [.tmp 2], ios := [], G := gl0 }
noncomputable def F_impl_greatest : List D → Option Out := denF c_impl_greatest Tryz.f40
@[reducible] noncomputable def S_impl_greatest : FS := { pm := [.dat 2], rm := [.dat 0], f := F_impl_greatest }
theorem M_impl_greatest : Meets gl0 Tryz.prog 40 S_impl_greatest := meets_of (P := Tryz.prog) (c := c_impl_greatest) (fn := Tryz.f40) (pm := S_impl_greatest.pm) (rm := S_impl_greatest.rm) (by kernel_rfl) lookNil follows_mixed Tryz.func40 (by kernel_rfl) (by kernel_rfl) rfl
/-- loop.example/g01054/laws.qInts -/
@[reducible] noncomputable def c_laws_qInts : Cx := { K := [.dat 2, .dat 2, .no, .no, .dat 0, .dat 0, .dat 2, .dat 0, .dat 2, .dat 0, .dat 0, .dat 2, .dat 0, .dat 0, .dat 0, .dat 0, .dat 2, .dat 0, .dat 2, .dat 0, .dat 2, .dat 0, .dat 2, .dat 0, .dat 0, .dat 0], T := [(3, ty3), (24, ty24)], S := [], H := [(0, ([0, 1, 12, 13], []))], res := [.tmp 4], ios := [], G := gl0 }
noncomputable def F_laws_qInts : List D → Option Out := denF c_laws_qInts Tryz.f13
@[reducible] noncomputable def S_laws_qInts : FS := { pm := [.dat 2, .dat 2], rm := [.dat 0], f := F_laws_qInts }
theorem M_laws_qInts : Meets gl0 Tryz.prog 13 S_laws_qInts := meets_of (P := Tryz.prog) (c := c_laws_qInts) (fn := Tryz.f13) (pm := S_laws_qInts.pm) (rm := S_laws_qInts.rm) (by kernel_rfl) lookNil follows_mixed Tryz.func13 (by kernel_rfl) (by kernel_rfl) rfl
/-- loop.example/g01054/laws.qHas -/
@[reducible] noncomputable def c_laws_qHas : Cx := { K := [.dat 2, .dat 0, .no, .no, .dat 0, .no, .dat 0, .dat 2, .dat 0, .dat 0, .dat 0, .dat 2, .dat 0, .dat 0, .dat 0, .dat 0, .dat 0], T := [(3, ty3), (24, ty24)], S := [], H := [(0, ([1, 7, 8, 9], []))], res := [.tmp 4], ios := [], G := gl0 }
noncomputable def F_laws_qHas : List D → Option Out := denF c_laws_qHas Tryz.f14
@[reducible] noncomputable def S_laws_qHas : FS := { pm := [.dat 2, .dat 0], rm := [.dat 0], f := F_laws_qHas }
theorem M_laws_qHas : Meets gl0 Tryz.prog 14 S_laws_qHas := meets_of (P := Tryz.prog) (c := c_laws_qHas) (fn := Tryz.f14) (pm := S_laws_qHas.pm) (rm := S_laws_qHas.rm) (by kernel_rfl) lookNil follows_mixed Tryz.func14 (by kernel_rfl) (by kernel_rfl) rfl
end Go.Proofs.YtaphcpfkgpaefaaGreat
