/-
  What is known of the types, checked; and what the operations on data do when they are run.
-/
import Derived.Test.YtfjkapnonljdeaaDoorVd
namespace Go.V
open Go.RowKit

/-! ### types -/
def zeroOk : List D → List Value → Bool
  | [], [] => true
  | .v (.int k a) :: l, .int k' b :: m => k == k' && a == b && zeroOk l m
  | .v (.bool a) :: l, .bool b :: m => a == b && zeroOk l m
  | .v (.string a) :: l, .string b :: m => a.data.toList == b.data.toList && zeroOk l m
  | .v .nilFunc :: l, .nilFunc :: m => zeroOk l m
  | .v .nilIface :: l, .nilIface :: m => zeroOk l m
  | .v (.pointer none) :: l, .pointer none :: m => zeroOk l m
  | .arr _ [] :: l, .slice none 0 0 :: m => zeroOk l m
  | _, _ => false

def fsOk (P : Program) : List Field → List (Nat × Nat) → Bool
  | [], [] => true
  | f :: fs, (o, t) :: l => f.offset == o && f.type == t && (match P.info? t with
    | some x => x.size != 0
    | none => false) && fsOk P fs l
  | _, _ => false

def scOk (P : Program) (t c : Nat) : Bool :=
  match P.underlying t with
  | some (.int _) => c == 1
  | some .bool => c == 2
  | some .string => c == 3
  | _ => false
def eqOk (P : Program) : Nat → List Field → List Nat → Bool
  | _, [], [] => true
  | n, f :: fs, c :: cs => f.name != "_" && f.offset == n && scOk P f.type c && eqOk P (n + 1) fs cs
  | _, _, _ => false

def aggZero : Value → Bool
  | .agg _ => true
  | _ => false

def tiChk (P : Program) (t : Nat) (i : TI) : Bool :=
  match P.info? t, P.underlying t with
  | some x, some u =>
    (!i.ifc || (match u with
      | .interface _ => true
      | _ => false)) && x.size == i.n && (match x.zero with
      | some z => zeroOk i.zero z.cells.toList && aggZero z == i.agg && i.zero.length == i.n
      | none => false) &&
    (match u with
      | .struct fs => i.agg && i.alen == 0 && i.ez == 0 && i.ik == none && !i.str && !i.bl && fsOk P fs.toList i.fs &&
          (i.eq == [] || (eqOk P 0 fs.toList i.eq && fs.size == i.n && !P.eqGuardType P.depth t && !P.stoodInHeld t))
      | .array n e => i.agg && i.alen == n && n != 0 && i.elem == e && i.fs == [] && i.ik == none && !i.str && !i.bl && i.eq == [] && (match P.info? e with
        | some y => y.size == i.ez && y.size != 0
        | none => false) && i.n == n * i.ez
      | .slice e => !i.agg && i.alen == 0 && i.elem == e && i.fs == [] && i.ik == none && !i.str && !i.bl && i.eq == [] && (match P.info? e with
        | some y => y.size == i.ez && y.size != 0 && y.bytes == i.eb && y.bytes != 0
        | none => false)
      | .int k => !i.agg && i.alen == 0 && i.ez == 0 && i.fs == [] && i.ik == some k && !i.str && !i.bl && i.eq == []
      | .string => !i.agg && i.alen == 0 && i.ez == 0 && i.fs == [] && i.ik == none && i.str && !i.bl && i.eq == []
      | .bool => !i.agg && i.alen == 0 && i.ez == 0 && i.fs == [] && i.ik == none && !i.str && i.bl && i.eq == []
      | _ => !i.agg && i.alen == 0 && i.ez == 0 && i.fs == [] && i.ik == none && !i.str && !i.bl && i.eq == [])
  | _, _ => false

def okT (P : Program) : List (Nat × TI) → Bool
  | [] => true
  | (t, i) :: l => tiChk P t i && okT P l

theorem look_mem {α : Type} : ∀ (l : List (Nat × α)) (n : Nat) (a : α), look l n = some a → (n, a) ∈ l
  | [], _, _, h => by simp [look] at h
  | (k, b) :: l, n, a, h => by
    simp only [look] at h
    split at h
    · rename_i hb
      have : k = n := Nat.eq_of_beq_eq_true hb
      subst this
      cases h
      simp
    · exact List.mem_cons_of_mem _ (look_mem l n a h)

theorem okT_look {P : Program} {T : List (Nat × TI)} (h : okT P T = true) {t : Nat} {i : TI} (hl : look T t = some i) : tiChk P t i = true := by
  have := look_mem T t i hl
  clear hl
  induction T with
  | nil => cases this
  | cons p T ih =>
    obtain ⟨t', i'⟩ := p
    simp only [okT, Bool.and_eq_true] at h
    rcases List.mem_cons.1 this with e | e
    · cases e; exact h.1
    · exact ih h.2 e

/-- What the check gives. -/
structure TOk (P : Program) (t : Nat) (i : TI) : Prop where
  info : ∃ x z, P.info? t = some x ∧ x.size = i.n ∧ x.zero = some z ∧ zeroOk i.zero z.cells.toList = true ∧ aggZero z = i.agg
  zl : i.zero.length = i.n
  und : (P.underlying t).isSome = true
  agg : ∀ w : World, (isAgg t).run P w = .ok i.agg w
  sl : i.ez ≠ 0 → i.alen = 0 → P.underlying t = some (.slice i.elem) ∧ i.agg = false ∧ 0 < i.ez ∧ 0 < i.eb ∧ ∃ y, P.info? i.elem = some y ∧ y.size = i.ez ∧ y.bytes = i.eb
  ar : i.alen ≠ 0 → P.underlying t = some (.array i.alen i.elem) ∧ i.agg = true ∧ 0 < i.ez ∧ i.n = i.alen * i.ez ∧ ∃ y, P.info? i.elem = some y ∧ y.size = i.ez
  fs : ∀ (f : Nat) (o ty : Nat), i.fs[f]? = some (o, ty) → ∃ fs fl, P.underlying t = some (.struct fs) ∧ fs[f]? = some fl ∧ fl.offset = o ∧ fl.type = ty ∧ i.agg = true ∧ ∃ y, P.info? ty = some y ∧ y.size ≠ 0
  st : i.agg = true → i.alen = 0 → ∃ fs, P.underlying t = some (.struct fs) ∧ fsOk P fs.toList i.fs = true
  eq : i.eq ≠ [] → ∃ fs, P.underlying t = some (.struct fs) ∧ eqOk P 0 fs.toList i.eq = true ∧ fs.size = i.n ∧ P.eqGuardType P.depth t = false ∧ P.stoodInHeld t = false
  ik : ∀ k, i.ik = some k → P.underlying t = some (.int k)
  str : i.str = true → P.underlying t = some .string ∧ i.ez = 0 ∧ i.alen = 0
  bl : i.bl = true → P.underlying t = some .bool
  ifc : i.ifc = true → ∃ ms, P.underlying t = some (.interface ms)

theorem fsOk_get {P : Program} : ∀ (fs : List Field) (l : List (Nat × Nat)), fsOk P fs l = true → ∀ (f o ty : Nat), l[f]? = some (o, ty) → ∃ fl, fs[f]? = some fl ∧ fl.offset = o ∧ fl.type = ty ∧ ∃ y, P.info? ty = some y ∧ y.size ≠ 0
  | [], [], _, f, o, ty, h => by simp at h
  | g :: fs, (o', t') :: l, hk, f, o, ty, h => by
    simp only [fsOk, Bool.and_eq_true, beq_iff_eq] at hk
    obtain ⟨⟨⟨h1, h2⟩, h3⟩, h4⟩ := hk
    cases f with
    | zero =>
      simp at h
      obtain ⟨rfl, rfl⟩ := h
      refine ⟨g, rfl, h1, h2, ?_⟩
      split at h3
      · rename_i x hx; exact ⟨x, hx, by simpa using h3⟩
      · cases h3
    | succ f => exact fsOk_get fs l h4 f o ty (by simpa using h)
  | [], _ :: _, hk, _, _, _, _ => by simp [fsOk] at hk
  | _ :: _, [], hk, _, _, _, _ => by simp [fsOk] at hk

def isAggB : TypeDesc → Bool
  | .struct _ => true
  | .array _ _ => true
  | _ => false

theorem tiChk_ok {P : Program} {t : Nat} {i : TI} (h : tiChk P t i = true) : TOk P t i := by
  unfold tiChk at h
  split at h
  case h_2 => cases h
  case h_1 x u hx hu =>
    simp only [Bool.and_eq_true] at h
    obtain ⟨⟨⟨hif, hn⟩, hz⟩, hk⟩ := h
    have hifc : i.ifc = true → ∃ ms, P.underlying t = some (.interface ms) := by
      intro e
      rw [e] at hif
      simp only [Bool.not_true, Bool.false_or] at hif
      split at hif
      · rename_i ms; exact ⟨ms, hu⟩
      · cases hif
    clear hif
    have hinfo : ∃ x z, P.info? t = some x ∧ x.size = i.n ∧ x.zero = some z ∧ zeroOk i.zero z.cells.toList = true ∧ aggZero z = i.agg := by
      split at hz
      · rename_i z hzz
        simp only [Bool.and_eq_true, beq_iff_eq] at hz
        exact ⟨x, z, hx, by simpa using hn, hzz, hz.1.1, hz.1.2⟩
      · cases hz
    have hzl : i.zero.length = i.n := by
      split at hz
      · simp only [Bool.and_eq_true, beq_iff_eq] at hz
        exact hz.2
      · cases hz
    have hund : (P.underlying t).isSome = true := by rw [hu]; rfl
    have hagg : ∀ (w : World) (b : Bool), isAggB u = b → (isAgg t).run P w = .ok b w := by
      intro w b hb
      subst hb
      simp only [isAgg, Sem.run_bind, run_underlying hu, Result.andThen_ok]
      cases u <;> rfl
    have mk : ∀ (b : Bool), isAggB u = false → i.agg = false → i.alen = 0 → i.ez = 0 → i.fs = [] → i.eq = [] →
        (∀ k, i.ik = some k → P.underlying t = some (.int k)) → (i.str = true → P.underlying t = some .string) → (i.bl = true → P.underlying t = some .bool) → TOk P t i := by
      intro _ hb a1 a2 a3 a4 a5 a6 a7 a8
      exact ⟨hinfo, hzl, hund, fun w => hagg w _ (hb.trans a1.symm), fun h => absurd a3 h, fun h => absurd a2 h, fun f o ty hf => by (rw [a4] at hf; simp at hf), fun h => by (rw [a1] at h; cases h), fun h => absurd a5 h, a6, fun h => ⟨a7 h, a3, a2⟩, a8, hifc⟩
    have other : (!i.agg && i.alen == 0 && i.ez == 0 && i.fs == [] && i.ik == none && !i.str && !i.bl && i.eq == []) = true →
        (i.agg = false → i.alen = 0 → i.ez = 0 → i.fs = [] → i.eq = [] → (∀ k, i.ik = some k → P.underlying t = some (.int k)) → (i.str = true → P.underlying t = some .string) → (i.bl = true → P.underlying t = some .bool) → TOk P t i) → TOk P t i := by
      intro hk mk
      simp only [Bool.and_eq_true, Bool.not_eq_true', beq_iff_eq] at hk
      obtain ⟨⟨⟨⟨⟨⟨⟨a1, a2⟩, a3⟩, a4⟩, a5⟩, a6⟩, a7⟩, a8⟩ := hk
      exact mk a1 a2 a3 a4 a8 (fun k' hk => by (rw [a5] at hk; cases hk)) (fun h => by (rw [a6] at h; cases h)) (fun h => by (rw [a7] at h; cases h))
    clear hz hn
    match u, hu, hk, hagg, mk with
    | .struct fs, hu, hk, hagg, _ =>
      simp only [Bool.and_eq_true, Bool.not_eq_true', beq_iff_eq] at hk
      obtain ⟨⟨⟨⟨⟨⟨⟨a1, a2⟩, a3⟩, a4⟩, a5⟩, a6⟩, a7⟩, a8⟩ := hk
      refine ⟨hinfo, hzl, hund, fun w => hagg w _ a1.symm, fun h => absurd a3 h, fun h => absurd a2 h, fun f o ty hf => ?_, fun _ _ => ⟨fs, hu, a7⟩, fun he => ?_, fun k hk => by (rw [a4] at hk; cases hk), fun h => by (rw [a5] at h; cases h), fun h => by (rw [a6] at h; cases h), hifc⟩
      · obtain ⟨fl, h1, h2, h3, h4⟩ := fsOk_get _ _ a7 f o ty hf
        exact ⟨fs, fl, hu, by simpa using h1, h2, h3, a1, h4⟩
      · simp only [Bool.or_eq_true, beq_iff_eq, Bool.and_eq_true, Bool.not_eq_true'] at a8
        rcases a8 with a8 | a8
        · exact absurd a8 he
        · exact ⟨fs, hu, a8.1.1.1, a8.1.1.2, a8.1.2, a8.2⟩
    | .array n e, hu, hk, hagg, _ =>
      simp only [Bool.and_eq_true, Bool.not_eq_true', beq_iff_eq, bne_iff_ne, ne_eq] at hk
      obtain ⟨⟨⟨⟨⟨⟨⟨⟨⟨⟨a1, a2⟩, a3⟩, a4⟩, a5⟩, a6⟩, a7⟩, a8⟩, a9⟩, a10⟩, a11⟩ := hk
      refine ⟨hinfo, hzl, hund, fun w => hagg w _ a1.symm, fun _ h => absurd (a2 ▸ h) a3, fun _ => ?_, fun f o ty hf => by (rw [a5] at hf; simp at hf), fun _ h => absurd (a2 ▸ h) a3, fun h => absurd a9 h, fun k hk => by (rw [a6] at hk; cases hk), fun h => by (rw [a7] at h; cases h), fun h => by (rw [a8] at h; cases h), hifc⟩
      split at a10
      · rename_i y hy
        simp only [Bool.and_eq_true, beq_iff_eq, bne_iff_ne, ne_eq] at a10
        refine ⟨by rw [hu, a2, a4], a1, by omega, by rw [a2]; exact a11, y, by rw [a4]; exact hy, a10.1⟩
      · cases a10
    | .slice e, hu, hk, hagg, _ =>
      simp only [Bool.and_eq_true, Bool.not_eq_true', beq_iff_eq] at hk
      obtain ⟨⟨⟨⟨⟨⟨⟨⟨a1, a2⟩, a3⟩, a4⟩, a5⟩, a6⟩, a7⟩, a8⟩, a9⟩ := hk
      refine ⟨hinfo, hzl, hund, fun w => hagg w _ a1.symm, fun _ _ => ?_, fun h => absurd a2 h, fun f o ty hf => by (rw [a4] at hf; simp at hf), fun h => by (rw [a1] at h; cases h), fun h => absurd a8 h, fun k hk => by (rw [a5] at hk; cases hk), fun h => by (rw [a6] at h; cases h), fun h => by (rw [a7] at h; cases h), hifc⟩
      split at a9
      · rename_i y hy
        simp only [Bool.and_eq_true, beq_iff_eq, bne_iff_ne, ne_eq] at a9
        obtain ⟨⟨⟨b1, b2⟩, b3⟩, b4⟩ := a9
        exact ⟨by rw [hu, a3], a1, by omega, by omega, y, by rw [a3]; exact hy, b1, b3⟩
      · cases a9
    | .int k, hu, hk, _, mk =>
      simp only [Bool.and_eq_true, Bool.not_eq_true', beq_iff_eq] at hk
      obtain ⟨⟨⟨⟨⟨⟨⟨a1, a2⟩, a3⟩, a4⟩, a5⟩, a6⟩, a7⟩, a8⟩ := hk
      exact mk true rfl a1 a2 a3 a4 a8 (fun k' hk => by rw [a5] at hk; cases hk; exact hu) (fun h => by rw [a6] at h; cases h) (fun h => by rw [a7] at h; cases h)
    | .string, hu, hk, _, mk =>
      simp only [Bool.and_eq_true, Bool.not_eq_true', beq_iff_eq] at hk
      obtain ⟨⟨⟨⟨⟨⟨⟨a1, a2⟩, a3⟩, a4⟩, a5⟩, a6⟩, a7⟩, a8⟩ := hk
      exact mk true rfl a1 a2 a3 a4 a8 (fun k' hk => by rw [a5] at hk; cases hk) (fun _ => hu) (fun h => by rw [a7] at h; cases h)
    | .bool, hu, hk, _, mk =>
      simp only [Bool.and_eq_true, Bool.not_eq_true', beq_iff_eq] at hk
      obtain ⟨⟨⟨⟨⟨⟨⟨a1, a2⟩, a3⟩, a4⟩, a5⟩, a6⟩, a7⟩, a8⟩ := hk
      exact mk true rfl a1 a2 a3 a4 a8 (fun k' hk => by rw [a5] at hk; cases hk) (fun h => by rw [a6] at h; cases h) (fun _ => hu)
    | .invalid, _, hk, _, mk => exact other hk (mk true rfl)
    | .float _, _, hk, _, mk => exact other hk (mk true rfl)
    | .complex _, _, hk, _, mk => exact other hk (mk true rfl)
    | .unsafePointer, _, hk, _, mk => exact other hk (mk true rfl)
    | .pointer _, _, hk, _, mk => exact other hk (mk true rfl)
    | .map _ _, _, hk, _, mk => exact other hk (mk true rfl)
    | .chan _ _, _, hk, _, mk => exact other hk (mk true rfl)
    | .func _ _ _, _, hk, _, mk => exact other hk (mk true rfl)
    | .interface _, _, hk, _, mk => exact other hk (mk true rfl)
    | .tuple _, _, hk, _, mk => exact other hk (mk true rfl)
    | .named _ _, _, hk, _, mk => exact other hk (mk true rfl)

theorem TOk.size {P : Program} {t : Nat} {i : TI} (h : TOk P t i) (w : World) : (sizeOf t).run P w = .ok i.n w := by
  obtain ⟨x, z, hx, hn, _⟩ := h.info
  simp [sizeOf, typeInfo, hx, hn]
theorem run_sizeOf {P : Program} {e : Nat} {y : TypeInfo} (h : P.info? e = some y) (w : World) : (sizeOf e).run P w = .ok y.size w := by simp [sizeOf, typeInfo, h]

theorem RepC_v {w : World} {F : Nat → Prop} {x : Value} (h : flat x = true) : RepC w F (.v x) [x] := by simp only [RepC]; exact ⟨trivial, h⟩
theorem RepC_nil {w : World} {F : Nat → Prop} {z : Nat} : RepC w F (.arr z []) [.slice none 0 0] := by
  simp only [RepC]
  exact ⟨none, 0, [], rfl, Nat.le_refl _, RepL_nil.2 rfl, fun d hd => (List.not_mem_nil hd).elim, fun h => absurd rfl h⟩

/-- The zero value. -/
theorem zeroOk_rep {w : World} {F : Nat → Prop} : ∀ (l : List D) (vs : List Value), zeroOk l vs = true → RepL w F l vs ∧ l.all D.single = true
  | [], [], _ => ⟨RepL_nil.2 rfl, rfl⟩
  | .v (.int k a) :: l, .int k' b :: m, h => by
    simp only [zeroOk, Bool.and_eq_true, beq_iff_eq] at h
    obtain ⟨⟨rfl, rfl⟩, h⟩ := h
    obtain ⟨g1, g2⟩ := zeroOk_rep (w := w) (F := F) l m h
    exact ⟨RepL_cons.2 ⟨_, _, rfl, RepC_v rfl, g1⟩, by simp [D.single, g2]⟩
  | .v (.bool a) :: l, .bool b :: m, h => by
    simp only [zeroOk, Bool.and_eq_true, beq_iff_eq] at h
    obtain ⟨rfl, h⟩ := h
    obtain ⟨g1, g2⟩ := zeroOk_rep (w := w) (F := F) l m h
    exact ⟨RepL_cons.2 ⟨_, _, rfl, RepC_v rfl, g1⟩, by simp [D.single, g2]⟩
  | .v (.string a) :: l, .string b :: m, h => by
    simp only [zeroOk, Bool.and_eq_true, beq_iff_eq] at h
    obtain ⟨h1, h⟩ := h
    have e : a = b := by
      obtain ⟨⟨a⟩⟩ := a
      obtain ⟨⟨b⟩⟩ := b
      simpa using h1
    subst e
    obtain ⟨g1, g2⟩ := zeroOk_rep (w := w) (F := F) l m h
    exact ⟨RepL_cons.2 ⟨_, _, rfl, RepC_v rfl, g1⟩, by simp [D.single, g2]⟩
  | .v .nilFunc :: l, .nilFunc :: m, h => by
    obtain ⟨g1, g2⟩ := zeroOk_rep (w := w) (F := F) l m (by simpa [zeroOk] using h)
    exact ⟨RepL_cons.2 ⟨_, _, rfl, RepC_v rfl, g1⟩, by simp [D.single, g2]⟩
  | .v .nilIface :: l, .nilIface :: m, h => by
    obtain ⟨g1, g2⟩ := zeroOk_rep (w := w) (F := F) l m (by simpa [zeroOk] using h)
    exact ⟨RepL_cons.2 ⟨_, _, rfl, RepC_v rfl, g1⟩, by simp [D.single, g2]⟩
  | .v (.pointer none) :: l, .pointer none :: m, h => by
    obtain ⟨g1, g2⟩ := zeroOk_rep (w := w) (F := F) l m (by simpa [zeroOk] using h)
    exact ⟨RepL_cons.2 ⟨_, _, rfl, RepC_v rfl, g1⟩, by simp [D.single, g2]⟩
  | .arr z [] :: l, .slice none 0 0 :: m, h => by
    obtain ⟨g1, g2⟩ := zeroOk_rep (w := w) (F := F) l m (by simpa [zeroOk] using h)
    exact ⟨RepL_cons.2 ⟨_, _, rfl, RepC_nil, g1⟩, by simp [D.single, g2]⟩

theorem zeroD_tup {e : TI} (h : e.zero.all D.single = true) {m : List D} (hm : zeroD e = .tup m) : False := by
  unfold zeroD at hm
  cases hg : e.agg <;> rw [hg] at hm <;> simp only at hm
  · cases hz : e.zero with
    | nil => rw [hz] at hm; cases hm
    | cons d l =>
      rw [hz] at h hm
      simp only at hm
      subst hm
      simp [D.single] at h
  · cases hm
theorem TOk.zero {P : Program} {t : Nat} {i : TI} (h : TOk P t i) : ∃ z, (∀ w : World, (zeroValue t).run P w = .ok z w) ∧ (∀ (w : World) (F : Nat → Prop), RepV w F (zeroD i) z ∧ RepL w F i.zero z.cells.toList) ∧ i.zero.all D.single = true ∧ z.cells.size = i.zero.length := by
  obtain ⟨x, z, hx, hn, hz, h0, ha⟩ := h.info
  obtain ⟨_, hs⟩ := zeroOk_rep (w := default) (F := fun _ => True) _ _ h0
  refine ⟨z, fun w => by simp [zeroValue, typeInfo, hx, hz], fun w F => ?_, hs, ?_⟩
  · obtain ⟨g, _⟩ := zeroOk_rep (w := w) (F := F) _ _ h0
    refine ⟨?_, g⟩
    unfold zeroD
    cases hb : i.agg
    · cases z <;> first
        | (simp only [aggZero] at ha; rw [hb] at ha; cases ha)
        | skip
      all_goals
        simp only [Value.cells] at g
        generalize i.zero = l at g hs
        cases l with
        | nil => rw [RepL_nil] at g; cases g
        | cons d l =>
          obtain ⟨v1, v2, e, h1, h2⟩ := RepL_cons.1 g
          simp only [List.all_cons, Bool.and_eq_true] at hs
          obtain ⟨y, rfl, _⟩ := RepC_len d v1 hs.1 h1
          simp at e
          rw [RepV_single hs.1, e.1]
          exact h1
    · cases z <;> first
        | (simp only [aggZero] at ha; rw [hb] at ha; cases ha)
        | skip
      exact ⟨_, rfl, by simp only [RepC]; exact ⟨g, hs⟩⟩
  · obtain ⟨g, _⟩ := zeroOk_rep (w := default) (F := fun _ => True) _ _ h0
    simpa using (RepL_single _ _ hs g).1

end Go.V
