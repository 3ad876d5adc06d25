/-
  The evaluator with recasts: from some place of a function on, slots that own a slice hold plain data (what is handed back, and read beside).
-/
import Derived.Test.YtbbfddflmnclaaaDoorRows
import Derived.Test.YtbbfddflmnclaaaDoorTie
import Derived.Test.YtbbfddflmnclaaaDoorCards
import Derived.Test.YtbbfddflmnclaaaDoorM4
namespace Go.V
open Go.RowKit
set_option linter.unusedSimpArgs false

@[reducible] def frz1 (K : List Kd) (fz : List Nat) (s : Nat) (k : Kd) : Kd :=
  match k with
  | .own z lv false => match memN s fz with
    | true => .dat (maxN 1 lv)
    | false => .own z lv false
  | .via r => match memN r fz with
    | true => .dat (maxN 1 (rootLv K r))
    | false => .via r
  | .ref r => match memN r fz with
    | true => .dat (maxN 1 (rootLv K r))
    | false => .ref r
  | k => k
@[reducible] def frzL (K : List Kd) (fz : List Nat) : List Kd → Nat → List Kd
  | [], _ => []
  | k :: l, s => frz1 K fz s k :: frzL K fz l (Nat.succ s)
@[reducible] def rcx (c : Cx) (fz : List Nat) : Cx := { c with K := frzL c.K fz c.K 0 }
@[reducible] def retO (k : Out → Option Out) (o : Out) : Option Out :=
  match o with
  | .nrm _ => none
  | .ext _ _ => none
  | .ret a b => k (.ret a b)
/-- What a copy of a slot holds, once that slot's slice is plain data. -/
def viaD (p x : D) : D :=
  match p with
  | .bad => .bad
  | _ => x
@[reducible] def viaC (K : List Kd) (δ : List D) : List Nat → (List D → Option Out) → Option Out
  | [], k => k []
  | s :: ss, k => match nthK K s with
    | .via r => nthC δ s fun p => nthC δ r fun x => viaC K δ ss fun l => k (viaD p x :: l)
    | _ => viaC K δ ss fun l => k (.bad :: l)
@[reducible] noncomputable def denR (c : Cx) (R : List (Nat × List Nat)) : Nat → Nat → Code → List D → (Out → Option Out) → Option Out
  | p, bid, .seq a b, δ, k => denR c R (Nat.mul 2 p) bid a δ fun o => seqK o (fun δ' => match look R p with
      | some fz => viaC c.K δ' (depsAll c.K fz) fun l => setManyC δ' (depsAll c.K fz) l fun δ'' => den (rcx c fz) bid b δ'' (retO k)
      | none => denR c R (Nat.add (Nat.mul 2 p) 1) bid b δ' k) k
  | p, bid, .cond x t e, δ, k => opC δ x fun q => ifD q (denR c R (Nat.mul 2 p) bid t δ k) (denR c R (Nat.add (Nat.mul 2 p) 1) bid e δ k)
  | p, _, .block id b, δ, k => denR c R (Nat.mul 2 p) id b δ fun o => blkK id o k
  | _, bid, x, δ, k => den c bid x δ k
@[reducible] noncomputable def denFR (c : Cx) (R : List (Nat × List Nat)) (fn : Func) (ds : List D) : Option Out :=
  match fn.body with
  | none => none
  | some b => denR c R 1 0 b (padTo fn.ntmps ds) fun o => match o with
    | .nrm δ => resC c δ c.res fun rs => getC δ c.ios fun us => usK us (some (.ret rs us))
    | .ext _ _ => none
    | .ret rs us => some (.ret rs us)
def resSl : List ResultVar → List Nat
  | [] => []
  | .tmp t :: l => t :: resSl l
  | .cell a _ :: l => a :: resSl l
def chgS (c : Cx) (fz : List Nat) : List Nat := fz ++ depsAll c.K fz
def okFz (c : Cx) (fz : List Nat) : Bool :=
  (fz.all fun s => match nthK c.K s with
    | .own _ _ false => true
    | _ => false) && ((resSl c.res).all fun s => !memN s (chgS c fz)) && (c.ios.all fun s => !memN s (chgS c fz))
def okCodeR (c : Cx) (R : List (Nat × List Nat)) : Nat → Nat → Code → Bool
  | p, bid, .seq a b => okCodeR c R (Nat.mul 2 p) bid a && (match look R p with
      | some fz => okFz c fz && okCode (rcx c fz) bid b
      | none => okCodeR c R (Nat.add (Nat.mul 2 p) 1) bid b)
  | p, bid, .cond x t e => Nat.ble (lvOf c.K x) 2 && okCodeR c R (Nat.mul 2 p) bid t && okCodeR c R (Nat.add (Nat.mul 2 p) 1) bid e
  | p, _, .block id b => okCodeR c R (Nat.mul 2 p) id b
  | _, bid, x => okCode c bid x
def okFnR (c : Cx) (R : List (Nat × List Nat)) (fn : Func) (pm rm : List Kd) : Bool :=
  (match fn.body with
    | some b => okCodeR c R 1 0 b
    | none => false) && Nat.beq (lenN c.K) fn.ntmps && prefK pm c.K && okPm pm && okRes c c.res rm && decide (c.ios = ioIdx 0 pm)

section
variable {P : Program} {c : Cx} {B : Nat} {X : Nat → Prop} {w0 : World} {F0 F : Nat → Prop} {O : Nat → Option (Nat × Nat)} {a : Act} {w : World} {δ : List D} {fz : List Nat}

theorem len_frzL (K : List Kd) (fz : List Nat) : ∀ (l : List Kd) (s : Nat), (frzL K fz l s).length = l.length
  | [], _ => rfl
  | _ :: l, s => by simp [frzL, len_frzL K fz l]
theorem nthK_frzL (K : List Kd) (fz : List Nat) : ∀ (l : List Kd) (s i : Nat), nthK (frzL K fz l s) i = frz1 K fz (s + i) (nthK l i)
  | [], s, i => by simp [frzL, nthK, frz1]
  | k :: l, s, 0 => by simp [frzL, nthK]
  | k :: l, s, i + 1 => by
    simp only [frzL, nthK]
    rw [nthK_frzL K fz l (Nat.succ s) i, show Nat.succ s + i = s + (i + 1) by omega]
theorem nthK_rcx (c : Cx) (fz : List Nat) (s : Nat) : nthK (rcx c fz).K s = frz1 c.K fz s (nthK c.K s) := by
  show nthK (frzL c.K fz c.K 0) s = _
  rw [nthK_frzL, Nat.zero_add]
theorem okFz_own (h : okFz c fz = true) {s : Nat} (hs : s ∈ fz) : ∃ z lv, nthK c.K s = .own z lv false := by
  unfold okFz at h
  simp only [Bool.and_eq_true, List.all_eq_true] at h
  have := h.1.1 s hs
  split at this
  · exact ⟨_, _, ‹_›⟩
  · cases this
theorem memN_t {s : Nat} {l : List Nat} (h : s ∈ l) : memN s l = true := by rw [memN_eq]; exact decide_eq_true h
theorem memN_f {s : Nat} {l : List Nat} (h : s ∉ l) : memN s l = false := by rw [memN_eq]; exact decide_eq_false h
theorem frz_root {r : Nat} (hr : r ∉ fz) (h : isRoot c.K r) : nthK (rcx c fz).K r = nthK c.K r := by
  rw [nthK_rcx]
  unfold isRoot at h
  generalize nthK c.K r = k at h
  cases k
  case own z lv io => cases io <;> simp [frz1, memN_f hr]
  case box n lv io => rfl
  all_goals exact h.elim
theorem frz_back {r : Nat} (h : isRoot (rcx c fz).K r) : isRoot c.K r ∧ nthK (rcx c fz).K r = nthK c.K r := by
  unfold isRoot at h ⊢
  rw [nthK_rcx] at h ⊢
  generalize nthK c.K r = k at h
  cases k
  case own z lv io =>
    refine ⟨trivial, ?_⟩
    cases io
    case true => rfl
    by_cases hr : r ∈ fz
    · simp [frz1, memN_t hr] at h
    · simp [frz1, memN_f hr]
  case box n lv io => exact ⟨trivial, rfl⟩
  case via r' => by_cases hr : r' ∈ fz <;> simp [frz1, memN_t, memN_f, hr] at h
  case ref r' => by_cases hr : r' ∈ fz <;> simp [frz1, memN_t, memN_f, hr] at h
  all_goals exact h.elim
theorem frz_io (s : Nat) : isIo (nthK (rcx c fz).K s) = isIo (nthK c.K s) := by
  rw [nthK_rcx]
  generalize nthK c.K s = k
  cases k
  case own z lv io =>
    cases io
    case true => rfl
    by_cases hr : s ∈ fz
    · simp [frz1, memN_t hr, isIo]
    · simp [frz1, memN_f hr]
  case via r' => by_cases hr : r' ∈ fz <;> simp [frz1, memN_t, memN_f, hr, isIo]
  case ref r' => by_cases hr : r' ∈ fz <;> simp [frz1, memN_t, memN_f, hr, isIo]
  all_goals rfl
theorem isOwn_of {K K' : List Kd} {r : Nat} (h : nthK K' r = nthK K r) : isOwn K' r = isOwn K r := by unfold isOwn; rw [h]
theorem FB_one {F' : Nat → Prop} {b lv : Nat} (h1 : F' b) (h2 : B ≤ b) : FB F' B (maxN 1 lv) b := by
  rw [maxN_eq]
  match lv with
  | 0 => exact ⟨h1, h2⟩
  | 1 => exact ⟨h1, h2⟩
  | n + 2 =>
    rw [Nat.max_eq_right (by omega)]
    exact h1

def viaF (K : List Kd) (δ : List D) (s : Nat) : D :=
  match nthK K s with
  | .via r => viaD (nth δ s) (nth δ r)
  | _ => .bad
theorem viaC_eq (K : List Kd) (δ : List D) : ∀ (ss : List Nat) (k : List D → Option Out), viaC K δ ss k = k (ss.map (viaF K δ))
  | [], _ => rfl
  | s :: ss, k => by
    simp only [viaC, List.map_cons, viaF]
    split
    · simp only [nthC_eq]
      exact viaC_eq K δ ss _
    · exact viaC_eq K δ ss _
theorem nth_setMany_map (f : Nat → D) : ∀ (ss : List Nat) (δ : List D) (s : Nat), s ∈ ss → nth (setMany δ ss (ss.map f)) s = if s < δ.length then f s else .bad
  | i :: ss, δ, s, h => by
    simp only [List.map_cons, setMany]
    by_cases hs : s ∈ ss
    · rw [nth_setMany_map f ss _ s hs, len_setAt]
    · rw [nth_setMany_notin _ _ _ _ hs]
      have : s = i := by simpa [hs] using h
      subst this
      exact nth_setAt_eq _ _ _

open Classical in
/-- What some slots own is from now on plain data. -/
theorem Inv.recast (h : Inv c B X w0 F0 F O a w δ) (hfz : okFz c fz = true) : ∃ F' O', Inv (rcx c fz) B X w0 F0 F' O' a w (setMany δ (depsAll c.K fz) ((depsAll c.K fz).map (viaF c.K δ))) := by
  let G : Nat → Prop := fun b => ∃ s ∈ fz, O b = some (s, 0) ∧ B ≤ b
  have hF : ∀ b, F b → F b ∨ G b := fun b hb => .inl hb
  have hG : ∀ (b s i : Nat), O b = some (s, i) → (i = 0 → s ∉ fz) → ¬ G b := by
    rintro b s i h1 h2 ⟨s', h3, h4, _⟩
    rw [h1] at h4
    cases h4
    exact h2 rfl h3
  refine ⟨fun b => F b ∨ G b, fun b => if G b then none else O b, ?_⟩
  have hO : ∀ (b s i : Nat), (i = 0 → s ∉ fz) → O b = some (s, i) → (if G b then none else O b) = some (s, i) := fun b s i h2 h1 => by rw [if_neg (hG b s i h1 h2), h1]
  have own : ∀ r ∈ fz, nth δ r ≠ .bad → RepV w (FB (fun b => F b ∨ G b) B (maxN 1 (rootLv c.K r))) (nth δ r) (av a r) := by
    intro r hr hb
    obtain ⟨z, lv, hk⟩ := okFz_own hfz hr
    have h0 := (h.slot r).resolve_left hb
    rw [hk] at h0
    have h1 := h0.resolve_left hb
    simp only [rootLv, hk]
    refine RepV_mono (fun b hb => ?_) (fun _ _ => rfl) (OwnV_rep h1)
    rcases hb with hb | hb
    · exact FB_le (by rw [maxN_eq]; exact Nat.le_max_right _ _) b (FB_mono hF b hb)
    · exact FB_one (.inr ⟨r, hr, hb.1, hb.2 rfl⟩) (hb.2 rfl)
  refine ⟨h.la.trans (len_frzL _ _ _ _).symm, (len_setMany _ _ _).trans (h.ld.trans (len_frzL _ _ _ _).symm), h.df, fun s => ?_, fun b hb => ?_, fun b p hp => ?_, fun b hb => .inl (h.f0 b hb), fun b hb => ?_, h.bb, h.os, h.tape, h.output, h.keep, gOk_mono (fun b hb => .inl hb) (fun _ _ => rfl) h.gl⟩
  · by_cases hd : s ∈ depsAll c.K fz
    · by_cases hlt : s < δ.length
      case neg =>
        refine .inl ?_
        rw [nth_setMany_map _ _ _ _ hd, if_neg hlt]
      have e : nth (setMany δ (depsAll c.K fz) ((depsAll c.K fz).map (viaF c.K δ))) s = viaF c.K δ s := by rw [nth_setMany_map _ _ _ _ hd, if_pos hlt]
      obtain ⟨r, hr, hk⟩ := depsAll_kind _ hd
      rcases hk with hk | hk
      case inr => exact .inl (e.trans (by simp only [viaF, hk]))
      have e2 : viaF c.K δ s = viaD (nth δ s) (nth δ r) := by simp only [viaF, hk]
      by_cases hb : nth δ s = .bad
      · refine .inl (e.trans (e2.trans ?_))
        rw [hb]
        rfl
      have e3 : viaD (nth δ s) (nth δ r) = nth δ r := by
        generalize nth δ s = q at hb
        cases q <;> first | rfl | exact absurd rfl hb
      have h0 := (h.slot s).resolve_left hb
      rw [hk] at h0
      obtain ⟨b1, b2, b3, b4⟩ := h0
      refine .inr ?_
      rw [nthK_rcx, hk, e, e2, e3]
      simp only [frz1, memN_t hr]
      exact .inr (by rw [b1]; exact own r hr b3)
    have e : nth (setMany δ (depsAll c.K fz) ((depsAll c.K fz).map (viaF c.K δ))) s = nth δ s := nth_setMany_notin _ _ _ _ hd
    by_cases hb : nth δ s = .bad
    · exact .inl (e.trans hb)
    have h0 := (h.slot s).resolve_left hb
    refine .inr ?_
    have hkeep : ∀ r, isRoot c.K r → nth (setMany δ (depsAll c.K fz) ((depsAll c.K fz).map (viaF c.K δ))) r = nth δ r := fun r hr => nth_setMany_notin _ _ _ _ (root_notinAll hr _)
    rw [nthK_rcx, e]
    generalize hk : nthK c.K s = k at h0
    cases k
    case dat lv => exact h0.imp id (RepV_mono (FB_mono hF) (fun _ _ => rfl))
    case own z lv io =>
      have h1 := h0.resolve_left hb
      by_cases hs : s ∈ fz
      · obtain ⟨z', lv', hk'⟩ := okFz_own hfz hs
        rw [hk] at hk'
        cases hk'
        simp only [frz1, memN_t hs]
        have ho := own s hs hb
        simp only [rootLv, hk] at ho
        exact .inr ho
      · have e2 : frz1 c.K fz s (.own z lv io) = .own z lv io := by cases io <;> simp [frz1, memN_f hs]
        rw [e2]
        exact .inr (OwnV_mono (FB_mono hF) (fun _ _ => rfl) (fun g hg => ⟨⟨hO g s 0 (fun _ => hs) hg.1, hg.2⟩, rfl⟩) h1)
    case box n lv io =>
      have h1 := h0.resolve_left hb
      have hs : s ∉ fz := fun hs => by
        obtain ⟨z', lv', hk'⟩ := okFz_own hfz hs
        rw [hk] at hk'
        cases hk'
      exact .inr (BoxV_mono (FB_mono hF) (fun _ _ => rfl) (fun g hg => ⟨⟨hO g s 0 (fun _ => hs) hg.1, hg.2⟩, rfl⟩) h1)
    case via r =>
      have hr : r ∉ fz := fun hr => hd (mem_depsAll (.inl hk) _ hr)
      obtain ⟨b1, b2, b3, b4⟩ := h0
      simp only [frz1, memN_f hr]
      exact ⟨b1, b2, by rw [hkeep r (isOwn_root b4)]; exact b3, by rw [isOwn_of (frz_root hr (isOwn_root b4))]; exact b4⟩
    case ref r =>
      have hr : r ∉ fz := fun hr => hd (mem_depsAll (.inr hk) _ hr)
      obtain ⟨i, f, b1, b2, b3⟩ := h0
      simp only [frz1, memN_f hr]
      exact ⟨i, f, b1, by rw [hkeep r (RefV_root b3)]; exact b2, by rw [frz_root hr (RefV_root b3)]; exact b3⟩
    case tup ms =>
      obtain ⟨l, vs, b1, b2, b3⟩ := h0
      exact ⟨l, vs, b1, b2, fun i => Lone_mono hF (fun _ _ => rfl) (fun g hg => ⟨hO g s (i + 1) (fun h => by omega) hg, rfl⟩) (b3 i)⟩
    case no => trivial
  · rcases hb with hb | hb
    · obtain ⟨h1, h2⟩ := h.fl b hb
      refine ⟨h1, ?_⟩
      simp only [h2]
      split <;> rfl
    · obtain ⟨s, h1, h2, h3⟩ := hb
      exact ⟨(h.ol b _ h2).1, if_pos ⟨s, h1, h2, h3⟩⟩
  · split at hp
    · cases hp
    · exact h.ol b p hp
  · rcases hb with hb | ⟨s, h1, h2, h3⟩
    · exact h.fn b hb
    · exact .inr h3
/-- Back to the function's own kinds: what was recast is void. -/
theorem Inv.uncast (h : Inv (rcx c fz) B X w0 F0 F O a w δ) : Inv c B X w0 F0 F O a w (setMany δ (chgS c fz) []) := by
  refine ⟨h.la.trans (len_frzL _ _ _ _), (len_setMany _ _ _).trans (h.ld.trans (len_frzL _ _ _ _)), h.df, fun s => ?_, h.fl, h.ol, h.f0, h.fn, h.bb, h.os, h.tape, h.output, h.keep, h.gl⟩
  by_cases hd : s ∈ chgS c fz
  · exact .inl (nth_kill _ _ _ hd)
  have e : nth (setMany δ (chgS c fz) []) s = nth δ s := nth_setMany_notin _ _ _ _ hd
  by_cases hb : nth δ s = .bad
  · exact .inl (e.trans hb)
  have h0 := (h.slot s).resolve_left hb
  refine .inr ?_
  have hs : s ∉ fz := fun hs => hd (List.mem_append_left _ hs)
  have hdp : s ∉ depsAll c.K fz := fun hs => hd (List.mem_append_right _ hs)
  have hkeep : ∀ r, r ∉ fz → isRoot c.K r → nth (setMany δ (chgS c fz) []) r = nth δ r := fun r h1 h2 => nth_setMany_notin _ _ _ _ fun hm => by
    rcases List.mem_append.1 hm with hm | hm
    · exact h1 hm
    · exact root_notinAll h2 _ hm
  rw [nthK_rcx] at h0
  rw [e]
  generalize hk : nthK c.K s = k at h0
  cases k
  case own z lv io =>
    have e2 : frz1 c.K fz s (.own z lv io) = .own z lv io := by cases io <;> simp [frz1, memN_f hs]
    rw [e2] at h0
    exact h0
  case via r =>
    have hr : r ∉ fz := fun hr => hdp (mem_depsAll (.inl hk) _ hr)
    simp only [frz1, memN_f hr] at h0
    obtain ⟨b1, b2, b3, b4⟩ := h0
    obtain ⟨g1, g2⟩ := frz_back (isOwn_root b4)
    exact ⟨b1, b2, by rw [hkeep r hr g1]; exact b3, by rw [← isOwn_of g2]; exact b4⟩
  case ref r =>
    have hr : r ∉ fz := fun hr => hdp (mem_depsAll (.inr hk) _ hr)
    simp only [frz1, memN_f hr] at h0
    obtain ⟨i, f, b1, b2, b3⟩ := h0
    obtain ⟨g1, g2⟩ := frz_back (RefV_root b3)
    exact ⟨i, f, b1, by rw [hkeep r hr g1]; exact b2, by rw [← g2]; exact b3⟩
  all_goals exact h0

theorem resC_recast : ∀ (l : List ResultVar) (δ δ' : List D) (k : List D → Option Out), (∀ t ∈ resSl l, nth δ t = nth δ' t) → resC (rcx c fz) δ l k = resC c δ' l k
  | [], _, _, _, _ => rfl
  | .tmp t :: l, δ, δ', k, h => by
    simp only [resC, nthC_eq]
    rw [h t (by simp [resSl])]
    exact resC_recast l δ δ' _ fun t ht => h t (by simp [resSl, ht])
  | .cell b t :: l, δ, δ', k, h => by
    simp only [resC, nthC_eq]
    rw [h b (by simp [resSl])]
    cases look c.T t with
    | none => rfl
    | some i =>
      simp only
      refine congrArg _ (funext fun y => ?_)
      exact resC_recast l δ δ' _ fun t ht => h t (by simp [resSl, ht])
theorem ret_recast {V : Nat → Value} {k : Out → Option Out} {r : Out} (hfz : okFz c fz = true) (h : NextV (rcx c fz) B X w0 F0 V (fun δ => retK (rcx c fz) δ (retO k)) r a w) : NextV c B X w0 F0 V (fun δ => retK c δ k) r a w := by
  obtain ⟨⟨F, O, δ, hI, hk⟩, hV⟩ := h
  obtain ⟨rs, h1, h2, h3⟩ := retK_is hk
  unfold okFz at hfz
  simp only [Bool.and_eq_true, List.all_eq_true, Bool.not_eq_true'] at hfz
  have out : ∀ s, memN s (chgS c fz) = false → nth (setMany δ (chgS c fz) []) s = nth δ s := fun s hs => nth_setMany_notin _ _ _ _ fun hm => by
    rw [memN_t hm] at hs
    cases hs
  have hg : getAll (setMany δ (chgS c fz) []) c.ios = getAll δ c.ios := by
    have : ∀ l : List Nat, (∀ s ∈ l, memN s (chgS c fz) = false) → getAll (setMany δ (chgS c fz) []) l = getAll δ l := by
      intro l
      induction l with
      | nil => intro _; rfl
      | cons s l ih =>
        intro hl
        simp only [getAll]
        rw [out s (hl s (by simp)), ih fun t ht => hl t (by simp [ht])]
    exact this _ hfz.2
  refine ⟨⟨F, O, _, hI.uncast, retK_of (rs := rs) ?_ ?_ ?_⟩, fun s hs => hV s (by rw [frz_io]; exact hs)⟩
  · rw [← resC_recast (fz := fz) c.res δ _ _ fun t ht => (out t (hfz.1.2 t ht)).symm]
    exact h1
  · rw [hg]
    exact h2
  · rw [hg]
    exact h3

theorem denR_sound (hT : okT P c.T = true) (hS : ∀ f S, look c.S f = some S → Meets c.G P f S) (hm : P.follows .mixedOrders = true) {V : Nat → Value} {R : List (Nat × List Nat)} : ∀ (b : Code) (p bid : Nat), okCodeR c R p bid b = true → ∀ (F : Nat → Prop) (O : Nat → Option (Nat × Nat)) (a : Act) (w : World) (δ : List D),
    Inv c B X w0 F0 F O a w δ → IoV c V a → ∀ (k : Out → Option Out) (r : Out), denR c R p bid b δ k = some r → ∀ Q, (∀ e a w, Post c B X w0 F0 V k r e a w → Q e a w) → b.wp P Q a w
  | .seq x y, p, bid, hok, F, O, a, w, δ, hI, hV, k, r, hg, Q, hQ => by
    simp only [okCodeR, Bool.and_eq_true] at hok
    simp only [denR] at hg
    refine wp_seq (denR_sound hT hS hm x _ bid hok.1 F O a w δ hI hV _ r hg _ (fun e a' w' hp => ?_))
    cases e with
    | normal =>
      obtain ⟨⟨F', O', δ', hI', hk'⟩, hV'⟩ := hp
      have hok2 := hok.2
      simp only [seqK] at hk'
      cases hH : look R p with
      | none =>
        rw [hH] at hk' hok2
        exact denR_sound hT hS hm y _ bid hok2 F' O' a' w' δ' hI' hV' k r hk' Q hQ
      | some fz =>
        rw [hH] at hk' hok2
        simp only [Bool.and_eq_true] at hok2
        simp only [viaC_eq, setManyC_eq] at hk'
        obtain ⟨F2, O2, hI2⟩ := hI'.recast hok2.1
        refine den_sound (c := rcx c fz) hT hS hm y bid hok2.2 F2 O2 a' w' _ hI2 (fun s hs => hV' s (by rw [← frz_io (fz := fz)]; exact hs)) (retO k) r hk' Q (fun e a w hp => ?_)
        cases e with
        | normal => obtain ⟨⟨_, _, _, _, h⟩, _⟩ := hp; cases h
        | exit i => obtain ⟨⟨_, _, _, _, h⟩, _⟩ := hp; cases h
        | ret => exact hQ .ret _ _ (ret_recast hok2.1 hp)
        | _ => exact hp.elim
    | exit id => exact hQ _ _ _ hp
    | ret => exact hQ _ _ _ hp
    | _ => exact hp.elim
  | .cond x t e, p, bid, hok, F, O, a, w, δ, hI, hV, k, r, hg, Q, hQ => by
    simp only [okCodeR, Bool.and_eq_true] at hok
    obtain ⟨⟨hlv, hok1⟩, hok2⟩ := hok
    have hop := hI.opd (ble_iff.1 hlv)
    have key : ifD (opD δ x) (denR c R (Nat.mul 2 p) bid t δ k) (denR c R (Nat.add (Nat.mul 2 p) 1) bid e δ k) = some r := by
      simp only [denR] at hg
      cases x with
      | tmp s => simpa only [opC, nthC_eq, opD] using hg
      | const v => simpa only [opC, opD] using hg
      | func f => simpa only [opC, opD] using hg
      | global g => simp [opC] at hg
    unfold ifD at key
    split at key
    · rename_i hd
      rw [hd] at hop
      exact wp_cond_true (RepB_v hop).1 (denR_sound hT hS hm t _ bid hok1 F O a w δ hI hV k r key Q hQ)
    · rename_i hd
      rw [hd] at hop
      exact wp_cond_false (RepB_v hop).1 (denR_sound hT hS hm e _ bid hok2 F O a w δ hI hV k r key Q hQ)
    · cases key
  | .block id b, p, bid, hok, F, O, a, w, δ, hI, hV, k, r, hg, Q, hQ => by
    simp only [okCodeR] at hok
    refine wp_block (denR_sound hT hS hm b _ id hok F O a w δ hI hV _ r hg _ (fun e a' w' hp => ?_))
    cases e with
    | normal => exact hQ .normal _ _ hp
    | exit i =>
      simp only [Exit.inBlock]
      have hp' : NextV c B X w0 F0 V (fun δ => blkK id (.ext i δ) k) r a' w' := hp
      split
      · rename_i hi
        refine hQ .normal _ _ (NextV_mono hp' fun δ F O _ h => ?_)
        simp only [blkK] at h
        rw [beq_iff.2 (by simpa using hi)] at h
        exact h
      · rename_i hi
        refine hQ (.exit i) _ _ (NextV_mono hp' fun δ F O _ h => ?_)
        simp only [blkK] at h
        cases hb : Nat.beq i id
        · rw [hb] at h; exact h
        · exact absurd (by simpa using beq_iff.1 hb) hi
    | ret => exact hQ .ret _ _ hp
    | _ => exact hp.elim
  | .skip, p, bid, hok, F, O, a, w, δ, hI, hV, k, r, hg, Q, hQ => den_sound hT hS hm .skip bid hok F O a w δ hI hV k r hg Q hQ
  | .region id ops d, p, bid, hok, F, O, a, w, δ, hI, hV, k, r, hg, Q, hQ => den_sound hT hS hm (.region id ops d) bid hok F O a w δ hI hV k r hg Q hQ
  | .loop b, p, bid, hok, F, O, a, w, δ, hI, hV, k, r, hg, Q, hQ => den_sound hT hS hm (.loop b) bid hok F O a w δ hI hV k r hg Q hQ
  | .exit id, p, bid, hok, F, O, a, w, δ, hI, hV, k, r, hg, Q, hQ => den_sound hT hS hm (.exit id) bid hok F O a w δ hI hV k r hg Q hQ
  | .ret, p, bid, hok, F, O, a, w, δ, hI, hV, k, r, hg, Q, hQ => den_sound hT hS hm .ret bid hok F O a w δ hI hV k r hg Q hQ
  | .label _, _, _, hok, _, _, _, _, _, _, _, _, _, _, _, _ => by simp [okCodeR, okCode] at hok
  | .goto _, _, _, hok, _, _, _, _, _, _, _, _, _, _, _, _ => by simp [okCodeR, okCode] at hok
  | .scope _, _, _, hok, _, _, _, _, _, _, _, _, _, _, _, _ => by simp [okCodeR, okCode] at hok

theorem fn_callsR (hT : okT P c.T = true) (hS : ∀ f S, look c.S f = some S → Meets c.G P f S) (hm : P.follows .mixedOrders = true) {R : List (Nat × List Nat)} {f : FuncId} {fn : Func} (hf : P.funcs[f]? = some fn) {pm rm : List Kd} (hok : okFnR c R fn pm rm = true) (hres : c.res = fn.results.toList)
    {ds rs us : List D} (hd : denFR c R fn ds = some (.ret rs us)) {args : Array Value} {w : World} {F : Nat → Prop} {ow : Nat → Option Nat} (hgl : gOk c.G w F) (ha : ArgsOk w F ow 0 pm ds args.toList) (hF : ∀ b, F b → b < w.heap.size ∧ ow b = none) (hO : ∀ b i, ow b = some i → b < w.heap.size) :
    Calls P f args w fun e w' => ∃ v, e = .returned v ∧ ∃ F' R' vs, v = resV vs ∧ CallPost { pm := pm, rm := rm, f := denFR c R fn } args rs us w F ow F' R' vs w' := by
  unfold okFnR at hok
  simp only [Bool.and_eq_true, decide_eq_true_eq] at hok
  obtain ⟨⟨⟨⟨⟨hcode, hlenK⟩, hpre⟩, hpm⟩, hokr⟩, hios⟩ := hok
  rw [beq_iff, lenN_eq] at hlenK
  obtain ⟨hpl, hpn⟩ := prefK_nth hpre
  obtain ⟨hdl, hal, hargs⟩ := ArgsOk_at pm ds args.toList 0 ha
  have hasz : args.size = pm.length := by simpa using hal
  unfold denFR at hd
  cases hb : fn.body with
  | none => rw [hb] at hd; cases hd
  | some b =>
    rw [hb] at hd hcode
    simp only at hd hcode
    refine calls_of_wp hf hb ?_
    have hav : ∀ s, s < pm.length → av ({ tmps := args ++ Array.replicate (fn.ntmps - args.size) undef, defers := [] } : Act) s = args.toList.getD s undef := fun s hs => by
      have h1 : s < args.size := by omega
      simp only [av, Array.getD_eq_getD_getElem?, List.getD_eq_getElem?_getD, Array.getElem?_toList]
      rw [Array.getElem?_append_left h1]
    have hinit : Inv c w.heap.size (fun b => ow b ≠ none) w F F (fun b => (ow b).map fun i => (i, 0)) { tmps := args ++ Array.replicate (fn.ntmps - args.size) undef, defers := [] } w (padTo fn.ntmps ds) := by
      refine ⟨by simp; omega, by rw [padTo_len, hlenK], rfl, fun s => ?_, fun b hb => ⟨(hF b hb).1, by simp [(hF b hb).2]⟩, fun b p hp => ?_, fun _ h => h, fun _ h => .inl h, Nat.le_refl _, rfl, rfl, rfl, fun _ _ _ => rfl, hgl⟩
      · unfold SlotOk
        rw [padTo_nth _ _ _ (by rw [hdl]; omega)]
        by_cases hs : s < pm.length
        · rw [hpn s hs, hav s hs]
          rcases hargs s hs with hbad | harg
          · exact .inl hbad
          refine .inr ?_
          have hlv : ∀ lv, lv ≠ 1 → ∀ b, FB F 0 lv b → FB F w.heap.size lv b := fun lv h1 b hb => by
            match lv, h1 with
            | 0, _ => exact hb
            | _ + 2, _ => exact hb
          rcases okPm_at hpm s hs with ⟨lv, hk, h1⟩ | ⟨z, lv, hk, h1⟩ | ⟨n, lv, hk, h1⟩
          · rw [hk] at harg ⊢
            exact .inr (RepV_mono (hlv lv h1) (fun _ _ => rfl) harg)
          · rw [hk] at harg ⊢
            exact .inr (OwnV_mono' (hlv lv h1) (fun _ _ => rfl) (fun g _ hg => ⟨⟨by simp only [Nat.zero_add] at hg; simp [hg], fun h => by cases h⟩, rfl⟩) harg)
          · rw [hk] at harg ⊢
            exact .inr (BoxV_mono' (hlv lv h1) (fun _ _ => rfl) (fun g _ hg => ⟨⟨by simp only [Nat.zero_add] at hg; simp [hg], fun h => by cases h⟩, rfl⟩) harg)
        · refine .inl ?_
          rw [nth_eq, List.getD_eq_getElem?_getD, List.getElem?_eq_none (by omega)]
          rfl
      · obtain ⟨i, hi, rfl⟩ := Option.map_eq_some_iff.1 hp
        exact ⟨hO b i hi, .inr (by rw [hi]; simp)⟩
    refine denR_sound hT hS hm b 1 0 hcode F _ _ w _ hinit (V := av { tmps := args ++ Array.replicate (fn.ntmps - args.size) undef, defers := [] }) (fun _ _ => rfl) _ _ hd _ (fun e a' w' hp => ?_)
    have fin : NextV c w.heap.size (fun b => ow b ≠ none) w F (av { tmps := args ++ Array.replicate (fn.ntmps - args.size) undef, defers := [] }) (fun δ => retK c δ some) (.ret rs us) a' w' → a'.defers = [] ∧ ∃ v, (results fn a'.tmps).run P w' = .ok v w' ∧ ∃ v', Ending.returned v = .returned v' ∧ ∃ F' R' vs, v' = resV vs ∧ CallPost { pm := pm, rm := rm, f := denFR c R fn } args rs us w F ow F' R' vs w' := by
      rintro ⟨⟨F', O', δ', hI', hk⟩, hV'⟩
      obtain ⟨rs', h1, h2, h3⟩ := retK_is hk
      simp only [Option.some.injEq, Out.ret.injEq] at h3
      obtain ⟨rfl, rfl⟩ := h3
      obtain ⟨vs, g1, g2, g3, g4⟩ := res_run (P := P) hT hI' c.res rm rs' hokr h1
      refine ⟨hI'.df, resV vs, ?_, _, rfl, F', fun b => if w.heap.size ≤ b then (match O' b with
        | some (t, 0) => resIx c.res t 0
        | _ => none) else none, vs, rfl, ?_⟩
      · have hrun : (fn.results.mapM (getRes a'.tmps)).run P w' = .ok vs.toArray w' := by
          rw [Array.mapM_eq_mapM_toList, ← hres]
          simp [g1]
        have hrw : results fn a'.tmps = (do
            let vs ← fn.results.mapM (getRes a'.tmps)
            pure (if h : vs.size = 1 then vs[0] else .tuple vs)) := by
          unfold results
          congr 1
        rw [hrw]
        simp only [Sem.run_bind, hrun, Result.andThen_ok, Sem.run_pure]
        congr 1
        rcases vs with _ | ⟨y, _ | ⟨y', vs⟩⟩
        · simp [resV]
        · simp [resV]
        · simp [resV]
      · refine ⟨hI'.os, hI'.tape, hI'.output, hI'.bb, fun b hb ho => hI'.keep b hb (by simp [ho]), hI'.f0, fun b hb => ⟨hI'.fn b hb, (hI'.fl b hb).1, by simp only [(hI'.fl b hb).2]; split <;> rfl⟩, fun b j hj => ?_, g2, g3, fun j => ?_, ?_⟩
        · split at hj
          case isFalse => cases hj
          rename_i hB
          refine ⟨hB, ?_⟩
          split at hj
          · rename_i t he; exact (hI'.ol b _ he).1
          · cases hj
        · refine ResOk_mono (fun hk g hg => ?_) (g4 j)
          obtain ⟨z, lv, hk⟩ := hk
          obtain ⟨e1, t, e2, e3⟩ := hg
          rw [if_pos e1]
          simp only [e3]
          have := (resIx_own c.res rm hokr j t 0 z lv hk e2).1
          simpa using this
        · rw [hios]
          refine UsOk_of pm args.toList 0 hal (fun j hj hio => ?_)
          rw [Nat.zero_add]
          have hkj := hpn j hj
          have hbj : nth δ' j ≠ .bad := by
            refine h2 _ ?_
            rw [hios, getAll_map]
            exact List.mem_map_of_mem (by simpa using ioIdx_mem pm 0 j hj hio)
          have havj : av a' j = args.toList.getD j undef := (hV' j (by rw [hkj]; exact hio)).trans (hav j hj)
          have hlv : ∀ lv, lv ≠ 1 → ∀ b, FB F' w.heap.size lv b → FB F' 0 lv b := fun lv h1 b hb => by
            match lv, h1 with
            | 0, _ => exact hb
            | _ + 2, _ => exact hb
          refine ⟨hbj, .inr ?_⟩
          rcases okPm_at hpm j hj with ⟨lv, hk, h1⟩ | ⟨z, lv, hk, h1⟩ | ⟨n, lv, hk, h1⟩
          · rw [hk] at hio; cases hio
          · have h5 := hI'.own (hkj.trans hk) hbj
            rw [havj] at h5
            rw [hk]
            exact OwnV_mono' (hlv lv h1) (fun _ _ => rfl) (fun _ _ _ => ⟨trivial, rfl⟩) h5
          · have h5 := hI'.box (hkj.trans hk) hbj
            rw [havj] at h5
            rw [hk]
            exact BoxV_mono' (hlv lv h1) (fun _ _ => rfl) (fun _ _ _ => ⟨trivial, rfl⟩) h5
    cases e with
    | normal => exact fin hp
    | exit i =>
      obtain ⟨⟨_, _, _, _, h⟩, _⟩ := hp
      cases h
    | ret =>
      refine fin (NextV_mono hp fun δ F O _ h => ?_)
      obtain ⟨rs', h1, h2, h3⟩ := retK_is h
      exact retK_of h1 h2 h3
    | _ => exact hp.elim

theorem meets_ofR (hT : okT P c.T = true) (hS : ∀ f S, look c.S f = some S → Meets c.G P f S) (hm : P.follows .mixedOrders = true) {R : List (Nat × List Nat)} {f : FuncId} {fn : Func} (hf : P.funcs[f]? = some fn) (hname : (fn.name == "runtime.NumGoroutine") = false) {pm rm : List Kd} (hok : okFnR c R fn pm rm = true) (hres : c.res = fn.results.toList) :
    Meets c.G P f { pm := pm, rm := rm, f := denFR c R fn } := by
  intro ds rs us hd args w F ow hgl ha hF hO o a next Q hn
  have hbody : ∃ b, fn.body = some b := by
    have hd' : denFR c R fn ds = some (.ret rs us) := hd
    unfold denFR at hd'
    cases hb : fn.body with
    | none => rw [hb] at hd'; cases hd'
    | some b => exact ⟨b, rfl⟩
  obtain ⟨b, hb⟩ := hbody
  have hrun : (callFunc f args).run P w = .ok (.enter f args) w := by
    have h1 : ¬ fn.name = "runtime.NumGoroutine" := by simpa using hname
    simp [callFunc, hf, h1, hb]
  rw [hrun, Oper.upon_enter]
  refine Calls.mono (fn_callsR hT hS hm hf hok hres hd hgl ha hF hO) (fun e w' he => ?_)
  obtain ⟨v, rfl, F', R', vs, h1, h2⟩ := he
  exact hn v w' ⟨F', R', vs, h1, h2⟩


end
end Go.V
/-
  Contexts and contracts of functions, printed by gen.py.
-/
namespace Go.Proofs.YtbbfddflmnclaaaDoor
open Go.V
set_option maxRecDepth 100000
theorem follows_mixed : Tryd.prog.follows .mixedOrders = true := by kernel_rfl
@[reducible] def ty3 : TI := { n := 1, zero := [.v (.int .i64 0)], ik := some .i64 }
@[reducible] def ty4 : TI := { n := 1, zero := [.v (.bool false)], bl := true }
@[reducible] def ty5 : TI := { n := 1, zero := [.v (.int .u8 0)], ik := some .u8 }
@[reducible] def ty9 : TI := { n := 1, zero := [.v (.string ⟨#[]⟩)], str := true }
@[reducible] def ty22 : TI := { n := 1, zero := [.arr 1 []], elem := 5, ez := 1, eb := 1 }
@[reducible] def ty23 : TI := { n := 1, zero := [.arr 4 []], elem := 58, ez := 4, eb := 40 }
@[reducible] def ty30 : TI := { n := 1, zero := [.arr 1 []], elem := 3, ez := 1, eb := 8 }
@[reducible] def ty40 : TI := { n := 1, zero := [.arr 1 []], elem := 9, ez := 1, eb := 16 }
@[reducible] def ty58 : TI := { agg := true, n := 4, zero := [.v (.string ⟨#[]⟩), .v (.int .i64 0), .v (.int .i64 0), .v (.int .i64 0)], fs := [(0, 9), (1, 3), (2, 3), (3, 3)], eq := [3, 1, 1, 1] }
@[reducible] def ty75 : TI := { n := 1, zero := [.v (.int .u64 0)], ik := some .u64 }
@[reducible] def ty77 : TI := { agg := true, n := 3, zero := [.arr 1 [], .v (.int .i64 0), .v (.int .u64 0)], fs := [(0, 22), (1, 3), (2, 75)] }
@[reducible] def ty105 : TI := { n := 1, zero := [.arr 2 []], elem := 117, ez := 2, eb := 24 }
@[reducible] def ty117 : TI := { agg := true, n := 2, zero := [.v (.string ⟨#[]⟩), .v (.int .i64 0)], fs := [(0, 9), (1, 3)], eq := [3, 1] }
/-- (*loop.example/g01054/spec.l1Cur).next -/
@[reducible] noncomputable def c_spec_l1Cur_next : Cx := { K := [.box 3 2 true, .no, .dat 0, .dat 0, .ref 0, .ref 0, .ref 0, .dat 0, .ref 0, .ref 0, .ref 0, .dat 2, .dat 0, .dat 0, .ref 0, .ref 0, .ref 0, .dat 2, .ref 0, .ref 0, .ref 0, .dat 0, .dat 2, .dat 0, .dat 0, .ref 0, .ref 0, .ref 0, .dat 0, .dat 0, .ref 0, .ref 0, .ref 0, .ref 0, .ref 0, .ref 0, .dat 0, .dat 0, .dat 0, .dat 0, .dat 0, .dat 0, .ref 0, .ref 0, .ref 0, .ref 0, .ref 0, .dat 0, .ref 0, .ref 0, .ref 0, .dat 2, .dat 0, .dat 0, .dat 0, .ref 0, .ref 0, .ref 0, .dat 0, .dat 0, .dat 0, .dat 0], T := [(3, ty3), (5, ty5), (22, ty22), (75, ty75), (77, ty77)], S := [], H := [], res := [.tmp 2], ios := [0], G := gl0 }
noncomputable def F_spec_l1Cur_next : List D → Option Out := denF c_spec_l1Cur_next Tryd.f91
@[reducible] noncomputable def S_spec_l1Cur_next : FS := { pm := [.box 3 2 true], rm := [.dat 0], f := F_spec_l1Cur_next }
theorem M_spec_l1Cur_next : Meets gl0 Tryd.prog 91 S_spec_l1Cur_next := meets_of (P := Tryd.prog) (c := c_spec_l1Cur_next) (fn := Tryd.f91) (pm := S_spec_l1Cur_next.pm) (rm := S_spec_l1Cur_next.rm) (by kernel_rfl) lookNil follows_mixed Tryd.func91 (by kernel_rfl) (by kernel_rfl) rfl
/-- (*loop.example/g01054/spec.l1Cur).pick -/
@[reducible] noncomputable def c_spec_l1Cur_pick : Cx := { K := [.box 3 2 true, .dat 0, .no, .no, .dat 0, .dat 0, .dat 0, .dat 0, .ref 0, .dat 0, .dat 0, .dat 0, .dat 0, .dat 0, .ref 0, .dat 0, .dat 0, .dat 0, .dat 0, .dat 0], T := [(3, ty3)], S := [(91, S_spec_l1Cur_next)], H := [], res := [.tmp 4], ios := [0], G := gl0 }
noncomputable def F_spec_l1Cur_pick : List D → Option Out := denF c_spec_l1Cur_pick Tryd.f68
@[reducible] noncomputable def S_spec_l1Cur_pick : FS := { pm := [.box 3 2 true, .dat 0], rm := [.dat 0], f := F_spec_l1Cur_pick }
theorem M_spec_l1Cur_pick : Meets gl0 Tryd.prog 68 S_spec_l1Cur_pick := meets_of (P := Tryd.prog) (c := c_spec_l1Cur_pick) (fn := Tryd.f68) (pm := S_spec_l1Cur_pick.pm) (rm := S_spec_l1Cur_pick.rm) (by kernel_rfl) (lookCons M_spec_l1Cur_next lookNil) follows_mixed Tryd.func68 (by kernel_rfl) (by kernel_rfl) rfl
/-- (*loop.example/g01054/spec.l1Cur).one -/
@[reducible] noncomputable def c_spec_l1Cur_one : Cx := { K := [.box 3 2 true, .dat 0, .no, .no, .dat 0, .ref 0, .dat 0, .dat 0, .dat 0], T := [(3, ty3)], S := [(68, S_spec_l1Cur_pick)], H := [], res := [.tmp 4], ios := [0], G := gl0 }
noncomputable def F_spec_l1Cur_one : List D → Option Out := denF c_spec_l1Cur_one Tryd.f73
@[reducible] noncomputable def S_spec_l1Cur_one : FS := { pm := [.box 3 2 true, .dat 0], rm := [.dat 0], f := F_spec_l1Cur_one }
theorem M_spec_l1Cur_one : Meets gl0 Tryd.prog 73 S_spec_l1Cur_one := meets_of (P := Tryd.prog) (c := c_spec_l1Cur_one) (fn := Tryd.f73) (pm := S_spec_l1Cur_one.pm) (rm := S_spec_l1Cur_one.rm) (by kernel_rfl) (lookCons M_spec_l1Cur_pick lookNil) follows_mixed Tryd.func73 (by kernel_rfl) (by kernel_rfl) rfl
/-- (*loop.example/g01054/spec.l1Cur).font -/
@[reducible] noncomputable def c_spec_l1Cur_font : Cx := { K := [.box 3 2 true, .no, .own 2 0 false, .own 2 0 false, .no, .dat 0, .dat 1, .dat 0, .dat 0, .dat 0, .dat 1, .dat 0, .dat 0, .dat 0, .dat 0, .dat 0, .ref 0, .dat 0, .dat 0, .dat 0, .dat 0, .dat 0, .dat 0, .dat 0, .dat 0, .ref 0, .dat 0, .dat 0, .dat 0, .own 2 0 false, .dat 0, .dat 0, .dat 0, .ref 0, .dat 0, .dat 0, .dat 0, .dat 0, .dat 0, .dat 1, .own 2 0 false, .dat 0, .via 3, .dat 0, .dat 0, .dat 0, .own 2 0 false, .own 2 0 false], T := [(3, ty3), (9, ty9), (40, ty40), (105, ty105), (117, ty117)], S := [(68, S_spec_l1Cur_pick), (73, S_spec_l1Cur_one)], H := [(0, ([0, 3, 6, 7, 8], [0, 3]))], res := [.tmp 2], ios := [0], G := gl0 }
noncomputable def F_spec_l1Cur_font : List D → Option Out := denF c_spec_l1Cur_font Tryd.f87
@[reducible] noncomputable def S_spec_l1Cur_font : FS := { pm := [.box 3 2 true], rm := [.own 2 0 false], f := F_spec_l1Cur_font }
theorem M_spec_l1Cur_font : Meets gl0 Tryd.prog 87 S_spec_l1Cur_font := meets_of (P := Tryd.prog) (c := c_spec_l1Cur_font) (fn := Tryd.f87) (pm := S_spec_l1Cur_font.pm) (rm := S_spec_l1Cur_font.rm) (by kernel_rfl) (lookCons M_spec_l1Cur_pick (lookCons M_spec_l1Cur_one lookNil)) follows_mixed Tryd.func87 (by kernel_rfl) (by kernel_rfl) rfl
/-- (*loop.example/g01054/spec.l1Cur).among -/
@[reducible] noncomputable def c_spec_l1Cur_among : Cx := { K := [.box 3 2 true, .dat 2, .no, .no, .dat 0, .dat 2, .ref 0, .dat 2, .dat 0, .dat 0, .dat 2, .dat 0], T := [(3, ty3), (30, ty30)], S := [(68, S_spec_l1Cur_pick)], H := [], res := [.tmp 4], ios := [0], G := gl0 }
noncomputable def F_spec_l1Cur_among : List D → Option Out := denF c_spec_l1Cur_among Tryd.f55
@[reducible] noncomputable def S_spec_l1Cur_among : FS := { pm := [.box 3 2 true, .dat 2], rm := [.dat 0], f := F_spec_l1Cur_among }
theorem M_spec_l1Cur_among : Meets gl0 Tryd.prog 55 S_spec_l1Cur_among := meets_of (P := Tryd.prog) (c := c_spec_l1Cur_among) (fn := Tryd.f55) (pm := S_spec_l1Cur_among.pm) (rm := S_spec_l1Cur_among.rm) (by kernel_rfl) (lookCons M_spec_l1Cur_pick lookNil) follows_mixed Tryd.func55 (by kernel_rfl) (by kernel_rfl) rfl
/-- (*loop.example/g01054/spec.l1Cur).boxes -/
@[reducible] noncomputable def c_spec_l1Cur_boxes : Cx := { K := [.box 3 2 true, .dat 2, .no, .no, .own 4 0 false, .own 4 0 false, .dat 0, .no, .box 2 0 false, .ref 0, .dat 0, .dat 2, .dat 0, .dat 0, .dat 0, .dat 2, .dat 0, .own 4 0 false, .ref 8, .dat 0, .dat 0, .dat 0, .dat 0, .dat 0, .dat 0, .ref 0, .dat 1, .dat 0, .dat 0, .dat 1, .own 4 0 false, .dat 0, .ref 0, .dat 0, .dat 0, .dat 0, .dat 0, .own 4 0 false], T := [(3, ty3), (9, ty9), (23, ty23), (30, ty30), (58, ty58), (105, ty105), (117, ty117)], S := [(55, S_spec_l1Cur_among), (68, S_spec_l1Cur_pick)], H := [(0, ([0, 5, 6, 11, 12, 13], [0, 5]))], res := [.tmp 4], ios := [0], G := gl0 }
noncomputable def F_spec_l1Cur_boxes : List D → Option Out := denF c_spec_l1Cur_boxes Tryd.f86
@[reducible] noncomputable def S_spec_l1Cur_boxes : FS := { pm := [.box 3 2 true, .dat 2], rm := [.own 4 0 false], f := F_spec_l1Cur_boxes }
theorem M_spec_l1Cur_boxes : Meets gl0 Tryd.prog 86 S_spec_l1Cur_boxes := meets_of (P := Tryd.prog) (c := c_spec_l1Cur_boxes) (fn := Tryd.f86) (pm := S_spec_l1Cur_boxes.pm) (rm := S_spec_l1Cur_boxes.rm) (by kernel_rfl) (lookCons M_spec_l1Cur_among (lookCons M_spec_l1Cur_pick lookNil)) follows_mixed Tryd.func86 (by kernel_rfl) (by kernel_rfl) rfl
/-- (*loop.example/g01054/spec.l1Cur).of -/
@[reducible] noncomputable def c_spec_l1Cur_of : Cx := { K := [.box 3 2 true, .dat 2, .no, .no, .dat 0, .dat 2, .ref 0, .dat 2, .dat 0, .dat 0, .dat 2, .dat 0], T := [(9, ty9), (40, ty40)], S := [(68, S_spec_l1Cur_pick)], H := [], res := [.tmp 4], ios := [0], G := gl0 }
noncomputable def F_spec_l1Cur_of : List D → Option Out := denF c_spec_l1Cur_of Tryd.f75
@[reducible] noncomputable def S_spec_l1Cur_of : FS := { pm := [.box 3 2 true, .dat 2], rm := [.dat 0], f := F_spec_l1Cur_of }
theorem M_spec_l1Cur_of : Meets gl0 Tryd.prog 75 S_spec_l1Cur_of := meets_of (P := Tryd.prog) (c := c_spec_l1Cur_of) (fn := Tryd.f75) (pm := S_spec_l1Cur_of.pm) (rm := S_spec_l1Cur_of.rm) (by kernel_rfl) (lookCons M_spec_l1Cur_pick lookNil) follows_mixed Tryd.func75 (by kernel_rfl) (by kernel_rfl) rfl
/-- (*loop.example/g01054/spec.l1Cur).anyCase -/
@[reducible] noncomputable def c_spec_l1Cur_anyCase : Cx := { K := [.box 3 2 true, .no, .own 4 0 false, .own 4 0 false, .dat 0, .dat 0, .dat 0, .ref 0, .ref 0, .dat 1, .own 4 0 false, .ref 0, .via 3, .dat 0, .dat 0, .ref 0, .dat 0, .dat 0, .dat 0, .via 3, .dat 0, .ref 0, .dat 1, .dat 0, .ref 3, .ref 3, .dat 0, .dat 0, .via 3, .dat 0, .ref 0, .dat 1, .dat 0, .ref 3, .ref 3, .dat 0, .dat 0, .via 3, .dat 0, .ref 0, .dat 1, .dat 0, .ref 3, .ref 3, .dat 0, .dat 0, .own 4 0 false, .own 4 0 false, .dat 0, .dat 0, .ref 0, .dat 0, .dat 0, .via 3, .dat 0, .dat 0, .dat 0, .via 3, .dat 0, .own 4 0 false, .dat 0, .dat 0, .dat 0, .dat 0, .dat 0, .dat 0, .dat 0, .dat 0, .dat 1, .dat 0, .dat 0, .dat 0, .dat 0, .dat 0, .dat 0, .dat 1, .own 4 0 false, .own 4 0 false], T := [(3, ty3), (5, ty5), (9, ty9), (22, ty22), (23, ty23), (30, ty30), (40, ty40), (58, ty58)], S := [(55, S_spec_l1Cur_among), (68, S_spec_l1Cur_pick), (75, S_spec_l1Cur_of), (86, S_spec_l1Cur_boxes), (87, S_spec_l1Cur_font)], H := [(1, ([0, 3, 5], [0, 3]))], res := [.tmp 2], ios := [0], G := gl0 }
noncomputable def F_spec_l1Cur_anyCase : List D → Option Out := denF c_spec_l1Cur_anyCase Tryd.f67
@[reducible] noncomputable def S_spec_l1Cur_anyCase : FS := { pm := [.box 3 2 true], rm := [.own 4 0 false], f := F_spec_l1Cur_anyCase }
theorem M_spec_l1Cur_anyCase : Meets gl0 Tryd.prog 67 S_spec_l1Cur_anyCase := meets_of (P := Tryd.prog) (c := c_spec_l1Cur_anyCase) (fn := Tryd.f67) (pm := S_spec_l1Cur_anyCase.pm) (rm := S_spec_l1Cur_anyCase.rm) (by kernel_rfl) (lookCons M_spec_l1Cur_among (lookCons M_spec_l1Cur_pick (lookCons M_spec_l1Cur_of (lookCons M_spec_l1Cur_boxes (lookCons M_spec_l1Cur_font lookNil))))) follows_mixed Tryd.func67 (by kernel_rfl) (by kernel_rfl) rfl
/-- (*loop.example/g01054/spec.l1Cur).codesOf -/
@[reducible] noncomputable def c_spec_l1Cur_codesOf : Cx := { K := [.box 3 2 true, .dat 2, .no, .no, .own 1 0 false, .own 1 0 false, .dat 0, .ref 0, .dat 0, .ref 0, .dat 0, .ref 0, .dat 0, .dat 0, .via 5, .dat 0, .dat 0, .dat 0, .dat 2, .dat 0, .dat 0, .dat 0, .ref 0, .dat 0, .dat 0, .own 1 0 false, .ref 0, .dat 1, .dat 0, .dat 1, .own 1 0 false, .own 1 0 false, .dat 2, .ref 0, .dat 2, .dat 0, .dat 0, .dat 2, .dat 2, .dat 0, .dat 1, .own 1 0 false, .own 1 0 false], T := [(3, ty3), (9, ty9), (23, ty23), (40, ty40), (58, ty58)], S := [(68, S_spec_l1Cur_pick), (73, S_spec_l1Cur_one), (75, S_spec_l1Cur_of)], H := [(0, ([0, 1, 5, 6], [0, 5]))], res := [.tmp 4], ios := [0], G := gl0 }
noncomputable def F_spec_l1Cur_codesOf : List D → Option Out := denF c_spec_l1Cur_codesOf Tryd.f74
@[reducible] noncomputable def S_spec_l1Cur_codesOf : FS := { pm := [.box 3 2 true, .dat 2], rm := [.own 1 0 false], f := F_spec_l1Cur_codesOf }
theorem M_spec_l1Cur_codesOf : Meets gl0 Tryd.prog 74 S_spec_l1Cur_codesOf := meets_of (P := Tryd.prog) (c := c_spec_l1Cur_codesOf) (fn := Tryd.f74) (pm := S_spec_l1Cur_codesOf.pm) (rm := S_spec_l1Cur_codesOf.rm) (by kernel_rfl) (lookCons M_spec_l1Cur_pick (lookCons M_spec_l1Cur_one (lookCons M_spec_l1Cur_of lookNil))) follows_mixed Tryd.func74 (by kernel_rfl) (by kernel_rfl) rfl
/-- loop.example/g01054/spec.DrawHandWay -/
@[reducible] noncomputable def c_spec_DrawHandWay : Cx := { K := [.dat 2, .no, .dat 1, .own 1 0 false, .ref 8, .dat 1, .dat 2, .dat 2, .box 3 2 false, .ref 8, .dat 1, .dat 1, .ref 8, .dat 1, .own 1 0 false], T := [(3, ty3), (22, ty22), (23, ty23), (40, ty40), (75, ty75), (77, ty77)], S := [(67, S_spec_l1Cur_anyCase), (74, S_spec_l1Cur_codesOf)], H := [], res := [.tmp 2, .tmp 3], ios := [], G := gl0 }
noncomputable def F_spec_DrawHandWay : List D → Option Out := denF c_spec_DrawHandWay Tryd.f57
@[reducible] noncomputable def S_spec_DrawHandWay : FS := { pm := [.dat 2], rm := [.dat 1, .own 1 0 false], f := F_spec_DrawHandWay }
theorem M_spec_DrawHandWay : Meets gl0 Tryd.prog 57 S_spec_DrawHandWay := meets_of (P := Tryd.prog) (c := c_spec_DrawHandWay) (fn := Tryd.f57) (pm := S_spec_DrawHandWay.pm) (rm := S_spec_DrawHandWay.rm) (by kernel_rfl) (lookCons M_spec_l1Cur_anyCase (lookCons M_spec_l1Cur_codesOf lookNil)) follows_mixed Tryd.func57 (by kernel_rfl) (by kernel_rfl) rfl
/-- loop.example/g01054/spec.DrawTakeTypes -/
@[reducible] noncomputable def c_spec_DrawTakeTypes : Cx := { K := [.dat 2, .no, .dat 1, .own 1 0 false, .dat 2, .tup [.dat 1, .own 1 0 false], .dat 1, .own 1 0 false], T := [(23, ty23), (40, ty40)], S := [(57, S_spec_DrawHandWay)], H := [], res := [.tmp 2, .tmp 3], ios := [], G := gl0 }
noncomputable def F_spec_DrawTakeTypes : List D → Option Out := denF c_spec_DrawTakeTypes Tryd.f21
@[reducible] noncomputable def S_spec_DrawTakeTypes : FS := { pm := [.dat 2], rm := [.dat 1, .own 1 0 false], f := F_spec_DrawTakeTypes }
theorem M_spec_DrawTakeTypes : Meets gl0 Tryd.prog 21 S_spec_DrawTakeTypes := meets_of (P := Tryd.prog) (c := c_spec_DrawTakeTypes) (fn := Tryd.f21) (pm := S_spec_DrawTakeTypes.pm) (rm := S_spec_DrawTakeTypes.rm) (by kernel_rfl) (lookCons M_spec_DrawHandWay lookNil) follows_mixed Tryd.func21 (by kernel_rfl) (by kernel_rfl) rfl
/-- loop.example/g01054/impl.boxAt -/
@[reducible] noncomputable def c_impl_boxAt : Cx := { K := [.dat 2, .dat 0, .no, .no, .dat 0, .dat 0, .box 4 0 false, .dat 2, .dat 0, .dat 0, .dat 0, .dat 0, .dat 2, .dat 0, .ref 6, .dat 0, .dat 0, .dat 0, .dat 0, .dat 0], T := [(3, ty3), (9, ty9), (23, ty23), (58, ty58)], S := [], H := [(0, ([1, 7, 8, 9], []))], res := [.tmp 4], ios := [], G := gl0 }
noncomputable def F_impl_boxAt : List D → Option Out := denF c_impl_boxAt Tryd.f64
@[reducible] noncomputable def S_impl_boxAt : FS := { pm := [.dat 2, .dat 0], rm := [.dat 0], f := F_impl_boxAt }
theorem M_impl_boxAt : Meets gl0 Tryd.prog 64 S_impl_boxAt := meets_of (P := Tryd.prog) (c := c_impl_boxAt) (fn := Tryd.f64) (pm := S_impl_boxAt.pm) (rm := S_impl_boxAt.rm) (by kernel_rfl) lookNil follows_mixed Tryd.func64 (by kernel_rfl) (by kernel_rfl) rfl
/-- loop.example/g01054/impl.within -/
@[reducible] noncomputable def c_impl_within : Cx := { K := [.dat 0, .dat 0, .dat 0, .no, .no, .no, .dat 0, .dat 0, .dat 0, .dat 0, .dat 0, .dat 0, .dat 0, .dat 0, .dat 0], T := [(3, ty3)], S := [], H := [], res := [.tmp 6], ios := [], G := gl0 }
noncomputable def F_impl_within : List D → Option Out := denF c_impl_within Tryd.f51
@[reducible] noncomputable def S_impl_within : FS := { pm := [.dat 0, .dat 0, .dat 0], rm := [.dat 0], f := F_impl_within }
theorem M_impl_within : Meets gl0 Tryd.prog 51 S_impl_within := meets_of (P := Tryd.prog) (c := c_impl_within) (fn := Tryd.f51) (pm := S_impl_within.pm) (rm := S_impl_within.rm) (by kernel_rfl) lookNil follows_mixed Tryd.func51 (by kernel_rfl) (by kernel_rfl) rfl
/-- loop.example/g01054/impl.areLetters -/
@[reducible] noncomputable def c_impl_areLetters : Cx := { K := [.dat 0, .dat 0, .dat 0, .no, .no, .no, .dat 0, .dat 0, .dat 0, .dat 0, .dat 0, .dat 0, .dat 0, .dat 0, .dat 0, .dat 0, .dat 0, .dat 0, .dat 0, .dat 0, .dat 0, .dat 0, .dat 0, .dat 0, .dat 0, .dat 0, .dat 0, .dat 0, .dat 0], T := [(3, ty3), (5, ty5), (9, ty9)], S := [(51, S_impl_within)], H := [(0, ([0, 1, 2, 7], [0, 1, 2]))], res := [.tmp 6], ios := [], G := gl0 }
noncomputable def F_impl_areLetters : List D → Option Out := denF c_impl_areLetters Tryd.f90
@[reducible] noncomputable def S_impl_areLetters : FS := { pm := [.dat 0, .dat 0, .dat 0], rm := [.dat 0], f := F_impl_areLetters }
theorem M_impl_areLetters : Meets gl0 Tryd.prog 90 S_impl_areLetters := meets_of (P := Tryd.prog) (c := c_impl_areLetters) (fn := Tryd.f90) (pm := S_impl_areLetters.pm) (rm := S_impl_areLetters.rm) (by kernel_rfl) (lookCons M_impl_within lookNil) follows_mixed Tryd.func90 (by kernel_rfl) (by kernel_rfl) rfl
/-- loop.example/g01054/impl.isCode -/
@[reducible] noncomputable def c_impl_isCode : Cx := { K := [.dat 0, .no, .dat 0, .dat 0, .dat 0], T := [], S := [(90, S_impl_areLetters)], H := [], res := [.tmp 2], ios := [], G := gl0 }
noncomputable def F_impl_isCode : List D → Option Out := denF c_impl_isCode Tryd.f65
@[reducible] noncomputable def S_impl_isCode : FS := { pm := [.dat 0], rm := [.dat 0], f := F_impl_isCode }
theorem M_impl_isCode : Meets gl0 Tryd.prog 65 S_impl_isCode := meets_of (P := Tryd.prog) (c := c_impl_isCode) (fn := Tryd.f65) (pm := S_impl_isCode.pm) (rm := S_impl_isCode.rm) (by kernel_rfl) (lookCons M_impl_areLetters lookNil) follows_mixed Tryd.func65 (by kernel_rfl) (by kernel_rfl) rfl
/-- loop.example/g01054/impl.isPlace -/
@[reducible] noncomputable def c_impl_isPlace : Cx := { K := [.dat 0, .no, .dat 0, .dat 0, .dat 0], T := [], S := [(51, S_impl_within)], H := [], res := [.tmp 2], ios := [], G := gl0 }
noncomputable def F_impl_isPlace : List D → Option Out := denF c_impl_isPlace Tryd.f66
@[reducible] noncomputable def S_impl_isPlace : FS := { pm := [.dat 0], rm := [.dat 0], f := F_impl_isPlace }
theorem M_impl_isPlace : Meets gl0 Tryd.prog 66 S_impl_isPlace := meets_of (P := Tryd.prog) (c := c_impl_isPlace) (fn := Tryd.f66) (pm := S_impl_isPlace.pm) (rm := S_impl_isPlace.rm) (by kernel_rfl) (lookCons M_impl_within lookNil) follows_mixed Tryd.func66 (by kernel_rfl) (by kernel_rfl) rfl
/-- loop.example/g01054/impl.IsBox -/
@[reducible] noncomputable def c_impl_IsBox : Cx := { K := [.dat 0, .box 4 0 false, .dat 0, .ref 1, .dat 0, .dat 0, .dat 0, .ref 1, .dat 0, .dat 0, .dat 0, .dat 0, .ref 1, .dat 0, .dat 0, .dat 0, .dat 0, .ref 1, .dat 0, .dat 0, .dat 0], T := [(3, ty3), (9, ty9), (58, ty58)], S := [(51, S_impl_within), (65, S_impl_isCode), (66, S_impl_isPlace)], H := [], res := [.tmp 2], ios := [], G := gl0 }
noncomputable def F_impl_IsBox : List D → Option Out := denF c_impl_IsBox Tryd.f32
@[reducible] noncomputable def S_impl_IsBox : FS := { pm := [.dat 0], rm := [.dat 0], f := F_impl_IsBox }
theorem M_impl_IsBox : Meets gl0 Tryd.prog 32 S_impl_IsBox := meets_of (P := Tryd.prog) (c := c_impl_IsBox) (fn := Tryd.f32) (pm := S_impl_IsBox.pm) (rm := S_impl_IsBox.rm) (by kernel_rfl) (lookCons M_impl_within (lookCons M_impl_isCode (lookCons M_impl_isPlace lookNil))) follows_mixed Tryd.func32 (by kernel_rfl) (by kernel_rfl) rfl
/-- loop.example/g01054/impl.isTaken -/
@[reducible] noncomputable def c_impl_isTaken : Cx := { K := [.dat 2, .dat 0, .dat 0, .no, .no, .no, .dat 0, .no, .box 4 0 false, .dat 2, .dat 0, .dat 0, .dat 0, .dat 2, .dat 0, .ref 8, .dat 0, .dat 0, .dat 0, .dat 0, .ref 8, .dat 0, .dat 0, .dat 0, .dat 0, .dat 0], T := [(3, ty3), (9, ty9), (23, ty23), (58, ty58)], S := [], H := [(0, ([1, 2, 9, 10, 11], []))], res := [.tmp 6], ios := [], G := gl0 }
noncomputable def F_impl_isTaken : List D → Option Out := denF c_impl_isTaken Tryd.f63
@[reducible] noncomputable def S_impl_isTaken : FS := { pm := [.dat 2, .dat 0, .dat 0], rm := [.dat 0], f := F_impl_isTaken }
theorem M_impl_isTaken : Meets gl0 Tryd.prog 63 S_impl_isTaken := meets_of (P := Tryd.prog) (c := c_impl_isTaken) (fn := Tryd.f63) (pm := S_impl_isTaken.pm) (rm := S_impl_isTaken.rm) (by kernel_rfl) lookNil follows_mixed Tryd.func63 (by kernel_rfl) (by kernel_rfl) rfl
/-- loop.example/g01054/impl.IsCase -/
@[reducible] noncomputable def c_impl_IsCase : Cx := { K := [.dat 2, .no, .dat 0, .dat 0, .box 4 0 false, .dat 2, .dat 0, .dat 0, .dat 0, .dat 0, .dat 2, .dat 0, .dat 0, .dat 0, .dat 0, .dat 0, .dat 0, .dat 0, .dat 0, .dat 2, .dat 0, .dat 0, .dat 2, .dat 2, .dat 0, .ref 4, .dat 0, .dat 0, .dat 0, .dat 0, .dat 0, .dat 2, .dat 0, .dat 2, .ref 4, .dat 0, .ref 4, .dat 0, .dat 0, .dat 0, .dat 0, .dat 2, .dat 0, .dat 0], T := [(3, ty3), (9, ty9), (23, ty23), (58, ty58)], S := [(32, S_impl_IsBox), (51, S_impl_within), (63, S_impl_isTaken)], H := [(0, ([0, 5, 6, 7], [0]))], res := [.tmp 2], ios := [], G := gl0 }
noncomputable def F_impl_IsCase : List D → Option Out := denF c_impl_IsCase Tryd.f29
@[reducible] noncomputable def S_impl_IsCase : FS := { pm := [.dat 2], rm := [.dat 0], f := F_impl_IsCase }
theorem M_impl_IsCase : Meets gl0 Tryd.prog 29 S_impl_IsCase := meets_of (P := Tryd.prog) (c := c_impl_IsCase) (fn := Tryd.f29) (pm := S_impl_IsCase.pm) (rm := S_impl_IsCase.rm) (by kernel_rfl) (lookCons M_impl_IsBox (lookCons M_impl_within (lookCons M_impl_isTaken lookNil))) follows_mixed Tryd.func29 (by kernel_rfl) (by kernel_rfl) rfl
/-- loop.example/g01054/impl.areCodes -/
@[reducible] noncomputable def c_impl_areCodes : Cx := { K := [.dat 2, .dat 2, .no, .no, .dat 0, .no, .dat 0, .dat 2, .dat 0, .dat 0, .dat 0, .dat 2, .dat 0, .dat 2, .dat 0, .dat 0, .dat 0, .dat 0, .dat 2, .dat 0, .dat 0, .dat 2, .dat 0, .dat 0, .dat 0], T := [(3, ty3), (9, ty9), (40, ty40)], S := [(29, S_impl_IsCase), (64, S_impl_boxAt)], H := [(0, ([0, 1, 7, 8, 9], [0, 1]))], res := [.tmp 4], ios := [], G := gl0 }
noncomputable def F_impl_areCodes : List D → Option Out := denF c_impl_areCodes Tryd.f82
@[reducible] noncomputable def S_impl_areCodes : FS := { pm := [.dat 2, .dat 2], rm := [.dat 0], f := F_impl_areCodes }
theorem M_impl_areCodes : Meets gl0 Tryd.prog 82 S_impl_areCodes := meets_of (P := Tryd.prog) (c := c_impl_areCodes) (fn := Tryd.f82) (pm := S_impl_areCodes.pm) (rm := S_impl_areCodes.rm) (by kernel_rfl) (lookCons M_impl_IsCase (lookCons M_impl_boxAt lookNil)) follows_mixed Tryd.func82 (by kernel_rfl) (by kernel_rfl) rfl
/-- loop.example/g01054/impl.changed -/
@[reducible] noncomputable def c_impl_changed : Cx := { K := [.dat 2, .dat 2, .dat 0, .no, .no, .no, .own 4 0 false, .dat 0, .own 4 0 false, .no, .dat 0, .dat 2, .dat 2, .dat 0, .dat 0, .own 4 0 false, .own 4 0 false, .dat 2, .own 4 0 false, .dat 2, .dat 0, .dat 0, .dat 0, .dat 2, .dat 0, .via 8, .dat 2, .dat 0, .dat 0, .ref 8, .ref 8, .dat 0, .dat 0, .dat 0, .ref 8, .ref 8, .dat 0, .via 8, .dat 0, .dat 0, .own 4 0 false, .own 4 0 false], T := [(3, ty3), (9, ty9), (23, ty23), (40, ty40), (58, ty58)], S := [(29, S_impl_IsCase), (64, S_impl_boxAt), (82, S_impl_areCodes)], H := [(0, ([0, 2, 8, 19, 20, 21], [8]))], res := [.tmp 6, .tmp 7], ios := [], G := gl0 }
noncomputable def F_impl_changed : List D → Option Out := denF c_impl_changed Tryd.f58
@[reducible] noncomputable def S_impl_changed : FS := { pm := [.dat 2, .dat 2, .dat 0], rm := [.own 4 0 false, .dat 0], f := F_impl_changed }
theorem M_impl_changed : Meets gl0 Tryd.prog 58 S_impl_changed := meets_of (P := Tryd.prog) (c := c_impl_changed) (fn := Tryd.f58) (pm := S_impl_changed.pm) (rm := S_impl_changed.rm) (by kernel_rfl) (lookCons M_impl_IsCase (lookCons M_impl_boxAt (lookCons M_impl_areCodes lookNil))) follows_mixed Tryd.func58 (by kernel_rfl) (by kernel_rfl) rfl
/-- loop.example/g01054/impl.TakeTypes -/
@[reducible] noncomputable def c_impl_TakeTypes : Cx := { K := [.dat 2, .dat 2, .no, .no, .own 4 0 false, .dat 0, .dat 2, .dat 2, .tup [.own 4 0 false, .dat 0], .own 4 0 false, .dat 0], T := [(23, ty23)], S := [(58, S_impl_changed)], H := [], res := [.tmp 4, .tmp 5], ios := [], G := gl0 }
noncomputable def F_impl_TakeTypes : List D → Option Out := denF c_impl_TakeTypes Tryd.f22
@[reducible] noncomputable def S_impl_TakeTypes : FS := { pm := [.dat 2, .dat 2], rm := [.own 4 0 false, .dat 0], f := F_impl_TakeTypes }
theorem M_impl_TakeTypes : Meets gl0 Tryd.prog 22 S_impl_TakeTypes := meets_of (P := Tryd.prog) (c := c_impl_TakeTypes) (fn := Tryd.f22) (pm := S_impl_TakeTypes.pm) (rm := S_impl_TakeTypes.rm) (by kernel_rfl) (lookCons M_impl_changed lookNil) follows_mixed Tryd.func22 (by kernel_rfl) (by kernel_rfl) rfl
/-- loop.example/g01054/spec.caFind -/
@[reducible] noncomputable def c_spec_caFind : Cx := { K := [.dat 2, .dat 0, .no, .no, .dat 0, .dat 0, .box 4 0 false, .dat 2, .dat 0, .dat 0, .dat 0, .dat 0, .dat 2, .dat 0, .ref 6, .dat 0, .dat 0, .dat 0, .dat 0, .dat 0], T := [(3, ty3), (9, ty9), (23, ty23), (58, ty58)], S := [], H := [(0, ([1, 7, 8, 9], []))], res := [.tmp 4], ios := [], G := gl0 }
noncomputable def F_spec_caFind : List D → Option Out := denF c_spec_caFind Tryd.f76
@[reducible] noncomputable def S_spec_caFind : FS := { pm := [.dat 2, .dat 0], rm := [.dat 0], f := F_spec_caFind }
theorem M_spec_caFind : Meets gl0 Tryd.prog 76 S_spec_caFind := meets_of (P := Tryd.prog) (c := c_spec_caFind) (fn := Tryd.f76) (pm := S_spec_caFind.pm) (rm := S_spec_caFind.rm) (by kernel_rfl) lookNil follows_mixed Tryd.func76 (by kernel_rfl) (by kernel_rfl) rfl
/-- loop.example/g01054/spec.l1In -/
@[reducible] noncomputable def c_spec_l1In : Cx := { K := [.dat 0, .dat 0, .dat 0, .no, .no, .no, .dat 0, .dat 0, .dat 0, .dat 0, .dat 0, .dat 0, .dat 0, .dat 0, .dat 0], T := [(3, ty3)], S := [], H := [], res := [.tmp 6], ios := [], G := gl0 }
noncomputable def F_spec_l1In : List D → Option Out := denF c_spec_l1In Tryd.f71
@[reducible] noncomputable def S_spec_l1In : FS := { pm := [.dat 0, .dat 0, .dat 0], rm := [.dat 0], f := F_spec_l1In }
theorem M_spec_l1In : Meets gl0 Tryd.prog 71 S_spec_l1In := meets_of (P := Tryd.prog) (c := c_spec_l1In) (fn := Tryd.f71) (pm := S_spec_l1In.pm) (rm := S_spec_l1In.rm) (by kernel_rfl) lookNil follows_mixed Tryd.func71 (by kernel_rfl) (by kernel_rfl) rfl
/-- loop.example/g01054/spec.tyLetters -/
@[reducible] noncomputable def c_spec_tyLetters : Cx := { K := [.dat 0, .dat 0, .no, .no, .dat 0, .dat 0, .dat 0, .dat 0, .dat 0, .dat 0, .dat 0, .dat 0, .dat 0, .dat 0, .dat 0, .dat 0, .dat 0, .dat 0, .dat 0, .dat 0, .dat 0, .dat 0, .dat 0, .dat 0, .dat 0, .dat 0], T := [(3, ty3), (5, ty5), (9, ty9)], S := [(71, S_spec_l1In)], H := [(0, ([0, 1, 5], [0, 1]))], res := [.tmp 4], ios := [], G := gl0 }
noncomputable def F_spec_tyLetters : List D → Option Out := denF c_spec_tyLetters Tryd.f92
@[reducible] noncomputable def S_spec_tyLetters : FS := { pm := [.dat 0, .dat 0], rm := [.dat 0], f := F_spec_tyLetters }
theorem M_spec_tyLetters : Meets gl0 Tryd.prog 92 S_spec_tyLetters := meets_of (P := Tryd.prog) (c := c_spec_tyLetters) (fn := Tryd.f92) (pm := S_spec_tyLetters.pm) (rm := S_spec_tyLetters.rm) (by kernel_rfl) (lookCons M_spec_l1In lookNil) follows_mixed Tryd.func92 (by kernel_rfl) (by kernel_rfl) rfl
/-- loop.example/g01054/spec.caBox -/
@[reducible] noncomputable def c_spec_caBox : Cx := { K := [.dat 0, .box 4 0 false, .dat 0, .ref 1, .dat 0, .dat 0, .dat 0, .ref 1, .dat 0, .dat 0, .dat 0, .dat 0, .ref 1, .dat 0, .dat 0, .dat 0, .dat 0, .ref 1, .dat 0, .dat 0, .dat 0], T := [(3, ty3), (9, ty9), (58, ty58)], S := [(71, S_spec_l1In), (92, S_spec_tyLetters)], H := [], res := [.tmp 2], ios := [], G := gl0 }
noncomputable def F_spec_caBox : List D → Option Out := denF c_spec_caBox Tryd.f77
@[reducible] noncomputable def S_spec_caBox : FS := { pm := [.dat 0], rm := [.dat 0], f := F_spec_caBox }
theorem M_spec_caBox : Meets gl0 Tryd.prog 77 S_spec_caBox := meets_of (P := Tryd.prog) (c := c_spec_caBox) (fn := Tryd.f77) (pm := S_spec_caBox.pm) (rm := S_spec_caBox.rm) (by kernel_rfl) (lookCons M_spec_l1In (lookCons M_spec_tyLetters lookNil)) follows_mixed Tryd.func77 (by kernel_rfl) (by kernel_rfl) rfl
/-- loop.example/g01054/spec.caGood -/
@[reducible] noncomputable def c_spec_caGood : Cx := { K := [.dat 2, .no, .dat 0, .dat 0, .box 4 0 false, .no, .box 4 0 false, .dat 2, .dat 0, .dat 0, .dat 0, .dat 0, .dat 2, .dat 0, .dat 0, .dat 0, .dat 0, .dat 0, .dat 0, .dat 0, .dat 0, .dat 2, .dat 0, .dat 0, .dat 2, .dat 2, .dat 0, .ref 4, .dat 0, .dat 0, .dat 0, .dat 0, .dat 2, .dat 0, .dat 2, .dat 0, .dat 0, .dat 0, .dat 2, .dat 0, .ref 6, .dat 0, .ref 4, .dat 0, .dat 0, .dat 0, .ref 6, .dat 0, .ref 4, .dat 0, .dat 0, .dat 0, .dat 0, .dat 0, .dat 2, .dat 0, .dat 0], T := [(3, ty3), (9, ty9), (23, ty23), (58, ty58)], S := [(71, S_spec_l1In), (77, S_spec_caBox)], H := [(0, ([0, 7, 8, 9], [0])), (2, ([0, 4, 7, 8, 9, 34, 35, 36], [0, 7, 8, 9]))], res := [.tmp 2], ios := [], G := gl0 }
noncomputable def F_spec_caGood : List D → Option Out := denF c_spec_caGood Tryd.f60
@[reducible] noncomputable def S_spec_caGood : FS := { pm := [.dat 2], rm := [.dat 0], f := F_spec_caGood }
theorem M_spec_caGood : Meets gl0 Tryd.prog 60 S_spec_caGood := meets_of (P := Tryd.prog) (c := c_spec_caGood) (fn := Tryd.f60) (pm := S_spec_caGood.pm) (rm := S_spec_caGood.rm) (by kernel_rfl) (lookCons M_spec_l1In (lookCons M_spec_caBox lookNil)) follows_mixed Tryd.func60 (by kernel_rfl) (by kernel_rfl) rfl
/-- loop.example/g01054/spec.caAsked -/
@[reducible] noncomputable def c_spec_caAsked : Cx := { K := [.dat 2, .dat 2, .no, .no, .dat 0, .no, .dat 0, .dat 2, .dat 0, .dat 0, .dat 0, .dat 2, .dat 0, .dat 2, .dat 0, .dat 0, .dat 0, .dat 0, .dat 2, .dat 0, .dat 0, .dat 2, .dat 0, .dat 0, .dat 0], T := [(3, ty3), (9, ty9), (40, ty40)], S := [(60, S_spec_caGood), (76, S_spec_caFind)], H := [(0, ([0, 1, 7, 8, 9], [0, 1]))], res := [.tmp 4], ios := [], G := gl0 }
noncomputable def F_spec_caAsked : List D → Option Out := denF c_spec_caAsked Tryd.f59
@[reducible] noncomputable def S_spec_caAsked : FS := { pm := [.dat 2, .dat 2], rm := [.dat 0], f := F_spec_caAsked }
theorem M_spec_caAsked : Meets gl0 Tryd.prog 59 S_spec_caAsked := meets_of (P := Tryd.prog) (c := c_spec_caAsked) (fn := Tryd.f59) (pm := S_spec_caAsked.pm) (rm := S_spec_caAsked.rm) (by kernel_rfl) (lookCons M_spec_caGood (lookCons M_spec_caFind lookNil)) follows_mixed Tryd.func59 (by kernel_rfl) (by kernel_rfl) rfl
/-- loop.example/g01054/spec.caMove -/
@[reducible] noncomputable def c_spec_caMove : Cx := { K := [.dat 2, .dat 2, .dat 0, .no, .no, .no, .own 4 0 false, .dat 0, .own 4 0 false, .no, .dat 0, .own 4 0 false, .dat 2, .own 4 0 false, .dat 2, .dat 0, .dat 0, .dat 0, .dat 2, .dat 0, .via 8, .via 8, .dat 0, .dat 0, .ref 8, .ref 8, .dat 0, .dat 0, .dat 0, .ref 8, .ref 8, .dat 0, .via 8, .dat 0, .dat 0, .own 4 0 false], T := [(3, ty3), (9, ty9), (23, ty23), (40, ty40), (58, ty58)], S := [(60, S_spec_caGood), (76, S_spec_caFind)], H := [(0, ([2, 8, 14, 15, 16], [8]))], res := [.tmp 6, .tmp 7], ios := [], G := gl0 }
noncomputable def F_spec_caMove : List D → Option Out := denF c_spec_caMove Tryd.f46
@[reducible] noncomputable def S_spec_caMove : FS := { pm := [.dat 2, .dat 2, .dat 0], rm := [.own 4 0 false, .dat 0], f := F_spec_caMove }
theorem M_spec_caMove : Meets gl0 Tryd.prog 46 S_spec_caMove := meets_of (P := Tryd.prog) (c := c_spec_caMove) (fn := Tryd.f46) (pm := S_spec_caMove.pm) (rm := S_spec_caMove.rm) (by kernel_rfl) (lookCons M_spec_caGood (lookCons M_spec_caFind lookNil)) follows_mixed Tryd.func46 (by kernel_rfl) (by kernel_rfl) rfl
/-- loop.example/g01054/spec.TakeTypes -/
@[reducible] noncomputable def c_spec_TakeTypes : Cx := { K := [.dat 2, .dat 2, .no, .no, .own 4 0 false, .dat 0, .dat 2, .dat 2, .dat 0, .dat 0, .dat 2, .dat 2, .tup [.own 4 0 false, .dat 0], .own 4 0 false, .dat 0], T := [(23, ty23)], S := [(46, S_spec_caMove), (59, S_spec_caAsked)], H := [], res := [.tmp 4, .tmp 5], ios := [], G := gl0 }
noncomputable def F_spec_TakeTypes : List D → Option Out := denF c_spec_TakeTypes Tryd.f23
@[reducible] noncomputable def S_spec_TakeTypes : FS := { pm := [.dat 2, .dat 2], rm := [.own 4 0 false, .dat 0], f := F_spec_TakeTypes }
theorem M_spec_TakeTypes : Meets gl0 Tryd.prog 23 S_spec_TakeTypes := meets_of (P := Tryd.prog) (c := c_spec_TakeTypes) (fn := Tryd.f23) (pm := S_spec_TakeTypes.pm) (rm := S_spec_TakeTypes.rm) (by kernel_rfl) (lookCons M_spec_caMove (lookCons M_spec_caAsked lookNil)) follows_mixed Tryd.func23 (by kernel_rfl) (by kernel_rfl) rfl
/-- loop.example/g01054/impl.TypesIn -/
@[reducible] noncomputable def c_impl_TypesIn : Cx := { K := [.dat 2, .no, .dat 0, .dat 0, .dat 0, .no, .box 4 0 false, .dat 2, .dat 0, .dat 0, .dat 2, .dat 0, .dat 0, .dat 0, .dat 2, .dat 0, .dat 0, .ref 6, .dat 0, .dat 0, .dat 0, .dat 0], T := [(3, ty3), (9, ty9), (23, ty23), (58, ty58)], S := [(29, S_impl_IsCase)], H := [(0, ([4, 10, 11, 12], [4]))], res := [.tmp 2, .tmp 3], ios := [], G := gl0 }
noncomputable def F_impl_TypesIn : List D → Option Out := denF c_impl_TypesIn Tryd.f24
@[reducible] noncomputable def S_impl_TypesIn : FS := { pm := [.dat 2], rm := [.dat 0, .dat 0], f := F_impl_TypesIn }
theorem M_impl_TypesIn : Meets gl0 Tryd.prog 24 S_impl_TypesIn := meets_of (P := Tryd.prog) (c := c_impl_TypesIn) (fn := Tryd.f24) (pm := S_impl_TypesIn.pm) (rm := S_impl_TypesIn.rm) (by kernel_rfl) (lookCons M_impl_IsCase lookNil) follows_mixed Tryd.func24 (by kernel_rfl) (by kernel_rfl) rfl
/-- loop.example/g01054/spec.caSum -/
@[reducible] noncomputable def c_spec_caSum : Cx := { K := [.dat 2, .no, .dat 0, .dat 0, .no, .box 4 0 false, .dat 2, .dat 0, .dat 0, .dat 0, .dat 2, .dat 0, .dat 0, .ref 5, .dat 0, .dat 0, .dat 0, .dat 0], T := [(3, ty3), (9, ty9), (23, ty23), (58, ty58)], S := [], H := [(0, ([3, 6, 7, 8], [3]))], res := [.tmp 2], ios := [], G := gl0 }
noncomputable def F_spec_caSum : List D → Option Out := denF c_spec_caSum Tryd.f61
@[reducible] noncomputable def S_spec_caSum : FS := { pm := [.dat 2], rm := [.dat 0], f := F_spec_caSum }
theorem M_spec_caSum : Meets gl0 Tryd.prog 61 S_spec_caSum := meets_of (P := Tryd.prog) (c := c_spec_caSum) (fn := Tryd.f61) (pm := S_spec_caSum.pm) (rm := S_spec_caSum.rm) (by kernel_rfl) lookNil follows_mixed Tryd.func61 (by kernel_rfl) (by kernel_rfl) rfl
/-- loop.example/g01054/spec.TypesIn -/
@[reducible] noncomputable def c_spec_TypesIn : Cx := { K := [.dat 2, .no, .dat 0, .dat 0, .dat 2, .dat 0, .dat 0, .dat 2, .dat 0], T := [], S := [(60, S_spec_caGood), (61, S_spec_caSum)], H := [], res := [.tmp 2, .tmp 3], ios := [], G := gl0 }
noncomputable def F_spec_TypesIn : List D → Option Out := denF c_spec_TypesIn Tryd.f25
@[reducible] noncomputable def S_spec_TypesIn : FS := { pm := [.dat 2], rm := [.dat 0, .dat 0], f := F_spec_TypesIn }
theorem M_spec_TypesIn : Meets gl0 Tryd.prog 25 S_spec_TypesIn := meets_of (P := Tryd.prog) (c := c_spec_TypesIn) (fn := Tryd.f25) (pm := S_spec_TypesIn.pm) (rm := S_spec_TypesIn.rm) (by kernel_rfl) (lookCons M_spec_caGood (lookCons M_spec_caSum lookNil)) follows_mixed Tryd.func25 (by kernel_rfl) (by kernel_rfl) rfl
/-- loop.example/g01054/impl.CaseText -/
@[reducible] noncomputable def c_impl_CaseText : Cx := { K := [.dat 2, .no, .dat 0, .dat 0, .dat 0, .no, .box 4 0 false, .dat 2, .dat 0, .dat 0, .dat 2, .dat 0, .dat 0, .dat 0, .dat 2, .dat 0, .dat 0, .ref 6, .dat 0, .dat 0, .ref 6, .dat 0, .dat 0, .dat 0, .dat 0, .ref 6, .dat 0, .dat 0, .dat 0, .dat 0, .ref 6, .dat 0, .dat 0, .dat 0, .dat 0, .dat 0, .dat 0, .dat 0], T := [(3, ty3), (9, ty9), (23, ty23), (58, ty58)], S := [(29, S_impl_IsCase), (47, S_strconv_Itoa)], H := [(0, ([4, 10, 11, 12], [4]))], res := [.tmp 2, .tmp 3], ios := [], G := gl1 }
noncomputable def F_impl_CaseText : List D → Option Out := denF c_impl_CaseText Tryd.f26
@[reducible] noncomputable def S_impl_CaseText : FS := { pm := [.dat 2], rm := [.dat 0, .dat 0], f := F_impl_CaseText }
theorem M_impl_CaseText : Meets gl1 Tryd.prog 26 S_impl_CaseText := meets_of (P := Tryd.prog) (c := c_impl_CaseText) (fn := Tryd.f26) (pm := S_impl_CaseText.pm) (rm := S_impl_CaseText.rm) (by kernel_rfl) (lookCons (meets_mono gl01 M_impl_IsCase) (lookCons M_strconv_Itoa lookNil)) follows_mixed Tryd.func26 (by kernel_rfl) (by kernel_rfl) rfl
/-- loop.example/g01054/spec.l1Num -/
@[reducible] noncomputable def c_spec_l1Num (k : List D → Option Out) : Cx := { K := [.dat 0, .no, .dat 0, .dat 0, .dat 0, .dat 0, .dat 0, .dat 0, .dat 1, .dat 0, .dat 0, .dat 0, .dat 0, .dat 0, .dat 0, .dat 0, .dat 0, .dat 1, .dat 0, .dat 0], T := [(3, ty3), (5, ty5), (9, ty9), (22, ty22)], S := [(48, { pm := [.dat 0], rm := [.dat 0], f := k })], H := [], res := [.tmp 2], ios := [], G := gl0 }
noncomputable def R_spec_l1Num : Nat → List D → Option Out
  | 0, _ => none
  | n + 1, ds => denF (c_spec_l1Num (R_spec_l1Num n)) Tryd.f48 ds
noncomputable def F_spec_l1Num : List D → Option Out := recF R_spec_l1Num
@[reducible] noncomputable def S_spec_l1Num : FS := { pm := [.dat 0], rm := [.dat 0], f := F_spec_l1Num }
theorem MR_spec_l1Num : ∀ n : Nat, Meets gl0 Tryd.prog 48 { pm := [.dat 0], rm := [.dat 0], f := R_spec_l1Num n }
  | 0 => meets_none (fun _ => rfl)
  | n + 1 => by
    have ih := MR_spec_l1Num n
    exact meets_of (P := Tryd.prog) (c := c_spec_l1Num (R_spec_l1Num n)) (fn := Tryd.f48) (pm := S_spec_l1Num.pm) (rm := S_spec_l1Num.rm) (by kernel_rfl) (lookCons ih lookNil) follows_mixed Tryd.func48 (by kernel_rfl) (by kernel_rfl) rfl
theorem M_spec_l1Num : Meets gl0 Tryd.prog 48 S_spec_l1Num := meets_rec MR_spec_l1Num
/-- loop.example/g01054/spec.caText -/
@[reducible] noncomputable def c_spec_caText : Cx := { K := [.dat 2, .no, .dat 0, .dat 0, .no, .box 4 0 false, .dat 2, .dat 0, .dat 0, .dat 0, .dat 2, .dat 0, .dat 0, .ref 5, .dat 0, .dat 0, .ref 5, .dat 0, .dat 0, .dat 0, .dat 0, .ref 5, .dat 0, .dat 0, .dat 0, .dat 0, .ref 5, .dat 0, .dat 0, .dat 0, .dat 0, .dat 0, .dat 0, .dat 0], T := [(3, ty3), (9, ty9), (23, ty23), (58, ty58)], S := [(48, S_spec_l1Num)], H := [(0, ([3, 6, 7, 8], [3]))], res := [.tmp 2], ios := [], G := gl0 }
noncomputable def F_spec_caText : List D → Option Out := denF c_spec_caText Tryd.f62
@[reducible] noncomputable def S_spec_caText : FS := { pm := [.dat 2], rm := [.dat 0], f := F_spec_caText }
theorem M_spec_caText : Meets gl0 Tryd.prog 62 S_spec_caText := meets_of (P := Tryd.prog) (c := c_spec_caText) (fn := Tryd.f62) (pm := S_spec_caText.pm) (rm := S_spec_caText.rm) (by kernel_rfl) (lookCons M_spec_l1Num lookNil) follows_mixed Tryd.func62 (by kernel_rfl) (by kernel_rfl) rfl
/-- loop.example/g01054/spec.CaseText -/
@[reducible] noncomputable def c_spec_CaseText : Cx := { K := [.dat 2, .no, .dat 0, .dat 0, .dat 2, .dat 0, .dat 0, .dat 2, .dat 0], T := [], S := [(60, S_spec_caGood), (62, S_spec_caText)], H := [], res := [.tmp 2, .tmp 3], ios := [], G := gl0 }
noncomputable def F_spec_CaseText : List D → Option Out := denF c_spec_CaseText Tryd.f27
@[reducible] noncomputable def S_spec_CaseText : FS := { pm := [.dat 2], rm := [.dat 0, .dat 0], f := F_spec_CaseText }
theorem M_spec_CaseText : Meets gl0 Tryd.prog 27 S_spec_CaseText := meets_of (P := Tryd.prog) (c := c_spec_CaseText) (fn := Tryd.f27) (pm := S_spec_CaseText.pm) (rm := S_spec_CaseText.rm) (by kernel_rfl) (lookCons M_spec_caGood (lookCons M_spec_caText lookNil)) follows_mixed Tryd.func27 (by kernel_rfl) (by kernel_rfl) rfl
/-- loop.example/g01054/laws.qBoxes -/
@[reducible] noncomputable def c_laws_qBoxes : Cx := { K := [.dat 2, .dat 2, .no, .no, .dat 0, .dat 0, .dat 2, .dat 0, .dat 2, .dat 0, .dat 0, .dat 2, .dat 0, .dat 0, .dat 0, .dat 0, .dat 2, .dat 0, .dat 2, .dat 0, .dat 2, .dat 0, .dat 2, .dat 0, .dat 0, .dat 0], T := [(3, ty3), (9, ty9), (23, ty23), (58, ty58)], S := [], H := [(0, ([0, 1, 12, 13], []))], res := [.tmp 4], ios := [], G := gl0 }
noncomputable def F_laws_qBoxes : List D → Option Out := denF c_laws_qBoxes Tryd.f28
@[reducible] noncomputable def S_laws_qBoxes : FS := { pm := [.dat 2, .dat 2], rm := [.dat 0], f := F_laws_qBoxes }
theorem M_laws_qBoxes : Meets gl0 Tryd.prog 28 S_laws_qBoxes := meets_of (P := Tryd.prog) (c := c_laws_qBoxes) (fn := Tryd.f28) (pm := S_laws_qBoxes.pm) (rm := S_laws_qBoxes.rm) (by kernel_rfl) lookNil follows_mixed Tryd.func28 (by kernel_rfl) (by kernel_rfl) rfl
/-- loop.example/g01054/impl.PutTypes -/
@[reducible] noncomputable def c_impl_PutTypes : Cx := { K := [.dat 2, .dat 2, .no, .no, .own 4 0 false, .dat 0, .dat 2, .dat 2, .tup [.own 4 0 false, .dat 0], .own 4 0 false, .dat 0], T := [(23, ty23)], S := [(58, S_impl_changed)], H := [], res := [.tmp 4, .tmp 5], ios := [], G := gl0 }
noncomputable def F_impl_PutTypes : List D → Option Out := denF c_impl_PutTypes Tryd.f30
@[reducible] noncomputable def S_impl_PutTypes : FS := { pm := [.dat 2, .dat 2], rm := [.own 4 0 false, .dat 0], f := F_impl_PutTypes }
theorem M_impl_PutTypes : Meets gl0 Tryd.prog 30 S_impl_PutTypes := meets_of (P := Tryd.prog) (c := c_impl_PutTypes) (fn := Tryd.f30) (pm := S_impl_PutTypes.pm) (rm := S_impl_PutTypes.rm) (by kernel_rfl) (lookCons M_impl_changed lookNil) follows_mixed Tryd.func30 (by kernel_rfl) (by kernel_rfl) rfl
/-- loop.example/g01054/impl.BoxOf -/
@[reducible] noncomputable def c_impl_BoxOf : Cx := { K := [.dat 2, .dat 0, .no, .no, .dat 0, .dat 0, .dat 0, .dat 2, .dat 0, .dat 0, .dat 2, .dat 0, .dat 0, .dat 0, .dat 0, .dat 0, .dat 0, .dat 0], T := [(3, ty3)], S := [(29, S_impl_IsCase), (64, S_impl_boxAt)], H := [], res := [.tmp 4, .tmp 5], ios := [], G := gl0 }
noncomputable def F_impl_BoxOf : List D → Option Out := denF c_impl_BoxOf Tryd.f31
@[reducible] noncomputable def S_impl_BoxOf : FS := { pm := [.dat 2, .dat 0], rm := [.dat 0, .dat 0], f := F_impl_BoxOf }
theorem M_impl_BoxOf : Meets gl0 Tryd.prog 31 S_impl_BoxOf := meets_of (P := Tryd.prog) (c := c_impl_BoxOf) (fn := Tryd.f31) (pm := S_impl_BoxOf.pm) (rm := S_impl_BoxOf.rm) (by kernel_rfl) (lookCons M_impl_IsCase (lookCons M_impl_boxAt lookNil)) follows_mixed Tryd.func31 (by kernel_rfl) (by kernel_rfl) rfl
/-- loop.example/g01054/spec.l1Most -/
@[reducible] noncomputable def c_spec_l1Most : Cx := { K := [.dat 0, .dat 0, .no, .no, .dat 0, .dat 0, .dat 0, .dat 0, .dat 0, .dat 0], T := [(3, ty3)], S := [], H := [], res := [.tmp 4], ios := [], G := gl0 }
noncomputable def F_spec_l1Most : List D → Option Out := denF c_spec_l1Most Tryd.f69
@[reducible] noncomputable def S_spec_l1Most : FS := { pm := [.dat 0, .dat 0], rm := [.dat 0], f := F_spec_l1Most }
theorem M_spec_l1Most : Meets gl0 Tryd.prog 69 S_spec_l1Most := meets_of (P := Tryd.prog) (c := c_spec_l1Most) (fn := Tryd.f69) (pm := S_spec_l1Most.pm) (rm := S_spec_l1Most.rm) (by kernel_rfl) lookNil follows_mixed Tryd.func69 (by kernel_rfl) (by kernel_rfl) rfl
/-- loop.example/g01054/spec.DrawSwapBoxes -/
@[reducible] noncomputable def c_spec_DrawSwapBoxes : Cx := { K := [.dat 2, .no, .dat 1, .dat 0, .dat 0, .ref 9, .dat 1, .dat 2, .dat 2, .box 3 2 false, .ref 9, .dat 1, .dat 1, .ref 9, .dat 1, .dat 0, .dat 0, .dat 0, .ref 9, .ref 9, .dat 1, .dat 0, .dat 0, .dat 0, .dat 1, .dat 0, .dat 0, .ref 9, .dat 1, .dat 0, .dat 1, .dat 0, .dat 1, .dat 0], T := [(3, ty3), (22, ty22), (23, ty23), (30, ty30), (58, ty58), (75, ty75), (77, ty77)], S := [(55, S_spec_l1Cur_among), (67, S_spec_l1Cur_anyCase), (68, S_spec_l1Cur_pick), (69, S_spec_l1Most)], H := [], res := [.tmp 2, .tmp 3, .tmp 4], ios := [], G := gl0 }
noncomputable def F_spec_DrawSwapBoxes : List D → Option Out := denF c_spec_DrawSwapBoxes Tryd.f33
@[reducible] noncomputable def S_spec_DrawSwapBoxes : FS := { pm := [.dat 2], rm := [.dat 1, .dat 0, .dat 0], f := F_spec_DrawSwapBoxes }
theorem M_spec_DrawSwapBoxes : Meets gl0 Tryd.prog 33 S_spec_DrawSwapBoxes := meets_of (P := Tryd.prog) (c := c_spec_DrawSwapBoxes) (fn := Tryd.f33) (pm := S_spec_DrawSwapBoxes.pm) (rm := S_spec_DrawSwapBoxes.rm) (by kernel_rfl) (lookCons M_spec_l1Cur_among (lookCons M_spec_l1Cur_anyCase (lookCons M_spec_l1Cur_pick (lookCons M_spec_l1Most lookNil)))) follows_mixed Tryd.func33 (by kernel_rfl) (by kernel_rfl) rfl
/-- loop.example/g01054/impl.swap -/
@[reducible] noncomputable def c_impl_swap : Cx := { K := [.dat 2, .dat 0, .dat 0, .no, .no, .no, .own 4 0 false, .own 4 0 false, .own 4 0 false, .dat 2, .own 4 0 false, .via 7, .dat 0, .via 7, .dat 0, .dat 2, .dat 0, .dat 2, .dat 2, .dat 0, .dat 2, .dat 0, .dat 2, .dat 2, .dat 0, .ref 7, .ref 7, .ref 7, .ref 7, .via 7, .dat 0, .via 7, .dat 0, .dat 2, .dat 0, .dat 2, .dat 2, .dat 0, .dat 2, .dat 0, .dat 2, .dat 2, .dat 0, .ref 7, .ref 7, .ref 7, .ref 7, .own 4 0 false], T := [(3, ty3), (9, ty9), (23, ty23), (58, ty58)], S := [], H := [], res := [.tmp 6], ios := [], G := gl0 }
noncomputable def F_impl_swap : List D → Option Out := denF c_impl_swap Tryd.f70
@[reducible] noncomputable def S_impl_swap : FS := { pm := [.dat 2, .dat 0, .dat 0], rm := [.own 4 0 false], f := F_impl_swap }
theorem M_impl_swap : Meets gl0 Tryd.prog 70 S_impl_swap := meets_of (P := Tryd.prog) (c := c_impl_swap) (fn := Tryd.f70) (pm := S_impl_swap.pm) (rm := S_impl_swap.rm) (by kernel_rfl) lookNil follows_mixed Tryd.func70 (by kernel_rfl) (by kernel_rfl) rfl
/-- loop.example/g01054/impl.SwapBoxes -/
@[reducible] noncomputable def c_impl_SwapBoxes : Cx := { K := [.dat 2, .dat 0, .dat 0, .no, .no, .no, .own 4 0 false, .dat 0, .dat 0, .dat 2, .dat 0, .dat 0, .dat 2, .dat 0, .dat 0, .dat 0, .dat 0, .dat 0, .dat 0, .dat 0, .dat 0, .dat 0, .dat 0, .dat 0, .dat 0, .dat 0, .dat 0, .own 4 0 false, .dat 2, .dat 0, .dat 0, .own 4 0 false], T := [(3, ty3), (23, ty23), (58, ty58)], S := [(29, S_impl_IsCase), (51, S_impl_within), (70, S_impl_swap)], H := [], res := [.tmp 6, .tmp 7], ios := [], G := gl0 }
noncomputable def F_impl_SwapBoxes : List D → Option Out := denF c_impl_SwapBoxes Tryd.f34
@[reducible] noncomputable def S_impl_SwapBoxes : FS := { pm := [.dat 2, .dat 0, .dat 0], rm := [.own 4 0 false, .dat 0], f := F_impl_SwapBoxes }
theorem M_impl_SwapBoxes : Meets gl0 Tryd.prog 34 S_impl_SwapBoxes := meets_of (P := Tryd.prog) (c := c_impl_SwapBoxes) (fn := Tryd.f34) (pm := S_impl_SwapBoxes.pm) (rm := S_impl_SwapBoxes.rm) (by kernel_rfl) (lookCons M_impl_IsCase (lookCons M_impl_within (lookCons M_impl_swap lookNil))) follows_mixed Tryd.func34 (by kernel_rfl) (by kernel_rfl) rfl
/-- loop.example/g01054/spec.caSwap -/
@[reducible] noncomputable def c_spec_caSwap : Cx := { K := [.dat 2, .dat 0, .dat 0, .no, .no, .no, .own 4 0 false, .own 4 0 false, .own 4 0 false, .dat 2, .own 4 0 false, .via 7, .dat 0, .dat 2, .dat 0, .dat 2, .dat 2, .dat 0, .ref 7, .ref 7, .via 7, .dat 0, .dat 2, .dat 0, .dat 2, .dat 2, .dat 0, .ref 7, .ref 7, .via 7, .dat 0, .dat 2, .dat 0, .dat 2, .dat 2, .dat 0, .ref 7, .ref 7, .via 7, .dat 0, .dat 2, .dat 0, .dat 2, .dat 2, .dat 0, .ref 7, .ref 7, .own 4 0 false], T := [(3, ty3), (9, ty9), (23, ty23), (58, ty58)], S := [], H := [], res := [.tmp 6], ios := [], G := gl0 }
noncomputable def F_spec_caSwap : List D → Option Out := denF c_spec_caSwap Tryd.f72
@[reducible] noncomputable def S_spec_caSwap : FS := { pm := [.dat 2, .dat 0, .dat 0], rm := [.own 4 0 false], f := F_spec_caSwap }
theorem M_spec_caSwap : Meets gl0 Tryd.prog 72 S_spec_caSwap := meets_of (P := Tryd.prog) (c := c_spec_caSwap) (fn := Tryd.f72) (pm := S_spec_caSwap.pm) (rm := S_spec_caSwap.rm) (by kernel_rfl) lookNil follows_mixed Tryd.func72 (by kernel_rfl) (by kernel_rfl) rfl
/-- loop.example/g01054/spec.SwapBoxes -/
@[reducible] noncomputable def c_spec_SwapBoxes : Cx := { K := [.dat 2, .dat 0, .dat 0, .no, .no, .no, .own 4 0 false, .dat 0, .dat 2, .dat 0, .dat 0, .dat 0, .dat 0, .dat 2, .dat 0, .dat 0, .dat 0, .dat 0, .dat 0, .dat 0, .dat 0, .dat 2, .dat 0, .dat 0, .dat 0, .dat 0, .dat 0, .dat 2, .dat 0, .dat 0, .own 4 0 false], T := [(3, ty3), (23, ty23), (58, ty58)], S := [(60, S_spec_caGood), (71, S_spec_l1In), (72, S_spec_caSwap)], H := [], res := [.tmp 6, .tmp 7], ios := [], G := gl0 }
noncomputable def F_spec_SwapBoxes : List D → Option Out := denF c_spec_SwapBoxes Tryd.f35
@[reducible] noncomputable def S_spec_SwapBoxes : FS := { pm := [.dat 2, .dat 0, .dat 0], rm := [.own 4 0 false, .dat 0], f := F_spec_SwapBoxes }
theorem M_spec_SwapBoxes : Meets gl0 Tryd.prog 35 S_spec_SwapBoxes := meets_of (P := Tryd.prog) (c := c_spec_SwapBoxes) (fn := Tryd.f35) (pm := S_spec_SwapBoxes.pm) (rm := S_spec_SwapBoxes.rm) (by kernel_rfl) (lookCons M_spec_caGood (lookCons M_spec_l1In (lookCons M_spec_caSwap lookNil))) follows_mixed Tryd.func35 (by kernel_rfl) (by kernel_rfl) rfl
/-- loop.example/g01054/spec.DrawPutTypes -/
@[reducible] noncomputable def c_spec_DrawPutTypes : Cx := { K := [.dat 2, .no, .dat 1, .own 1 0 false, .ref 8, .via 10, .dat 2, .dat 2, .box 3 2 false, .ref 8, .own 4 0 false, .via 10, .dat 0, .dat 0, .dat 0, .ref 8, .dat 0, .dat 0, .via 10, .ref 8, .dat 0, .dat 0, .ref 10, .ref 10, .via 10, .via 10, .ref 10, .ref 10, .dat 0, .own 1 0 false, .via 10, .ref 8, .via 10, .own 1 0 false], T := [(3, ty3), (9, ty9), (22, ty22), (23, ty23), (40, ty40), (58, ty58), (75, ty75), (77, ty77)], S := [(67, S_spec_l1Cur_anyCase), (68, S_spec_l1Cur_pick), (73, S_spec_l1Cur_one), (74, S_spec_l1Cur_codesOf)], H := [], res := [.tmp 2, .tmp 3], ios := [], G := gl0 }
@[reducible] def Rc_spec_DrawPutTypes : List (Nat × List Nat) := [(15, [10]), (122, [10])]
noncomputable def F_spec_DrawPutTypes : List D → Option Out := denFR c_spec_DrawPutTypes Rc_spec_DrawPutTypes Tryd.f36
@[reducible] noncomputable def S_spec_DrawPutTypes : FS := { pm := [.dat 2], rm := [.dat 1, .own 1 0 false], f := F_spec_DrawPutTypes }
theorem M_spec_DrawPutTypes : Meets gl0 Tryd.prog 36 S_spec_DrawPutTypes := meets_ofR (R := Rc_spec_DrawPutTypes) (P := Tryd.prog) (c := c_spec_DrawPutTypes) (fn := Tryd.f36) (pm := S_spec_DrawPutTypes.pm) (rm := S_spec_DrawPutTypes.rm) (by kernel_rfl) (lookCons M_spec_l1Cur_anyCase (lookCons M_spec_l1Cur_pick (lookCons M_spec_l1Cur_one (lookCons M_spec_l1Cur_codesOf lookNil)))) follows_mixed Tryd.func36 (by kernel_rfl) (by kernel_rfl) rfl
/-- loop.example/g01054/spec.PutTypes -/
@[reducible] noncomputable def c_spec_PutTypes : Cx := { K := [.dat 2, .dat 2, .no, .no, .own 4 0 false, .dat 0, .dat 2, .dat 2, .dat 0, .dat 0, .dat 2, .dat 2, .tup [.own 4 0 false, .dat 0], .own 4 0 false, .dat 0], T := [(23, ty23)], S := [(46, S_spec_caMove), (59, S_spec_caAsked)], H := [], res := [.tmp 4, .tmp 5], ios := [], G := gl0 }
noncomputable def F_spec_PutTypes : List D → Option Out := denF c_spec_PutTypes Tryd.f37
@[reducible] noncomputable def S_spec_PutTypes : FS := { pm := [.dat 2, .dat 2], rm := [.own 4 0 false, .dat 0], f := F_spec_PutTypes }
theorem M_spec_PutTypes : Meets gl0 Tryd.prog 37 S_spec_PutTypes := meets_of (P := Tryd.prog) (c := c_spec_PutTypes) (fn := Tryd.f37) (pm := S_spec_PutTypes.pm) (rm := S_spec_PutTypes.rm) (by kernel_rfl) (lookCons M_spec_caMove (lookCons M_spec_caAsked lookNil)) follows_mixed Tryd.func37 (by kernel_rfl) (by kernel_rfl) rfl
/-- loop.example/g01054/spec.DrawIsBox -/
@[reducible] noncomputable def c_spec_DrawIsBox : Cx := { K := [.dat 2, .no, .box 4 0 false, .ref 7, .dat 1, .dat 2, .dat 2, .box 3 2 false, .ref 7, .dat 1, .dat 1, .dat 0, .dat 0, .dat 0, .dat 1, .ref 7, .dat 1, .dat 0, .dat 0, .dat 1, .dat 0], T := [(3, ty3), (9, ty9), (22, ty22), (23, ty23), (58, ty58), (75, ty75), (77, ty77)], S := [(67, S_spec_l1Cur_anyCase), (68, S_spec_l1Cur_pick)], H := [], res := [.cell 2 58], ios := [], G := gl0 }
noncomputable def F_spec_DrawIsBox : List D → Option Out := denF c_spec_DrawIsBox Tryd.f38
@[reducible] noncomputable def S_spec_DrawIsBox : FS := { pm := [.dat 2], rm := [.dat 0], f := F_spec_DrawIsBox }
theorem M_spec_DrawIsBox : Meets gl0 Tryd.prog 38 S_spec_DrawIsBox := meets_of (P := Tryd.prog) (c := c_spec_DrawIsBox) (fn := Tryd.f38) (pm := S_spec_DrawIsBox.pm) (rm := S_spec_DrawIsBox.rm) (by kernel_rfl) (lookCons M_spec_l1Cur_anyCase (lookCons M_spec_l1Cur_pick lookNil)) follows_mixed Tryd.func38 (by kernel_rfl) (by kernel_rfl) rfl
/-- loop.example/g01054/spec.DrawBoxOf -/
@[reducible] noncomputable def c_spec_DrawBoxOf : Cx := { K := [.dat 2, .no, .own 4 0 false, .dat 0, .ref 7, .dat 2, .dat 2, .box 3 2 false, .ref 7, .own 4 0 false, .ref 7, .dat 1, .dat 0], T := [(3, ty3), (9, ty9), (22, ty22), (23, ty23), (40, ty40), (75, ty75), (77, ty77)], S := [(67, S_spec_l1Cur_anyCase), (75, S_spec_l1Cur_of)], H := [], res := [.tmp 2, .tmp 3], ios := [], G := gl0 }
noncomputable def F_spec_DrawBoxOf : List D → Option Out := denF c_spec_DrawBoxOf Tryd.f39
@[reducible] noncomputable def S_spec_DrawBoxOf : FS := { pm := [.dat 2], rm := [.own 4 0 false, .dat 0], f := F_spec_DrawBoxOf }
theorem M_spec_DrawBoxOf : Meets gl0 Tryd.prog 39 S_spec_DrawBoxOf := meets_of (P := Tryd.prog) (c := c_spec_DrawBoxOf) (fn := Tryd.f39) (pm := S_spec_DrawBoxOf.pm) (rm := S_spec_DrawBoxOf.rm) (by kernel_rfl) (lookCons M_spec_l1Cur_anyCase (lookCons M_spec_l1Cur_of lookNil)) follows_mixed Tryd.func39 (by kernel_rfl) (by kernel_rfl) rfl
/-- loop.example/g01054/spec.BoxOf -/
@[reducible] noncomputable def c_spec_BoxOf : Cx := { K := [.dat 2, .dat 0, .no, .no, .dat 0, .dat 0, .dat 0, .dat 2, .dat 0, .dat 0, .dat 2, .dat 0, .dat 0, .dat 0, .dat 0, .dat 0, .dat 0, .dat 0], T := [(3, ty3)], S := [(60, S_spec_caGood), (76, S_spec_caFind)], H := [], res := [.tmp 4, .tmp 5], ios := [], G := gl0 }
noncomputable def F_spec_BoxOf : List D → Option Out := denF c_spec_BoxOf Tryd.f40
@[reducible] noncomputable def S_spec_BoxOf : FS := { pm := [.dat 2, .dat 0], rm := [.dat 0, .dat 0], f := F_spec_BoxOf }
theorem M_spec_BoxOf : Meets gl0 Tryd.prog 40 S_spec_BoxOf := meets_of (P := Tryd.prog) (c := c_spec_BoxOf) (fn := Tryd.f40) (pm := S_spec_BoxOf.pm) (rm := S_spec_BoxOf.rm) (by kernel_rfl) (lookCons M_spec_caGood (lookCons M_spec_caFind lookNil)) follows_mixed Tryd.func40 (by kernel_rfl) (by kernel_rfl) rfl
/-- loop.example/g01054/spec.IsBox -/
@[reducible] noncomputable def c_spec_IsBox : Cx := { K := [.dat 0, .box 4 0 false, .dat 0, .dat 0, .dat 0], T := [(3, ty3), (9, ty9), (58, ty58)], S := [(77, S_spec_caBox)], H := [], res := [.tmp 2], ios := [], G := gl0 }
noncomputable def F_spec_IsBox : List D → Option Out := denF c_spec_IsBox Tryd.f41
@[reducible] noncomputable def S_spec_IsBox : FS := { pm := [.dat 0], rm := [.dat 0], f := F_spec_IsBox }
theorem M_spec_IsBox : Meets gl0 Tryd.prog 41 S_spec_IsBox := meets_of (P := Tryd.prog) (c := c_spec_IsBox) (fn := Tryd.f41) (pm := S_spec_IsBox.pm) (rm := S_spec_IsBox.rm) (by kernel_rfl) (lookCons M_spec_caBox lookNil) follows_mixed Tryd.func41 (by kernel_rfl) (by kernel_rfl) rfl
/-- loop.example/g01054/laws.FnCases -/
@[reducible] noncomputable def c_laws_FnCases : Cx := { K := [.dat 2, .dat 2, .no, .no, .dat 0, .dat 1, .dat 1, .dat 1, .dat 0, .dat 1, .dat 0, .dat 0, .dat 0, .dat 0, .dat 0, .dat 0, .dat 0, .dat 0, .dat 0, .dat 1, .dat 0, .dat 0, .dat 0, .dat 0, .box 4 0 false, .dat 0, .dat 0, .dat 1, .dat 0, .dat 0, .dat 1, .dat 0, .dat 1, .dat 0, .dat 1, .dat 1, .dat 1, .dat 0, .dat 1, .dat 0, .box 4 0 false, .dat 1, .dat 0, .dat 0, .dat 0, .dat 0, .dat 0, .dat 1, .dat 0, .dat 2, .dat 0, .dat 2, .dat 0, .dat 0, .dat 0, .tup [.dat 1, .own 1 0 false], .dat 2, .tup [.dat 1, .own 1 0 false], .dat 1, .dat 1, .tup [.own 4 0 false, .dat 0], .dat 1, .dat 1, .tup [.own 4 0 false, .dat 0], .dat 1, .dat 0, .tup [.own 4 0 false, .dat 0], .dat 1, .dat 1, .tup [.own 4 0 false, .dat 0], .dat 1, .dat 0, .tup [.dat 0, .dat 0], .dat 1, .tup [.dat 0, .dat 0], .dat 0, .dat 0, .tup [.dat 0, .dat 0], .dat 1, .tup [.dat 0, .dat 0], .dat 0, .dat 0, .tup [.dat 0, .dat 0], .dat 1, .tup [.dat 0, .dat 0], .dat 0, .dat 0, .tup [.dat 0, .dat 0], .dat 1, .tup [.dat 0, .dat 0], .dat 0, .dat 0, .dat 0, .dat 0, .dat 0, .dat 0, .dat 1, .dat 1, .dat 0, .dat 0, .dat 0, .dat 0, .dat 0, .dat 0, .dat 0, .dat 0, .dat 0, .dat 0, .dat 0, .dat 0, .dat 0, .dat 0, .dat 0, .dat 0, .dat 0, .dat 0, .dat 0, .dat 0, .dat 0, .dat 0, .dat 0, .dat 0, .dat 0, .dat 1, .dat 0, .dat 0, .dat 0, .dat 0, .dat 0, .dat 0, .dat 0, .dat 0, .dat 0, .dat 0, .dat 0, .dat 0, .dat 0, .dat 0, .dat 0, .dat 0, .tup [.own 4 0 false, .dat 0], .dat 1, .dat 1, .tup [.own 4 0 false, .dat 0], .dat 1, .dat 0, .tup [.dat 0, .dat 0], .dat 1, .tup [.dat 0, .dat 0], .dat 0, .dat 0, .dat 0, .dat 0, .dat 0, .dat 1, .dat 1, .dat 0, .dat 0, .dat 0, .dat 0, .dat 0, .dat 0, .dat 0, .dat 0, .dat 0, .dat 0, .dat 1, .dat 0, .dat 0, .dat 0, .dat 0, .dat 1, .dat 0, .dat 0, .dat 0, .dat 0, .dat 1, .dat 0, .tup [.dat 0, .dat 0], .dat 1, .ref 24, .dat 0, .tup [.dat 0, .dat 0], .dat 0, .dat 0, .dat 0, .dat 0, .dat 0, .dat 0, .dat 0, .dat 0, .dat 0, .dat 0, .dat 0, .dat 0, .dat 0, .dat 0, .dat 0, .dat 0, .dat 0, .dat 0, .dat 0, .tup [.dat 1, .dat 0, .dat 0], .dat 2, .tup [.dat 1, .dat 0, .dat 0], .dat 1, .dat 0, .dat 0, .tup [.own 4 0 false, .dat 0], .dat 1, .dat 0, .dat 0, .tup [.own 4 0 false, .dat 0], .dat 1, .dat 0, .tup [.own 4 0 false, .dat 0], .dat 1, .dat 0, .dat 0, .tup [.own 4 0 false, .dat 0], .dat 1, .dat 0, .tup [.dat 1, .own 1 0 false], .dat 2, .tup [.dat 1, .own 1 0 false], .dat 1, .dat 1, .tup [.own 4 0 false, .dat 0], .dat 1, .dat 1, .tup [.own 4 0 false, .dat 0], .dat 1, .dat 0, .tup [.own 4 0 false, .dat 0], .dat 1, .dat 1, .tup [.own 4 0 false, .dat 0], .dat 1, .dat 0, .dat 2, .dat 0, .tup [.own 4 0 false, .dat 0], .dat 2, .tup [.own 4 0 false, .dat 0], .dat 1, .dat 0, .tup [.dat 0, .dat 0], .dat 1, .dat 0, .tup [.dat 0, .dat 0], .dat 0, .dat 0, .tup [.dat 0, .dat 0], .dat 1, .dat 0, .tup [.dat 0, .dat 0], .dat 0, .dat 0, .dat 0, .dat 0, .dat 0, .dat 0, .dat 1, .dat 1, .dat 0, .dat 0, .dat 0, .dat 0, .dat 0, .dat 0, .dat 0, .dat 0, .dat 0, .dat 1, .dat 1, .dat 0, .dat 0, .dat 0, .dat 0, .dat 0, .dat 0, .dat 0, .dat 0, .dat 0, .dat 0, .dat 0, .dat 0, .dat 0, .dat 0, .dat 0, .dat 0, .dat 0, .dat 0, .dat 0, .dat 0, .dat 0, .tup [.own 4 0 false, .dat 0], .dat 1, .dat 0, .dat 0, .tup [.own 4 0 false, .dat 0], .dat 1, .dat 0, .dat 0, .dat 0, .dat 1, .dat 1, .dat 0, .dat 0], T := [(3, ty3), (4, ty4), (5, ty5), (9, ty9), (22, ty22), (23, ty23), (40, ty40), (58, ty58)], S := [(21, S_spec_DrawTakeTypes), (22, S_impl_TakeTypes), (23, S_spec_TakeTypes), (24, S_impl_TypesIn), (25, S_spec_TypesIn), (26, S_impl_CaseText), (27, S_spec_CaseText), (28, S_laws_qBoxes), (29, S_impl_IsCase), (30, S_impl_PutTypes), (31, S_impl_BoxOf), (32, S_impl_IsBox), (33, S_spec_DrawSwapBoxes), (34, S_impl_SwapBoxes), (35, S_spec_SwapBoxes), (36, S_spec_DrawPutTypes), (37, S_spec_PutTypes), (38, S_spec_DrawIsBox), (39, S_spec_DrawBoxOf), (40, S_spec_BoxOf), (41, S_spec_IsBox)], H := [(0, ([1, 5, 12, 171, 172, 173], [1]))], res := [.tmp 4], ios := [], G := gl1 }
@[reducible] def J_laws_FnCases : List (Nat × List Nat) := [(2047, [1, 5, 12])]
noncomputable def F_laws_FnCases : List D → Option Out := denFJ c_laws_FnCases J_laws_FnCases Tryd.f4
@[reducible] noncomputable def S_laws_FnCases : FS := { pm := [.dat 2, .dat 2], rm := [.dat 0], f := F_laws_FnCases }
theorem M_laws_FnCases : Meets gl1 Tryd.prog 4 S_laws_FnCases := meets_ofJ (J := J_laws_FnCases) (P := Tryd.prog) (c := c_laws_FnCases) (fn := Tryd.f4) (pm := S_laws_FnCases.pm) (rm := S_laws_FnCases.rm) (by kernel_rfl) (lookCons (meets_mono gl01 M_spec_DrawTakeTypes) (lookCons (meets_mono gl01 M_impl_TakeTypes) (lookCons (meets_mono gl01 M_spec_TakeTypes) (lookCons (meets_mono gl01 M_impl_TypesIn) (lookCons (meets_mono gl01 M_spec_TypesIn) (lookCons M_impl_CaseText (lookCons (meets_mono gl01 M_spec_CaseText) (lookCons (meets_mono gl01 M_laws_qBoxes) (lookCons (meets_mono gl01 M_impl_IsCase) (lookCons (meets_mono gl01 M_impl_PutTypes) (lookCons (meets_mono gl01 M_impl_BoxOf) (lookCons (meets_mono gl01 M_impl_IsBox) (lookCons (meets_mono gl01 M_spec_DrawSwapBoxes) (lookCons (meets_mono gl01 M_impl_SwapBoxes) (lookCons (meets_mono gl01 M_spec_SwapBoxes) (lookCons (meets_mono gl01 M_spec_DrawPutTypes) (lookCons (meets_mono gl01 M_spec_PutTypes) (lookCons (meets_mono gl01 M_spec_DrawIsBox) (lookCons (meets_mono gl01 M_spec_DrawBoxOf) (lookCons (meets_mono gl01 M_spec_BoxOf) (lookCons (meets_mono gl01 M_spec_IsBox) lookNil))))))))))))))))))))) follows_mixed (by kernel_rfl) Tryd.func4 (by kernel_rfl) (by kernel_rfl) rfl
end Go.Proofs.YtbbfddflmnclaaaDoor
