/-
  Code keeps the invariant.
-/
import Derived.Test.YtankikbbdfgkbaaRows
import Derived.Test.YtankikbbdfgkbaaM3
import Derived.ProofKit
import Derived.ChangeArms
namespace Go.V
open Go.RowKit

def apartL (x y : List Nat) : Bool := x.all fun s => !memN s y
/-- Two operations that may change places. -/
def indep0 (c : Cx) (ops : List Oper) (x y : Oper) : Bool := apartL (rdS c ops x) (wrS c y) && apartL (wrS c x) (rdS c ops y) && apartL (wrS c x) (wrS c y)
/-- A copy of an owner beside a store into what is owned. -/
def lvPair (c : Cx) (x y : Oper) : Bool :=
  match x.guard, y.guard, x.op, x.dst, y.op, y.dst with
  | none, none, .move (.tmp t), some d, .store _ (.tmp q) (.tmp s), none =>
    (match nthK c.K t, nthK c.K d, nthK c.K q, nthK c.K s with
      | .own _ _ _, .via r, .ref r', .dat _ => Nat.beq r t && Nat.beq r' t && !Nat.beq q t && apartL (d :: deps d c.K 0) [q, t, s]
      | _, _, _, _ => false)
  | _, _, _, _, _, _ => false
/-- A call that writes what a box holds, and behind it (in the text) a copy of the box's pointer. -/
def mvCall (c : Cx) (x y : Oper) : Bool :=
  match x.guard, y.guard, x.op, y.op, y.dst with
  | none, none, .call q, .move (.tmp t), some d =>
    (match nthK c.K t, nthK c.K d, q.callee with
      | .box _ _ _, .ref r', .value (.func f) => (match look c.S f with
        | some S => (match agsOf c.K q.args.toList S.pm with
          | some ags => Nat.beq r' t && memN t (agIo ags)
          | none => false)
        | none => false)
      | _, _, _ => false)
  | _, _, _, _, _ => false
def mvPair (c : Cx) (ops : List Oper) (x y : Oper) : Bool := mvCall c x y && apartL (rdS c ops x) (wrS c y) && apartL (wrS c x) (wrS c y)
def indep (c : Cx) (ops : List Oper) (x y : Oper) : Bool := indep0 c ops x y || lvPair c x y || lvPair c y x || mvPair c ops x y
/-- Is operation j behind o by a chain of edges? -/
def bef (ops : List Oper) (j : Nat) : Nat → Oper → Bool
  | 0, _ => false
  | n + 1, o => o.after.toList.any fun e => Region.binds .any e && (Nat.beq e.on j || match nthO ops e.on with
    | some q => bef ops j n q
    | none => false)
/-- May the operations of a region be taken in any order that their edges allow? -/
def okAny (c : Cx) (ops : List Oper) : Bool :=
  ops.zipIdx.all fun p => (p.1.after.toList.all fun e => !Region.binds .any e || decide (e.on < p.2)) && (ops.take p.2).zipIdx.all fun q => indep c ops q.1 p.1 || bef ops q.2 3 p.1

/-- Slots that are kept round a loop: a copy or a place only with its owner. -/
def okLive (K : List Kd) (hl : List Nat) : Bool :=
  hl.all fun s => match nthK K s with
    | .via r => memN r hl
    | .ref r => memN r hl
    | _ => true

def okCode (c : Cx) : Nat → Code → Bool
  | _, .skip => true
  | _, .region _ ops d => ops.toList.all (okOp c ops.toList) && (!d || okAny c ops.toList)
  | b, .seq x y => okCode c b x && okCode c b y
  | b, .cond x t e => Nat.ble (lvOf c.K x) 2 && okCode c b t && okCode c b e
  | _, .block id x => okCode c id x
  | b, .loop x => okCode c b x && (match look c.H b with
    | some (hl, xl) => okLive c.K hl && okLive c.K xl
    | none => false)
  | _, .exit _ => true
  | _, .ret => true
  | _, _ => false

section
variable {P : Program} {c : Cx} {B : Nat} {X : Nat → Prop} {w0 : World} {F0 F : Nat → Prop} {O : Nat → Option (Nat × Nat)} {a : Act} {w : World} {δ : List D}

/-- What is known where a piece of code ends. -/
def retK (c : Cx) (δ : List D) (k : Out → Option Out) : Option Out := resC c δ c.res fun rs => getC δ c.ios fun us => usK us (k (.ret rs us))
def Post (c : Cx) (B : Nat) (X : Nat → Prop) (w0 : World) (F0 : Nat → Prop) (V : Nat → Value) (k : Out → Option Out) (r : Out) : Exit → Act → World → Prop
  | .normal, a, w => NextV c B X w0 F0 V (fun δ => k (.nrm δ)) r a w
  | .exit id, a, w => NextV c B X w0 F0 V (fun δ => k (.ext id δ)) r a w
  | .ret, a, w => NextV c B X w0 F0 V (fun δ => retK c δ k) r a w
  | _, _, _ => False

theorem apartL_ok {x y : List Nat} (h : apartL x y = true) : ∀ s ∈ x, s ∉ y := by
  intro s hs
  unfold apartL at h
  rw [List.all_eq_true] at h
  simpa [memN_eq] using h s hs

theorem nth_ext {δ δ' : List D} (h : δ.length = δ'.length) (hn : ∀ s, nth δ s = nth δ' s) : δ = δ' := by
  refine List.ext_getElem h fun i h1 h2 => ?_
  have := hn i
  rw [nth_eq, nth_eq, List.getD_eq_getElem?_getD, List.getD_eq_getElem?_getD, List.getElem?_eq_getElem h1, List.getElem?_eq_getElem h2] at this
  exact this

theorem setMany_same : ∀ (ss : List Nat) (l δ δ' : List D), δ.length = δ'.length → ∀ s ∈ ss, nth (setMany δ ss l) s = nth (setMany δ' ss l) s
  | t :: ss, l, δ, δ', hl, s, hs => by
    cases l with
    | nil => rw [nth_kill _ _ _ hs, nth_kill _ _ _ hs]
    | cons d l =>
      simp only [setMany]
      by_cases hm : s ∈ ss
      · exact setMany_same ss l _ _ (by rw [len_setAt, len_setAt, hl]) s hm
      · have : s = t := by simpa [hm] using hs
        subst this
        rw [nth_setMany_notin _ _ _ _ hm, nth_setMany_notin _ _ _ _ hm, nth_setAt_eq, nth_setAt_eq, hl]

theorem setMany_swap {A C : List Nat} {l m δ : List D} (h : ∀ s ∈ A, s ∉ C) : setMany (setMany δ A l) C m = setMany (setMany δ C m) A l := by
  refine nth_ext (by simp only [len_setMany]) fun s => ?_
  by_cases hA : s ∈ A
  · rw [nth_setMany_notin _ _ _ _ (h s hA)]
    exact setMany_same A l _ _ (by rw [len_setMany]) s hA
  · by_cases hC : s ∈ C
    · rw [nth_setMany_notin A _ _ _ hA]
      exact (setMany_same C m _ _ (by rw [len_setMany]) s hC)
    · rw [nth_setMany_notin _ _ _ _ hC, nth_setMany_notin _ _ _ _ hA, nth_setMany_notin _ _ _ _ hA, nth_setMany_notin _ _ _ _ hC]

theorem stD_live {n : Nat} {o p x z : D} (h : stD n o p x = some z) : o ≠ .bad ∧ z ≠ .bad := by
  unfold stD at h
  split at h
  · split at h
    · split at h
      · cases h; exact ⟨by simp, by simp⟩
      · cases h
    · cases h
  · split at h
    · cases h; exact ⟨by simp, by simp⟩
    · cases h
  · cases h
theorem stK_live (chk : Bool) (n : Nat) (b p y : D) : ∃ E : Option D, (∀ k : D → Option Out, stK chk n b p y k = E.bind k) ∧ ∀ z, E = some z → b ≠ .bad ∧ z ≠ .bad := by
  cases chk
  · exact ⟨stD n b p y, fun _ => rfl, fun z hz => stD_live hz⟩
  · refine ⟨(chkV y).bind fun y => stD n b p y, fun k => by simp only [stK, Option.bind_assoc], fun z hz => ?_⟩
    obtain ⟨y', _, h⟩ := Option.bind_eq_some_iff.1 hz
    exact stD_live h
theorem lv_swap {ops : List Oper} {x y : Oper} (h : lvPair c x y = true) (δ : List D) (k : List D → Option Out) : stepK c ops x δ (fun δ => stepK c ops y δ k) = stepK c ops y δ (fun δ => stepK c ops x δ k) := by
  unfold lvPair at h
  split at h
  case h_2 => cases h
  rename_i t d ty q s hxg hyg hxo hxd hyo hyd
  split at h
  case h_2 => cases h
  rename_i z lv io r0 r lv' hkt hkd hkq hks
  simp only [Bool.and_eq_true, Bool.not_eq_true'] at h
  obtain ⟨⟨⟨h1, h2⟩, h3⟩, h4⟩ := h
  have e1 := beq_iff.1 h1
  have e2 := beq_iff.1 h2
  subst e1
  subst e2
  have hx : ∀ (δ : List D) (k : List D → Option Out), stepK c ops x δ k = (liveD (nth δ r) (.ref 0 0)).bind fun z => k (setMany δ (d :: deps d c.K 0) [z]) := by
    intro δ k
    have hA : actOf c x = some (.one [r] d fun is => (arg1 fun x => liveD x (.ref 0 0)) is) := by
      simp only [actOf, hxo, hxd, mvOf, hkt, hkd, Nat.beq_refl]
    simp only [stepK, hA, hxg]
    rw [getC_eq]
    show (liveD (nth δ r) (.ref 0 0)).bind (fun z => setManyC δ (d :: deps d c.K 0) [z] k) = _
    exact congrArg _ (funext fun z => setManyC_eq _ _ _ _)
  have hy : ∃ E : D → D → D → Option D, (∀ (δ : List D) (k : List D → Option Out), stepK c ops y δ k = (E (nth δ r) (nth δ q) (nth δ s)).bind fun b => k (setMany δ [r] [b])) ∧ ∀ a b e z, E a b e = some z → a ≠ .bad ∧ z ≠ .bad := by
    cases hT : look c.T ty with
    | none =>
      refine ⟨fun _ _ _ => none, fun δ k => ?_, fun _ _ _ _ h => by cases h⟩
      have hA : actOf c y = none := by simp only [actOf, hyo, hyd, withT, hT]
      simp only [stepK, hA]
      rfl
    | some i =>
      have act : ∀ chk : Bool, actOf c y = some (.many [q, r, s] [] [r] fun is k => goP q r is fun b p is => nthC is 0 fun y => stK chk i.n b p y fun b => k [b]) →
          ∃ E : D → D → D → Option D, (∀ (δ : List D) (k : List D → Option Out), stepK c ops y δ k = (E (nth δ r) (nth δ q) (nth δ s)).bind fun b => k (setMany δ [r] [b])) ∧ ∀ a b e z, E a b e = some z → a ≠ .bad ∧ z ≠ .bad := by
        intro chk hA
        refine ⟨fun a b e => Classical.choose (stK_live chk i.n a b e), fun δ k => ?_, fun a b e z h => (Classical.choose_spec (stK_live chk i.n a b e)).2 z h⟩
        simp only [stepK, hA, hyg]
        rw [getC_eq]
        simp only [goP, h3, getAll]
        show stK chk i.n (nth δ r) (nth δ q) (nth δ s) (fun b => setManyC δ [r] [b] k) = _
        rw [(Classical.choose_spec (stK_live chk i.n (nth δ r) (nth δ q) (nth δ s))).1]
        exact congrArg _ (funext fun b => setManyC_eq _ _ _ _)
      have hst : actOf c y = stTo c i q r (rootLv c.K r) (.tmp s) := by
        simp only [actOf, hyo, hyd, withT, hT, stOf, hkq]
      unfold stTo at hst
      simp only [hks] at hst
      split at hst
      · exact act false (by rw [hst]; simp only [rdP, h3])
      · exact act true (by rw [hst]; simp only [rdP, h3])
      · refine ⟨fun _ _ _ => none, fun δ k => ?_, fun _ _ _ _ h => by cases h⟩
        simp only [stepK, hst]
        rfl
  obtain ⟨E, hE, hEl⟩ := hy
  have ap := fun s hs => apartL_ok h4 s hs
  have hnq : ∀ m : List D, ∀ v ∈ [q, r, s], nth (setMany δ (d :: deps d c.K 0) m) v = nth δ v := fun m v hv => nth_setMany_notin _ _ _ _ fun hm => ap v hm hv
  simp only [hx, hE, hnq _ q (by simp), hnq _ r (by simp), hnq _ s (by simp)]
  cases hb : E (nth δ r) (nth δ q) (nth δ s) with
  | none => cases liveD (nth δ r) (.ref 0 0) <;> rfl
  | some b =>
    obtain ⟨g1, g2⟩ := hEl _ _ _ _ hb
    have hlive : ∀ a : D, a ≠ .bad → liveD a (.ref 0 0) = some (.ref 0 0) := fun a ha => by cases a <;> first | exact absurd rfl ha | rfl
    have hr : nth (setMany δ [r] [b]) r = b := by
      simp only [setMany]
      rw [nth_setAt_eq, if_pos]
      by_cases hl : r < δ.length
      · exact hl
      · exfalso
        rw [nth_eq, List.getD_eq_getElem?_getD, List.getElem?_eq_none (by omega)] at g1
        exact g1 rfl
    simp only [hlive _ g1, hr, hlive _ g2, Option.bind_some]
    rw [setMany_swap (A := d :: deps d c.K 0) (C := [r])]
    intro v hv hv'
    exact ap v hv (by simp at hv'; simp [hv'])

theorem step_swap0 {ops : List Oper} {x y : Oper} (h : indep0 c ops x y = true) (δ : List D) (k : List D → Option Out) : stepK c ops x δ (fun δ => stepK c ops y δ k) = stepK c ops y δ (fun δ => stepK c ops x δ k) := by
  unfold indep0 at h
  simp only [Bool.and_eq_true] at h
  obtain ⟨⟨h1, h2⟩, h3⟩ := h
  obtain ⟨φ, hφ, hφr⟩ := step_form c ops x
  obtain ⟨ψ, hψ, hψr⟩ := step_form c ops y
  have e1 : ∀ l, ψ (setMany δ (wrS c x) l) = ψ δ := fun l => hψr _ _ (getAll_congr fun s hs => nth_setMany_notin _ _ _ _ fun hm => apartL_ok h2 s hm hs)
  have e2 : ∀ l, φ (setMany δ (wrS c y) l) = φ δ := fun l => hφr _ _ (getAll_congr fun s hs => nth_setMany_notin _ _ _ _ (apartL_ok h1 s hs))
  simp only [hφ, hψ, e1, e2]
  cases φ δ with
  | none => cases ψ δ <;> rfl
  | some l =>
    cases ψ δ with
    | none => rfl
    | some m =>
      simp only [Option.bind_some]
      rw [setMany_swap (apartL_ok h3)]

theorem asmV_live {δ : List D} : ∀ (ags : List Ag) (ds : List D), asmV ags (getAll δ (agRd ags)) = some ds → ∀ t ∈ agIo ags, nth δ t ≠ .bad
  | [], _, _, t, ht => by simp [agIo] at ht
  | .d x chk :: l, ds, h, t, ht => by
    have ih := asmV_live (δ := δ) l
    simp only [agIo] at ht
    cases x with
    | tmp u =>
      simp only [getAll] at h
      cases chk
      · simp only [asmV] at h
        obtain ⟨z, hz, _⟩ := Option.map_eq_some_iff.1 h
        exact ih z hz t ht
      · simp only [asmV] at h
        obtain ⟨i, _, h⟩ := Option.bind_eq_some_iff.1 h
        obtain ⟨z, hz, _⟩ := Option.map_eq_some_iff.1 h
        exact ih z hz t ht
    | const v =>
      simp only [asmV] at h
      obtain ⟨z, hz, _⟩ := Option.map_eq_some_iff.1 h
      exact ih z hz t ht
    | func f =>
      simp only [asmV] at h
      obtain ⟨z, hz, _⟩ := Option.map_eq_some_iff.1 h
      exact ih z hz t ht
    | global g => simp [asmV] at h
  | .bor u r :: l, ds, h, t, ht => by
    have ih := asmV_live (δ := δ) l
    simp only [agIo] at ht
    cases hb : Nat.beq u r
    · simp only [agRd, hb, getAll, asmV] at h
      obtain ⟨i, _, h⟩ := Option.bind_eq_some_iff.1 h
      obtain ⟨z, hz, _⟩ := Option.map_eq_some_iff.1 h
      exact ih z hz t ht
    · simp only [agRd, hb, getAll, asmV] at h
      obtain ⟨z, hz, _⟩ := Option.map_eq_some_iff.1 h
      exact ih z hz t ht
  | .io u r :: l, ds, h, t, ht => by
    have ih := asmV_live (δ := δ) l
    simp only [agIo, List.mem_cons] at ht
    have lv : ∀ x y z : D, liveD x y = some z → x ≠ .bad := fun x y z hz e => by subst e; cases hz
    cases hb : Nat.beq u r
    · simp only [agRd, hb, getAll, asmV] at h
      obtain ⟨i, hi, h⟩ := Option.bind_eq_some_iff.1 h
      obtain ⟨i', hi', h⟩ := Option.bind_eq_some_iff.1 h
      obtain ⟨z, hz, _⟩ := Option.map_eq_some_iff.1 h
      have e : i = nth δ r := by
        unfold ref0 at hi
        split at hi
        · exact (Option.some.inj hi).symm
        · cases hi
      rcases ht with rfl | ht
      · rw [← e]; exact lv _ _ _ hi'
      · exact ih z hz t ht
    · simp only [agRd, hb, getAll, asmV] at h
      obtain ⟨i', hi', h⟩ := Option.bind_eq_some_iff.1 h
      obtain ⟨z, hz, _⟩ := Option.map_eq_some_iff.1 h
      have e := beq_iff.1 hb
      rcases ht with rfl | ht
      · rw [← e]; exact lv _ _ _ hi'
      · exact ih z hz t ht

theorem mv_swap {ops : List Oper} {x y : Oper} (h : mvPair c ops x y = true) (δ : List D) (k : List D → Option Out) (r : Out) (hs : stepK c ops x δ (fun δ => stepK c ops y δ k) = some r) : stepK c ops y δ (fun δ => stepK c ops x δ k) = some r := by
  unfold mvPair at h
  simp only [Bool.and_eq_true] at h
  obtain ⟨⟨h1, h2⟩, h3⟩ := h
  unfold mvCall at h1
  split at h1
  case h_2 => cases h1
  rename_i q t d hxg hyg hxo hyo hyd
  split at h1
  case h_2 => cases h1
  rename_i n lv io r' f hkt hkd hqc
  split at h1
  case h_2 => cases h1
  rename_i S hS
  split at h1
  case h_2 => cases h1
  rename_i ags hags
  simp only [Bool.and_eq_true] at h1
  obtain ⟨h4, h5⟩ := h1
  have e4 := beq_iff.1 h4
  subst e4
  have hyA : actOf c y = some (.one [r'] d fun is => (arg1 fun x => liveD x (.ref 0 0)) is) := by
    simp only [actOf, hyo, hyd, mvOf, hkt, hkd, Nat.beq_refl]
  have hw : wrS c y = d :: deps d c.K 0 := by
    unfold wrS
    rw [hyA]
  have hy : ∀ (δ : List D) (k : List D → Option Out), stepK c ops y δ k = (liveD (nth δ r') (.ref 0 0)).bind fun z => k (setMany δ (d :: deps d c.K 0) [z]) := by
    intro δ k
    simp only [stepK, hyA, hyg]
    rw [getC_eq]
    show (liveD (nth δ r') (.ref 0 0)).bind (fun z => setManyC δ (d :: deps d c.K 0) [z] k) = _
    exact congrArg _ (funext fun z => setManyC_eq _ _ _ _)
  have live : ∀ (δ : List D) (K : List D → Option Out) (r : Out), stepK c ops x δ K = some r → nth δ r' ≠ .bad := by
    intro δ K r hr
    have hm : r' ∈ agIo ags := by simpa [memN_eq] using h5
    have fin : ∀ K' : List D → Option Out, asmK [] ags (getAll δ (agRd ags)) K' = some r → nth δ r' ≠ .bad := by
      intro K' h
      rw [asmK_eq] at h
      obtain ⟨ds, hds, _⟩ := Option.bind_eq_some_iff.1 h
      exact asmV_live ags ds hds r' hm
    have hA : actOf c x = caOf c x.dst q := by simp only [actOf, hxo]
    have hcl : ∀ A, actOf c x = some A → clOf c x.dst S q.args.toList = some A := by
      intro A h
      rw [hA] at h
      unfold caOf at h
      rw [hqc] at h
      simp only [hS] at h
      exact h
    cases hAc : actOf c x with
    | none => simp only [stepK, hAc] at hr; cases hr
    | some A =>
      have hA2 := hcl A hAc
      unfold clOf at hA2
      simp only [hags] at hA2
      simp only [stepK, hAc, hxg] at hr
      repeat' split at hA2
      all_goals first
        | (cases hA2; done)
        | (cases hA2; simp only [getC_eq] at hr; exact fin _ hr)
        | skip
  have l1 := live δ _ r hs
  obtain ⟨φ, hφ, hφr⟩ := step_form c ops x
  rw [hw] at h2 h3
  have e2 : ∀ l, φ (setMany δ (d :: deps d c.K 0) l) = φ δ := fun l => hφr _ _ (getAll_congr fun s hs => nth_setMany_notin _ _ _ _ (apartL_ok h2 s hs))
  have hlive : ∀ a : D, a ≠ .bad → liveD a (.ref 0 0) = some (.ref 0 0) := fun a ha => by cases a <;> first | exact absurd rfl ha | rfl
  simp only [hφ, hy, e2] at hs ⊢
  rw [hlive _ l1]
  cases hp : φ δ with
  | none => rw [hp] at hs; cases hs
  | some l =>
    rw [hp] at hs
    simp only [Option.bind_some] at hs ⊢
    obtain ⟨z, hz, hk⟩ := Option.bind_eq_some_iff.1 hs
    have ez : z = .ref 0 0 := by
      unfold liveD at hz
      split at hz
      · cases hz
      · exact (Option.some.inj hz).symm
    subst ez
    rw [setMany_swap (apartL_ok h3)] at hk
    exact hk

theorem step_swap {ops : List Oper} {x y : Oper} (h : indep c ops x y = true) (δ : List D) (k : List D → Option Out) (r : Out) (hs : stepK c ops x δ (fun δ => stepK c ops y δ k) = some r) : stepK c ops y δ (fun δ => stepK c ops x δ k) = some r := by
  unfold indep at h
  simp only [Bool.or_eq_true] at h
  rcases h with ((h | h) | h) | h
  · exact (step_swap0 h δ k).symm.trans hs
  · exact (lv_swap h δ k).symm.trans hs
  · exact (lv_swap h δ k).trans hs
  · exact mv_swap h δ k r hs

/-- A step whose further text answers more. -/
theorem step_more {ops : List Oper} {o : Oper} {k k' : List D → Option Out} {δ : List D} {r : Out} (hk : ∀ δ, k δ = some r → k' δ = some r) (h : stepK c ops o δ k = some r) : stepK c ops o δ k' = some r := by
  obtain ⟨φ, hφ, _⟩ := step_form c ops o
  rw [hφ] at h ⊢
  obtain ⟨l, hl, h⟩ := Option.bind_eq_some_iff.1 h
  rw [hl]
  exact hk _ h

theorem runOps_front {ops : List Oper} {o : Oper} {k : List D → Option Out} {r : Out} : ∀ (pre post : List Oper) (δ : List D), (∀ q ∈ pre, indep c ops q o = true) → runOps c ops (pre ++ o :: post) δ k = some r → stepK c ops o δ (fun δ => runOps c ops (pre ++ post) δ k) = some r
  | [], post, δ, _, h => h
  | q :: pre, post, δ, h, hr => by
    simp only [List.cons_append, runOps] at hr ⊢
    exact step_swap (h q (by simp)) δ _ r (step_more (fun δ' h' => runOps_front pre post δ' (fun q' hq' => h q' (by simp [hq'])) h') hr)

/-- The operations that are not yet listed, in the order of the text. -/
def left (ops : List Oper) (listed : Array Bool) : List Oper := (ops.zipIdx.filter fun p => !listed.getD p.2 true).map (·.1)

theorem Inv.drawn (h : Inv c B X w0 F0 F O a w δ) (n : Nat) : Inv c B X w0 F0 F O a { w with drawn := n } δ :=
  h.step (w' := { w with drawn := n }) (fun _ => False) rfl rfl rfl (fun _ _ => ⟨rfl, .inl rfl⟩) (fun _ hb => hb) (fun _ _ => rfl) (fun _ _ hp _ => ⟨hp, rfl⟩) (fun _ _ _ hv hb => ⟨rfl, (h.root hv hb).2⟩) (fun _ hf => hf.elim) h.fl h.ol (fun _ hb => .inl hb) (Nat.le_refl _) rfl rfl rfl (fun _ _ _ => rfl)

theorem split_at {l : List Oper} {i : Nat} {o : Oper} (h : l[i]? = some o) : l.zipIdx = (l.take i).zipIdx ++ (o, i) :: (l.drop (i + 1)).zipIdx (i + 1) := by
  have hi : i < l.length := (List.getElem?_eq_some_iff.1 h).1
  have e : l = l.take i ++ (o :: l.drop (i + 1)) := by
    have h1 : l[i] = o := (List.getElem?_eq_some_iff.1 h).2
    conv => lhs; rw [← List.take_append_drop i l, List.drop_eq_getElem_cons hi, h1]
  conv => lhs; rw [e]
  rw [List.zipIdx_append, List.zipIdx_cons]
  have : (l.take i).length = i := by rw [List.length_take]; omega
  simp [this]

theorem left_split {l : List Oper} {listed : Array Bool} {i : Nat} {o : Oper} (h : l[i]? = some o) (hn : listed.getD i true = false) (hsz : i < listed.size) :
    left l listed = (((l.take i).zipIdx.filter fun p => !listed.getD p.2 true).map (·.1)) ++ o :: ((((l.drop (i + 1)).zipIdx (i + 1)).filter fun p => !listed.getD p.2 true).map (·.1)) ∧
    left l (listed.setIfInBounds i true) = (((l.take i).zipIdx.filter fun p => !listed.getD p.2 true).map (·.1)) ++ ((((l.drop (i + 1)).zipIdx (i + 1)).filter fun p => !listed.getD p.2 true).map (·.1)) := by
  have hne : ∀ j, j ≠ i → (listed.setIfInBounds i true).getD j true = listed.getD j true := fun j hj => by
    simp only [Array.getD_eq_getD_getElem?, Array.getElem?_setIfInBounds, Ne.symm hj, if_false]
  have hi : (listed.setIfInBounds i true).getD i true = true := by
    simp [Array.getD_eq_getD_getElem?, hsz]
  unfold left
  rw [split_at h]
  simp only [List.filter_append, List.map_append, List.filter_cons, hn, hi, Bool.not_false, Bool.not_true, if_true, Bool.false_eq_true, if_false, List.map_cons]
  refine ⟨trivial, ?_⟩
  congr 2
  · refine List.filter_congr fun p hp => ?_
    have := List.snd_lt_of_mem_zipIdx hp
    rw [List.length_take] at this
    rw [hne p.2 (by omega)]
  · refine List.filter_congr fun p hp => ?_
    have := List.le_snd_of_mem_zipIdx hp
    rw [hne p.2 (by omega)]

/-- What is listed is listed with all that comes before it. -/
def Cl (ops : Array Oper) (listed : Array Bool) : Prop := ∀ (m : Nat) (q : Oper), ops[m]? = some q → listed.getD m false = true → ∀ e ∈ q.after, Region.binds .any e = true → listed.getD e.on false = true
theorem bef_listed {ops : Array Oper} {listed : Array Bool} (hc : Cl ops listed) {j : Nat} : ∀ (n : Nat) (o : Oper), (∀ e ∈ o.after, Region.binds .any e = true → listed.getD e.on false = true) → bef ops.toList j n o = true → listed.getD j false = true
  | 0, _, _, h => by simp [bef] at h
  | n + 1, o, ho, h => by
    simp only [bef, List.any_eq_true, Bool.and_eq_true, Bool.or_eq_true] at h
    obtain ⟨e, he, hb, h⟩ := h
    have hl := ho e (by simpa using he) hb
    rcases h with h | h
    · rw [← beq_iff.1 h]
      exact hl
    · split at h
      · rename_i q hq
        rw [nthO_eq, Array.getElem?_toList] at hq
        exact bef_listed hc n q (hc e.on q hq hl) h
      · cases h
theorem listed_set {listed : Array Bool} {i x : Nat} (h : listed.getD x false = true) : (listed.setIfInBounds i true).getD x false = true := by
  rw [Array.getD_eq_getD_getElem?] at h ⊢
  rw [Array.getElem?_setIfInBounds]
  split
  · split <;> rename_i h1 h2
    · rfl
    · subst h1
      rw [Array.getElem?_eq_none (by omega)] at h
      cases h
  · exact h
theorem Cl_set {ops : Array Oper} {listed : Array Bool} (hc : Cl ops listed) {i : Nat} {o : Oper} (ho : ops[i]? = some o) (hed : ∀ e ∈ o.after, Region.binds .any e = true → listed.getD e.on false = true) : Cl ops (listed.setIfInBounds i true) := by
  intro m q hq hm e he hb
  by_cases hmi : m = i
  · subst hmi
    rw [ho] at hq
    cases hq
    exact listed_set (hed e he hb)
  · refine listed_set (hc m q hq ?_ e he hb)
    rw [Array.getD_eq_getD_getElem?, Array.getElem?_setIfInBounds, if_neg (fun e => hmi e.symm)] at hm
    rw [Array.getD_eq_getD_getElem?]
    exact hm
theorem any_soundA (hT : okT P c.T = true) (hS : ∀ f S, look c.S f = some S → Meets c.G P f S) {ops : Array Oper} (hany : okAny c ops.toList = true) {V : Nat → Value} {Q : Exit → Act → World → Prop} {k : List D → Option Out} {r : Out} (hQ : ∀ a w, NextV c B X w0 F0 V k r a w → Q .normal a w)
    (hok : ∀ o ∈ ops.toList, okOp c ops.toList o = true) (hI : Inv c B X w0 F0 F O a w δ) (hV : IoV c V a) (hg : runOps c ops.toList ops.toList δ k = some r) : wpAny P .any ops Q ops.size (Array.replicate ops.size false) a { w with drawn := w.drawn + 1 } := by
  have hedge : ∀ (i : Nat) (o : Oper), ops[i]? = some o → (∀ e ∈ o.after, Region.binds .any e = true → e.on < i) ∧ ∀ (j : Nat) (q : Oper), j < i → ops[j]? = some q → bef ops.toList j 3 o = true ∨ indep c ops.toList q o = true := by
    intro i o ho
    have h0 := hany
    unfold okAny at h0
    rw [List.all_eq_true] at h0
    have hl : ops.toList[i]? = some o := by simpa using ho
    have h1 := h0 (o, i) (by rw [split_at hl]; simp)
    simp only [Bool.and_eq_true, Bool.or_eq_true, Bool.not_eq_true', decide_eq_true_eq, List.all_eq_true] at h1
    refine ⟨fun e he hb => (h1.1 e (by simpa using he)).resolve_left (by rw [hb]; simp), fun j q hj hq => ?_⟩
    have hq' : (ops.toList.take i)[j]? = some q := by
      rw [List.getElem?_take_of_lt hj]; simpa using hq
    exact (h1.2 (q, j) (by rw [split_at hq']; simp)).symm
  have main : ∀ (fuel : Nat) (listed : Array Bool) (F : Nat → Prop) (O : Nat → Option (Nat × Nat)) (a : Act) (w : World) (δ : List D), listed.size = ops.size → Cl ops listed → (left ops.toList listed).length ≤ fuel → Inv c B X w0 F0 F O a w δ → IoV c V a →
      runOps c ops.toList (left ops.toList listed) δ k = some r → wpAny P .any ops Q fuel listed a w := by
    intro fuel
    have ready_mem : ∀ (listed : Array Bool) (i : Nat), i ∈ Region.ready .any ops listed → ∃ o, ops[i]? = some o ∧ listed.getD i true = false ∧ ∀ e ∈ o.after, Region.binds .any e = true → listed.getD e.on false = true := by
      intro listed i hi
      unfold Region.ready at hi
      rw [List.mem_filter] at hi
      obtain ⟨hr, hi⟩ := hi
      simp only [Bool.and_eq_true, Bool.not_eq_true'] at hi
      cases ho : ops[i]? with
      | none => rw [ho] at hi; simp at hi
      | some o =>
        rw [ho] at hi
        simp only [Option.map_some, Option.getD_some, Array.all_eq_true_iff_forall_mem, Bool.or_eq_true, Bool.not_eq_true'] at hi
        exact ⟨o, rfl, hi.1, fun e he hb => (hi.2 e he).resolve_left (by rw [hb]; simp)⟩
    have empty : ∀ (listed : Array Bool), listed.size = ops.size → Region.ready .any ops listed = [] → left ops.toList listed = [] := by
      intro listed hsz hr
      have all : ∀ i, i < ops.size → listed.getD i true = true := by
        intro i
        induction i using Nat.strongRecOn with
        | _ i ih =>
          intro hi
          cases hl : listed.getD i true with
          | true => rfl
          | false =>
            exfalso
            have ho : ops[i]? = some ops[i] := Array.getElem?_eq_getElem hi
            have hmem : i ∈ Region.ready .any ops listed := by
              unfold Region.ready
              rw [List.mem_filter]
              refine ⟨List.mem_range.2 hi, ?_⟩
              rw [hl, ho]
              simp only [Bool.not_false, Bool.true_and, Option.map_some, Option.getD_some, Array.all_eq_true_iff_forall_mem, Bool.or_eq_true]
              intro e he
              cases hb : Region.binds .any e
              · exact .inl rfl
              right
              have h1 := (hedge i _ ho).1 e he hb
              have h2 := ih e.on h1 (by omega)
              have h3 : e.on < listed.size := by omega
              rw [Array.getD_eq_getD_getElem?, Array.getElem?_eq_getElem h3] at h2 ⊢
              exact h2
            rw [hr] at hmem
            cases hmem
      unfold left
      rw [List.map_eq_nil_iff, List.filter_eq_nil_iff]
      rintro ⟨o, i⟩ hp
      have hi := List.snd_lt_of_mem_zipIdx hp
      simp only [Bool.not_eq_true', Bool.not_eq_false]
      exact all i (by simpa using hi)
    induction fuel with
    | zero =>
      intro listed F O a w δ hsz hcl hl hI hV hg
      have h0 : left ops.toList listed = [] := List.eq_nil_of_length_eq_zero (by omega)
      rw [h0] at hg
      refine ⟨?_, hQ a w ⟨⟨F, O, δ, hI, hg⟩, hV⟩⟩
      cases hr : Region.ready .any ops listed with
      | nil => rfl
      | cons i rest =>
        exfalso
        obtain ⟨o, ho, hn, _⟩ := ready_mem listed i (by rw [hr]; simp)
        have hi : i < ops.size := (Array.getElem?_eq_some_iff.1 ho).1
        have := (left_split (l := ops.toList) (by simpa using ho) hn (by omega)).1
        rw [h0] at this
        simp at this
    | succ fuel ihf =>
      intro listed F O a w δ hsz hcl hl hI hV hg
      refine ⟨fun hr => ?_, fun i hi => ?_⟩
      · rw [empty listed hsz hr] at hg
        exact hQ a w ⟨⟨F, O, δ, hI, hg⟩, hV⟩
      · obtain ⟨o, ho, hn, hed⟩ := ready_mem listed i hi
        have hilt : i < ops.size := (Array.getElem?_eq_some_iff.1 ho).1
        obtain ⟨e1, e2⟩ := left_split (l := ops.toList) (by simpa using ho) hn (by omega)
        rw [e1] at hg hl
        have hfront : ∀ q ∈ (((ops.toList.take i).zipIdx.filter fun p => !listed.getD p.2 true).map (·.1)), indep c ops.toList q o = true := by
          intro q hq
          · simp only [List.mem_map, List.mem_filter] at hq
            obtain ⟨⟨q', j⟩, ⟨hm1, hm2⟩, rfl⟩ := hq
            have hj := List.snd_lt_of_mem_zipIdx hm1
            rw [List.length_take] at hj
            have hget : ops[j]? = some q' := by
              have := List.mem_zipIdx_iff_getElem?.1 hm1
              simp only at this
              rw [List.getElem?_take_of_lt (by omega)] at this
              simpa using this
            rcases (hedge i o ho).2 j q' (by omega) hget with hbf | h
            · exfalso
              have h3 := bef_listed hcl 3 o hed hbf
              simp only [Bool.not_eq_true'] at hm2
              have hjlt : j < listed.size := by omega
              rw [Array.getD_eq_getD_getElem?, Array.getElem?_eq_getElem hjlt] at h3 hm2
              simp only [Option.getD_some] at h3 hm2
              rw [h3] at hm2
              cases hm2
            · exact h
        · replace hg := runOps_front _ _ _ hfront hg
          rw [← e2] at hg
          have h := step_sound hT hS (ops := ops) (hok o (by simpa using Array.mem_of_getElem? ho)) hI hV hg Q
          have ih : ∀ a w, NextV c B X w0 F0 V (fun δ' => runOps c ops.toList (left ops.toList (listed.setIfInBounds i true)) δ' k) r a w → wpAny P .any ops Q fuel (listed.setIfInBounds i true) a w := by
            rintro a w ⟨⟨F', O', δ', hI', hk'⟩, hV'⟩
            exact ihf _ F' O' a w δ' (by simpa using hsz) (Cl_set hcl ho hed) (by rw [e2]; simp only [List.length_append, List.length_cons] at hl ⊢; omega) hI' hV' hk'
          unfold wpOp
          rw [ho]
          simp only
          split
          · rename_i hw
            rw [if_pos hw] at h
            exact .inl (Oper.wp_mono ih h)
          · rename_i hw
            rw [if_neg hw] at h
            exact ih _ _ h
  have hleft : left ops.toList (Array.replicate ops.size false) = ops.toList := by
    unfold left
    rw [List.filter_eq_self.2]
    · simp
    · rintro ⟨o, i⟩ hp
      have hi := List.snd_lt_of_mem_zipIdx hp
      have hi' : i < ops.size := by simpa using hi
      simp [Array.getD_eq_getD_getElem?, hi']
  refine main ops.size _ F O a _ δ (by simp) (fun m q _ hm => ?_) ?_ (hI.drawn _) hV ?_
  · rw [Array.getD_eq_getD_getElem?, Array.getElem?_replicate] at hm
    split at hm <;> cases hm
  · rw [hleft]; simp
  · rw [hleft]; exact hg
theorem any_sound (hT : okT P c.T = true) (hS : ∀ f S, look c.S f = some S → Meets c.G P f S) {ops : Array Oper} (hany : okAny c ops.toList = true) (hm : P.follows .mixedOrders = true) {V : Nat → Value} {Q : Exit → Act → World → Prop} {k : List D → Option Out} {r : Out} (hQ : ∀ a w, NextV c B X w0 F0 V k r a w → Q .normal a w)
    (hok : ∀ o ∈ ops.toList, okOp c ops.toList o = true) (hI : Inv c B X w0 F0 F O a w δ) (hV : IoV c V a) (hg : runOps c ops.toList ops.toList δ k = some r) (id : Nat) : (Code.region id ops true).wp P Q a w := wp_region_any hm (any_soundA hT hS hany hQ hok hI hV hg)

theorem resC_nat : ∀ (l : List ResultVar) (δ : List D) (k : List D → Option Out), resC c δ l k = (resC c δ l fun rs => some (.nrm rs)).bind fun o => match o with
    | .nrm rs => k rs
    | _ => none
  | [], δ, k => rfl
  | .tmp t :: l, δ, k => by
    simp only [resC, nthC_eq]
    rw [resC_nat l δ fun rs => k (nth δ t :: rs), resC_nat l δ fun rs => some (.nrm (nth δ t :: rs))]
    cases h : resC c δ l fun rs => some (.nrm rs) with
    | none => rfl
    | some o => cases o <;> rfl
  | .cell s t :: l, δ, k => by
    simp only [resC]
    split
    · rename_i i _
      simp only [nthC_eq]
      cases fldD i.agg i.n 0 (nth δ s) with
      | none => rfl
      | some y =>
        simp only [Option.bind_some]
        rw [resC_nat l δ fun rs => k (y :: rs), resC_nat l δ fun rs => some (.nrm (y :: rs))]
        cases h : resC c δ l fun rs => some (.nrm rs) with
        | none => rfl
        | some o => cases o <;> rfl
    · rfl

theorem usK_some : ∀ {us : List D} {o : Option Out} {r : Out}, usK us o = some r ↔ (∀ u ∈ us, u ≠ .bad) ∧ o = some r
  | [], o, r => by simp [usK]
  | u :: us, o, r => by
    simp only [usK, Option.bind_eq_some_iff, List.mem_cons, forall_eq_or_imp]
    constructor
    · rintro ⟨y, h1, h2⟩
      obtain ⟨h3, h4⟩ := usK_some.1 h2
      exact ⟨⟨(liveD_some h1).1, h3⟩, h4⟩
    · rintro ⟨⟨h1, h2⟩, h3⟩
      refine ⟨u, ?_, usK_some.2 ⟨h2, h3⟩⟩
      cases u <;> first | rfl | exact absurd rfl h1

theorem retK_is {δ : List D} {k : Out → Option Out} {r : Out} (h : retK c δ k = some r) : ∃ rs, resC c δ c.res (fun rs => some (.nrm rs)) = some (.nrm rs) ∧ (∀ u ∈ getAll δ c.ios, u ≠ .bad) ∧ k (.ret rs (getAll δ c.ios)) = some r := by
  unfold retK at h
  simp only [getC_eq] at h
  rw [resC_nat] at h
  cases hh : resC c δ c.res fun rs => some (.nrm rs) with
  | none => rw [hh] at h; cases h
  | some o =>
    rw [hh] at h
    cases o with
    | nrm rs =>
      simp only [Option.bind_some] at h
      obtain ⟨h1, h2⟩ := usK_some.1 h
      exact ⟨rs, rfl, h1, h2⟩
    | ext i δ => cases h
    | ret x y => cases h

theorem retK_of {δ : List D} {k : Out → Option Out} {r : Out} {rs : List D} (h1 : resC c δ c.res (fun rs => some (.nrm rs)) = some (.nrm rs)) (h2 : ∀ u ∈ getAll δ c.ios, u ≠ .bad) (hk : k (.ret rs (getAll δ c.ios)) = some r) : retK c δ k = some r := by
  unfold retK
  simp only [getC_eq]
  rw [resC_nat, h1]
  simp only [Option.bind_some]
  exact usK_some.2 ⟨h2, hk⟩

/-- What a list of slots carries over. -/
def carry (n : Nat) (hl : List Nat) (δ : List D) : List D := setMany (voidL n) hl (getAll δ hl)
theorem voidL_eq : ∀ n, voidL n = List.replicate n .bad
  | 0 => rfl
  | n + 1 => by simp [voidL, voidL_eq n, List.replicate_succ]
theorem nth_void (n s : Nat) : nth (voidL n) s = .bad := by
  rw [nth_eq, voidL_eq, List.getD_eq_getElem?_getD, List.getElem?_replicate]
  split <;> rfl
theorem expandC_eq (n : Nat) (hl : List Nat) (δ : List D) (k : List D → Option Out) : expandC n hl (getAll δ hl) k = k (carry n hl δ) := by
  unfold expandC carry
  rw [setManyC_eq, fit_eq _ _ 0 (by rw [getAll_len]; omega), List.drop_zero]
theorem getAll_map (δ : List D) : ∀ (l : List Nat), getAll δ l = l.map (nth δ)
  | [] => rfl
  | _ :: l => by simp [getAll, getAll_map δ l]
theorem carry_nth {hl : List Nat} {δ : List D} (s : Nat) : nth (carry δ.length hl δ) s = if s ∈ hl then nth δ s else .bad := by
  unfold carry
  rw [getAll_map, setMany_map]
  have hlen : (voidL δ.length).length = δ.length := by rw [voidL_eq]; simp
  rw [hlen, nth_void]
  split
  · split
    · rfl
    · rename_i h
      by_cases hb : nth δ s = .bad
      · exact hb.symm
      · exact absurd (nth_lt hb) h
  · rfl
theorem Inv.carry (h : Inv c B X w0 F0 F O a w δ) {hl : List Nat} (hk : okLive c.K hl = true) : Inv c B X w0 F0 F O a w (carry (lenN c.K) hl δ) := by
  have e : lenN c.K = δ.length := by rw [lenN_eq, h.ld]
  rw [e]
  refine h.forget ?_ (fun s => ?_) (fun s r hv hb => ?_)
  · unfold V.carry; rw [len_setMany, voidL_eq]; simp
  · rw [carry_nth]
    split
    · exact .inl rfl
    · exact .inr rfl
  · rw [carry_nth] at hb
    split at hb
    case isFalse => exact absurd rfl hb
    rename_i hs
    unfold okLive at hk
    rw [List.all_eq_true] at hk
    have hks := hk s hs
    have hr : r ∈ hl := by
      rcases hv with e | e <;> rw [e] at hks <;> simpa [memN_eq] using hks
    rw [carry_nth, if_pos hr]
    exact (h.root hv hb).2

theorem NextV_mono {V : Nat → Value} {k k' : List D → Option Out} {r r' : Out} (h : NextV c B X w0 F0 V k r a w) (hk : ∀ δ F O, Inv c B X w0 F0 F O a w δ → k δ = some r → k' δ = some r') : NextV c B X w0 F0 V k' r' a w := by
  obtain ⟨⟨F, O, δ, h1, h2⟩, h3⟩ := h
  exact ⟨⟨F, O, δ, h1, hk δ F O h1 h2⟩, h3⟩

theorem loop_rounds {V : Nat → Value} {b : Code} {bid : Nat} {hl xl : List Nat} (h1 : okLive c.K hl = true) (h2 : okLive c.K xl = true)
    (ih : ∀ (F : Nat → Prop) (O : Nat → Option (Nat × Nat)) (a : Act) (w : World) (δ : List D), Inv c B X w0 F0 F O a w δ → IoV c V a → ∀ (k : Out → Option Out) (r : Out), den c bid b δ k = some r → ∀ Q, (∀ e a w, Post c B X w0 F0 V k r e a w → Q e a w) → b.wp P Q a w)
    {k : Out → Option Out} {r : Out} {Q : Exit → Act → World → Prop} (hQ : ∀ e a w, Post c B X w0 F0 V k r e a w → Q e a w) {o : Out}
    (ho : outK o (fun i s => expandC (lenN c.K) xl s fun δ => k (.ext i δ)) (fun x y => k (.ret x y)) = some r) : ∀ (n : Nat) (F : Nat → Prop) (O : Nat → Option (Nat × Nat)) (a : Act) (w : World) (δ : List D), Inv c B X w0 F0 F O a w δ → IoV c V a →
    iter (fun s => expandC (lenN c.K) hl s fun δ => den c bid b δ (shrinkK hl xl)) n (getAll δ hl) = some o → Code.rounds P b Q n a w
  | 0, _, _, _, _, _, _, _, h => by cases h
  | n + 1, F, O, a, w, δ, hI, hV, h => by
    simp only [iter, expandC_eq] at h
    rw [rounds_succ]
    have hI' := hI.carry h1
    cases hb : den c bid b (carry (lenN c.K) hl δ) (shrinkK hl xl) with
    | none => rw [hb] at h; cases h
    | some ob =>
      rw [hb] at h
      refine ih F O a w _ hI' hV _ ob hb _ (fun e a' w' hp => ?_)
      cases ob with
      | nrm s' =>
        simp only at h
        cases e with
        | normal =>
          obtain ⟨⟨F', O', δ', g1, g2⟩, g3⟩ := hp
          simp only [shrinkK, getC_eq, Option.some.injEq, Out.nrm.injEq] at g2
          rw [← g2] at h
          exact loop_rounds h1 h2 ih hQ ho n F' O' a' w' δ' g1 g3 h
        | exit i =>
          obtain ⟨⟨F', O', δ', g1, g2⟩, g3⟩ := hp
          simp [shrinkK, getC_eq] at g2
        | ret =>
          obtain ⟨⟨F', O', δ', g1, g2⟩, g3⟩ := hp
          obtain ⟨rs, _, _, g4⟩ := retK_is g2
          simp [shrinkK] at g4
        | _ => exact hp.elim
      | ext i l =>
        simp only [Option.some.injEq] at h
        subst h
        cases e with
        | normal =>
          obtain ⟨⟨F', O', δ', g1, g2⟩, g3⟩ := hp
          simp [shrinkK, getC_eq] at g2
        | exit j =>
          obtain ⟨⟨F', O', δ', g1, g2⟩, g3⟩ := hp
          simp only [shrinkK, getC_eq, Option.some.injEq, Out.ext.injEq] at g2
          obtain ⟨rfl, rfl⟩ := g2
          simp only [outK, expandC_eq] at ho
          exact hQ (.exit j) _ _ ⟨⟨F', O', _, g1.carry h2, ho⟩, g3⟩
        | ret =>
          obtain ⟨⟨F', O', δ', g1, g2⟩, g3⟩ := hp
          obtain ⟨rs, _, _, g4⟩ := retK_is g2
          simp [shrinkK] at g4
        | _ => exact hp.elim
      | ret x y =>
        simp only [Option.some.injEq] at h
        subst h
        cases e with
        | normal =>
          obtain ⟨⟨F', O', δ', g1, g2⟩, g3⟩ := hp
          simp [shrinkK, getC_eq] at g2
        | exit j =>
          obtain ⟨⟨F', O', δ', g1, g2⟩, g3⟩ := hp
          simp [shrinkK, getC_eq] at g2
        | ret =>
          obtain ⟨⟨F', O', δ', g1, g2⟩, g3⟩ := hp
          obtain ⟨rs, g5, g6, g4⟩ := retK_is g2
          simp only [shrinkK, Option.some.injEq, Out.ret.injEq] at g4
          obtain ⟨rfl, rfl⟩ := g4
          exact hQ .ret _ _ ⟨⟨F', O', δ', g1, retK_of g5 g6 ho⟩, g3⟩
        | _ => exact hp.elim

theorem den_sound (hT : okT P c.T = true) (hS : ∀ f S, look c.S f = some S → Meets c.G P f S) (hm : P.follows .mixedOrders = true) {V : Nat → Value} : ∀ (b : Code) (bid : Nat), okCode c bid b = true → ∀ (F : Nat → Prop) (O : Nat → Option (Nat × Nat)) (a : Act) (w : World) (δ : List D),
    Inv c B X w0 F0 F O a w δ → IoV c V a → ∀ (k : Out → Option Out) (r : Out), den c bid b δ k = some r → ∀ Q, (∀ e a w, Post c B X w0 F0 V k r e a w → Q e a w) → b.wp P Q a w
  | .skip, bid, _, F, O, a, w, δ, hI, hV, k, r, hg, Q, hQ => wp_skip (hQ _ _ _ ⟨⟨F, O, δ, hI, hg⟩, hV⟩)
  | .region id ops d, bid, hok, F, O, a, w, δ, hI, hV, k, r, hg, Q, hQ => by
    simp only [okCode, Bool.and_eq_true, List.all_eq_true] at hok
    have hq : ∀ a w, NextV c B X w0 F0 V (fun δ => k (.nrm δ)) r a w → Q .normal a w := fun a w h => hQ _ _ _ h
    cases d
    · exact wp_region_list (list_sound hT hS hq ops.toList hok.1 F O a w δ hI hV hg)
    · exact any_sound hT hS (by simpa using hok.2) hm hq hok.1 hI hV hg id
  | .seq x y, bid, hok, F, O, a, w, δ, hI, hV, k, r, hg, Q, hQ => by
    simp only [okCode, Bool.and_eq_true] at hok
    refine wp_seq (den_sound hT hS hm x bid hok.1 F O a w δ hI hV _ r hg _ (fun e a' w' hp => ?_))
    cases e with
    | normal =>
      obtain ⟨⟨F', O', δ', hI', hk'⟩, hV'⟩ := hp
      exact den_sound hT hS hm y bid hok.2 F' O' a' w' δ' hI' hV' k r hk' Q hQ
    | exit id => exact hQ _ _ _ hp
    | ret => exact hQ _ _ _ hp
    | _ => exact hp.elim
  | .cond x t e, bid, hok, F, O, a, w, δ, hI, hV, k, r, hg, Q, hQ => by
    simp only [okCode, Bool.and_eq_true] at hok
    obtain ⟨⟨hlv, hok1⟩, hok2⟩ := hok
    have hop := hI.opd (ble_iff.1 hlv)
    have key : ifD (opD δ x) (den c bid t δ k) (den c bid e δ k) = some r := by
      simp only [den] at hg
      cases x with
      | tmp s => simpa only [opC, nthC_eq, opD] using hg
      | const v => simpa only [opC, opD] using hg
      | func f => simpa only [opC, opD] using hg
      | global g => simp [opC] at hg
    unfold ifD at key
    split at key
    · rename_i hd
      rw [hd] at hop
      exact wp_cond_true (RepB_v hop).1 (den_sound hT hS hm t bid hok1 F O a w δ hI hV k r key Q hQ)
    · rename_i hd
      rw [hd] at hop
      exact wp_cond_false (RepB_v hop).1 (den_sound hT hS hm e bid hok2 F O a w δ hI hV k r key Q hQ)
    · cases key
  | .block id b, bid, hok, F, O, a, w, δ, hI, hV, k, r, hg, Q, hQ => by
    simp only [okCode] at hok
    refine wp_block (den_sound hT hS hm b id hok F O a w δ hI hV _ r hg _ (fun e a' w' hp => ?_))
    cases e with
    | normal => exact hQ .normal _ _ hp
    | exit i =>
      simp only [Exit.inBlock]
      have hp' : NextV c B X w0 F0 V (fun δ => blkK id (.ext i δ) k) r a' w' := hp
      split
      · rename_i hi
        refine hQ .normal _ _ (NextV_mono hp' fun δ F O _ h => ?_)
        simp only [blkK] at h
        rw [beq_iff.2 (by simpa using hi)] at h
        exact h
      · rename_i hi
        refine hQ (.exit i) _ _ (NextV_mono hp' fun δ F O _ h => ?_)
        simp only [blkK] at h
        cases hb : Nat.beq i id
        · rw [hb] at h; exact h
        · exact absurd (by simpa using beq_iff.1 hb) hi
    | ret => exact hQ .ret _ _ hp
    | _ => exact hp.elim
  | .loop b, bid, hok, F, O, a, w, δ, hI, hV, k, r, hg, Q, hQ => by
    simp only [okCode, Bool.and_eq_true] at hok
    obtain ⟨hok1, hok2⟩ := hok
    simp only [den] at hg
    cases hH : look c.H bid with
    | none => rw [hH] at hg; cases hg
    | some hx =>
      obtain ⟨hl, xl⟩ := hx
      rw [hH] at hg hok2
      simp only [Bool.and_eq_true] at hok2
      simp only [getC_eq] at hg
      obtain ⟨o', h1, h2⟩ := Option.bind_eq_some_iff.1 hg
      unfold loopC at h1
      split at h1
      case isFalse => cases h1
      rename_i hex
      refine wp_loop_rounds (Classical.choose hex) ?_
      refine loop_rounds (hl := hl) (xl := xl) hok2.1 hok2.2 (fun F O a w δ hI hV k r hg Q hQ => den_sound hT hS hm b bid hok1 F O a w δ hI hV k r hg Q hQ) hQ h2 _ F O a w δ hI hV h1
  | .exit id, bid, _, F, O, a, w, δ, hI, hV, k, r, hg, Q, hQ => wp_exit (hQ _ _ _ ⟨⟨F, O, δ, hI, hg⟩, hV⟩)
  | .ret, bid, _, F, O, a, w, δ, hI, hV, k, r, hg, Q, hQ => wp_ret (hQ _ _ _ ⟨⟨F, O, δ, hI, hg⟩, hV⟩)
  | .label _, _, hok, _, _, _, _, _, _, _, _, _, _, _, _ => by simp [okCode] at hok
  | .goto _, _, hok, _, _, _, _, _, _, _, _, _, _, _, _ => by simp [okCode] at hok
  | .scope _, _, hok, _, _, _, _, _, _, _, _, _, _, _, _ => by simp [okCode] at hok

end
end Go.V
/-
  A whole function: its contract.
-/
namespace Go.V
open Go.RowKit

def tmpsOf : List ResultVar → List Nat
  | [] => []
  | .tmp t :: l => t :: tmpsOf l
  | .cell _ _ :: l => tmpsOf l
def okRes (c : Cx) : List ResultVar → List Kd → Bool
  | [], [] => true
  | .tmp t :: l, .dat lv :: m => (match nthK c.K t with
    | .dat l' => Nat.ble l' lv
    | _ => false) && okRes c l m
  | .tmp t :: l, .own z lv false :: m => (match nthK c.K t with
    | .own z' l' false => Nat.beq z' z && Nat.ble l' lv
    | _ => false) && !memN t (tmpsOf l) && okRes c l m
  | .cell s t :: l, .dat lv :: m => (match nthK c.K s with
    | .box _ l' _ => Nat.ble l' lv
    | _ => false) && (look c.T t).isSome && okRes c l m
  | _, _ => false
def ioIdx : Nat → List Kd → List Nat
  | _, [] => []
  | i, k :: ks => if isIo k then i :: ioIdx (i + 1) ks else ioIdx (i + 1) ks
def eqK : Kd → Kd → Bool
  | .dat a, .dat b => Nat.beq a b
  | .own a b io, .own a' b' io' => Nat.beq a a' && Nat.beq b b' && io == io'
  | .box a b io, .box a' b' io' => Nat.beq a a' && Nat.beq b b' && io == io'
  | _, _ => false
def prefK : List Kd → List Kd → Bool
  | [], _ => true
  | k :: ks, l :: ls => eqK k l && prefK ks ls
  | _, _ => false

section
variable {P : Program} {c : Cx} {B : Nat} {X : Nat → Prop} {w0 : World} {F0 F : Nat → Prop} {O : Nat → Option (Nat × Nat)} {a : Act} {w : World} {δ : List D}

def getRes (tmps : Array Value) : ResultVar → Sem Value
  | .tmp t => pure (tmps.getD t undef)
  | .cell a t => do loadVar t (← asAddr (tmps.getD a undef))

theorem eqK_eq {k l : Kd} (h : eqK k l = true) : k = l := by
  unfold eqK at h
  split at h
  · rw [beq_iff] at h; rw [h]
  · simp only [Bool.and_eq_true, beq_iff, beq_iff_eq] at h
    obtain ⟨⟨rfl, rfl⟩, rfl⟩ := h; rfl
  · simp only [Bool.and_eq_true, beq_iff, beq_iff_eq] at h
    obtain ⟨⟨rfl, rfl⟩, rfl⟩ := h; rfl
  · cases h
theorem prefK_nth : ∀ {ks ls : List Kd}, prefK ks ls = true → ks.length ≤ ls.length ∧ ∀ (i : Nat), i < ks.length → nthK ls i = nthK ks i
  | [], _, _ => ⟨by simp, by simp⟩
  | k :: ks, l :: ls, h => by
    simp only [prefK, Bool.and_eq_true] at h
    obtain ⟨h1, h2⟩ := prefK_nth h.2
    refine ⟨by simp; exact h1, fun i hi => ?_⟩
    cases i with
    | zero => simp only [nthK]; exact (eqK_eq h.1).symm
    | succ i => simp only [nthK]; exact h2 i (by simpa using hi)
  | _ :: _, [], h => by simp [prefK] at h

def resOwn (B : Nat) (O : Nat → Option (Nat × Nat)) (res : List ResultVar) (j : Nat) (g : Nat) : Prop := B ≤ g ∧ ∃ t, res[j]? = some (.tmp t) ∧ O g = some (t, 0)

theorem ResOk_mono {w : World} {F : Nat → Prop} {B : Nat} {own own' : Nat → Prop} {k : Kd} {d : D} {y : Value} (ho : (∃ z lv, k = .own z lv false) → ∀ g, own g → own' g) (h : ResOk w F B own k d y) : ResOk w F B own' k d y := by
  rcases h with h | h
  · exact .inl h
  · refine .inr ?_
    cases k with
    | own z lv io =>
      cases io
      · exact h.own fun _ _ hg => ⟨ho ⟨z, lv, rfl⟩ _ hg.1, hg.2⟩
      · exact h
    | _ => exact h

theorem res_run (hT : okT P c.T = true) (hI : Inv c B X w0 F0 F O a w δ) : ∀ (res : List ResultVar) (rm : List Kd) (rs : List D), okRes c res rm = true → resC c δ res (fun rs => some (.nrm rs)) = some (.nrm rs) →
    ∃ vs : List Value, (res.mapM (getRes a.tmps)).run P w = .ok vs w ∧ vs.length = rm.length ∧ rs.length = rm.length ∧ ∀ j, ResOk w F B (resOwn B O res j) (nthK rm j) (nth rs j) (vs.getD j undef)
  | [], [], rs, _, h => by
    simp only [resC, Option.some.injEq, Out.nrm.injEq] at h
    subst h
    exact ⟨[], by simp, rfl, rfl, fun j => .inl (by simp [nth])⟩
  | .tmp t :: l, .dat lv :: m, rs, hok, h => by
    simp only [okRes, Bool.and_eq_true] at hok
    simp only [resC, nthC_eq] at h
    rw [resC_nat] at h
    obtain ⟨o, h1, h2⟩ := Option.bind_eq_some_iff.1 h
    split at h2
    case h_2 => cases h2
    rename_i rs'
    simp only [Option.some.injEq, Out.nrm.injEq] at h2
    subst h2
    obtain ⟨vs, g1, g2, g3, g4⟩ := res_run hT hI l m rs' hok.2 h1
    refine ⟨a.tmps.getD t undef :: vs, by simp [List.mapM_cons, getRes, g1], by simp [g2], by simp [g3], fun j => ?_⟩
    cases j with
    | zero =>
      simp only [nthK, nth, List.getD_cons_zero]
      have hk := hok.1
      split at hk
      case h_2 => cases hk
      rename_i l' hkt
      exact (RepB_le (ble_iff.1 hk) (hI.dat hkt))
    | succ j =>
      refine ResOk_mono (fun _ g hg => ?_) (g4 j)
      obtain ⟨e1, t', e2, e3⟩ := hg
      exact ⟨e1, t', by simpa using e2, e3⟩
  | .tmp t :: l, .own z lv false :: m, rs, hok, h => by
    simp only [okRes, Bool.and_eq_true] at hok
    simp only [resC, nthC_eq] at h
    rw [resC_nat] at h
    obtain ⟨o, h1, h2⟩ := Option.bind_eq_some_iff.1 h
    split at h2
    case h_2 => cases h2
    rename_i rs'
    simp only [Option.some.injEq, Out.nrm.injEq] at h2
    subst h2
    obtain ⟨vs, g1, g2, g3, g4⟩ := res_run hT hI l m rs' hok.2 h1
    refine ⟨a.tmps.getD t undef :: vs, by simp [List.mapM_cons, getRes, g1], by simp [g2], by simp [g3], fun j => ?_⟩
    cases j with
    | zero =>
      simp only [nthK, nth, List.getD_cons_zero]
      have hk := hok.1.1
      split at hk
      case h_2 => cases hk
      rename_i z' l' hkt
      simp only [Bool.and_eq_true, beq_iff, ble_iff] at hk
      obtain ⟨rfl, hle⟩ := hk
      by_cases hb : nth δ t = .bad
      · exact .inl hb
      · exact .inr (OwnV_mono' (FB_le hle) (fun _ _ => rfl) (fun g _ hg => ⟨⟨⟨hg.2 rfl, t, rfl, hg.1⟩, hg.2 rfl⟩, rfl⟩) (hI.own hkt hb))
    | succ j =>
      refine ResOk_mono (fun _ g hg => ?_) (g4 j)
      obtain ⟨e1, t', e2, e3⟩ := hg
      exact ⟨e1, t', by simpa using e2, e3⟩
  | .cell s t :: l, .dat lv :: m, rs, hok, h => by
    simp only [okRes, Bool.and_eq_true] at hok
    simp only [resC] at h
    split at h
    case h_2 => cases h
    rename_i i hi
    simp only [nthC_eq] at h
    obtain ⟨y, hy, h⟩ := Option.bind_eq_some_iff.1 h
    rw [resC_nat] at h
    obtain ⟨o, h1, h2⟩ := Option.bind_eq_some_iff.1 h
    split at h2
    case h_2 => cases h2
    rename_i rs'
    simp only [Option.some.injEq, Out.nrm.injEq] at h2
    subst h2
    obtain ⟨vs, g1, g2, g3, g4⟩ := res_run hT hI l m rs' hok.2 h1
    have hk := hok.1.1
    split at hk
    case h_2 => cases hk
    rename_i n l' io hks
    rw [ble_iff] at hk
    have hb : nth δ s ≠ .bad := by
      intro e
      rw [e] at hy
      simp [fldD] at hy
    obtain ⟨mm, us, g, e, hd', a1, a2, a3, a4, a5, a6⟩ := hI.box hks hb
    rw [hd'] at hy
    simp only [fldD, List.drop_zero] at hy
    have hcell : CellsAt w g 0 us := cells_at a2 (fun i u hu => by simpa using hu)
    obtain ⟨v, hv, hr⟩ := load_run (P := P) (tok hT hi) a3 a4 hcell hy
    have hv' : (getRes a.tmps (.cell s t)).run P w = .ok v w := by
      have e1 : a.tmps.getD s undef = .pointer (some ⟨g, 0, none⟩) := a1
      simp only [getRes, e1]
      simpa [Instr.loadAt, Instr.sureAddr, asAddr] using hv
    refine ⟨v :: vs, by simp [List.mapM_cons, hv', g1], by simp [g2], by simp [g3], fun j => ?_⟩
    cases j with
    | zero =>
      simp only [nthK, nth, List.getD_cons_zero]
      exact .inr (RepV_mono (FB_le hk) (fun _ _ => rfl) hr)
    | succ j =>
      refine ResOk_mono (fun _ g hg => ?_) (g4 j)
      obtain ⟨e1, t', e2, e3⟩ := hg
      exact ⟨e1, t', by simpa using e2, e3⟩
  | [], _ :: _, _, hok, _ => by simp [okRes] at hok
  | .tmp _ :: _, [], _, hok, _ => by simp [okRes] at hok
  | .cell _ _ :: _, [], _, hok, _ => by simp [okRes] at hok
  | .tmp _ :: _, .own _ _ true :: _, _, hok, _ => by simp [okRes] at hok
  | .tmp _ :: _, .box _ _ _ :: _, _, hok, _ => by simp [okRes] at hok
  | .tmp _ :: _, .via _ :: _, _, hok, _ => by simp [okRes] at hok
  | .tmp _ :: _, .ref _ :: _, _, hok, _ => by simp [okRes] at hok
  | .tmp _ :: _, .tup _ :: _, _, hok, _ => by simp [okRes] at hok
  | .tmp _ :: _, .no :: _, _, hok, _ => by simp [okRes] at hok
  | .cell _ _ :: _, .own _ _ _ :: _, _, hok, _ => by simp [okRes] at hok
  | .cell _ _ :: _, .box _ _ _ :: _, _, hok, _ => by simp [okRes] at hok
  | .cell _ _ :: _, .via _ :: _, _, hok, _ => by simp [okRes] at hok
  | .cell _ _ :: _, .ref _ :: _, _, hok, _ => by simp [okRes] at hok
  | .cell _ _ :: _, .tup _ :: _, _, hok, _ => by simp [okRes] at hok
  | .cell _ _ :: _, .no :: _, _, hok, _ => by simp [okRes] at hok

/-! ### a whole function -/
def resIx : List ResultVar → Nat → Nat → Option Nat
  | [], _, _ => none
  | .tmp t :: l, s, j => if t = s then some j else resIx l s (j + 1)
  | .cell _ _ :: l, s, j => resIx l s (j + 1)

theorem tmpsOf_mem : ∀ {res : List ResultVar} {j t : Nat}, res[j]? = some (.tmp t) → t ∈ tmpsOf res
  | .tmp s :: l, 0, t, h => by simp at h; simp [tmpsOf, h]
  | .cell _ _ :: l, 0, t, h => by simp at h
  | .tmp s :: l, j + 1, t, h => by simp only [tmpsOf, List.mem_cons]; exact .inr (tmpsOf_mem (by simpa using h))
  | .cell _ _ :: l, j + 1, t, h => by simp only [tmpsOf]; exact tmpsOf_mem (by simpa using h)

theorem resIx_own : ∀ (res : List ResultVar) (rm : List Kd), okRes c res rm = true → ∀ (j t i : Nat) (z lv : Nat), nthK rm j = .own z lv false → res[j]? = some (.tmp t) → resIx res t i = some (i + j) ∧ ∃ z' l', nthK c.K t = .own z' l' false
  | [], [], _, j, t, i, z, lv, h, _ => by simp [nthK] at h
  | .tmp s :: l, .dat lv' :: m, hok, j, t, i, z, lv, h, hj => by
    simp only [okRes, Bool.and_eq_true] at hok
    cases j with
    | zero => simp [nthK] at h
    | succ j =>
      obtain ⟨h1, h2⟩ := resIx_own l m hok.2 j t (i + 1) z lv (by simpa [nthK] using h) (by simpa using hj)
      refine ⟨?_, h2⟩
      simp only [resIx]
      rw [if_neg, h1]
      · congr 1; omega
      · rintro rfl
        obtain ⟨z', l', hk⟩ := h2
        rw [hk] at hok
        cases hok.1
  | .tmp s :: l, .own z0 lv0 false :: m, hok, j, t, i, z, lv, h, hj => by
    simp only [okRes, Bool.and_eq_true] at hok
    cases j with
    | zero =>
      simp at hj
      subst hj
      refine ⟨by simp [resIx], ?_⟩
      have hk := hok.1.1
      split at hk
      · exact ⟨_, _, ‹_›⟩
      · cases hk
    | succ j =>
      obtain ⟨h1, h2⟩ := resIx_own l m hok.2 j t (i + 1) z lv (by simpa [nthK] using h) (by simpa using hj)
      refine ⟨?_, h2⟩
      simp only [resIx]
      rw [if_neg, h1]
      · congr 1; omega
      · rintro rfl
        have hm := hok.1.2
        rw [memN_eq] at hm
        simp only [Bool.not_eq_true', decide_eq_false_iff_not] at hm
        exact hm (tmpsOf_mem (by simpa using hj))
  | .cell s s' :: l, .dat lv' :: m, hok, j, t, i, z, lv, h, hj => by
    simp only [okRes, Bool.and_eq_true] at hok
    cases j with
    | zero => simp [nthK] at h
    | succ j =>
      obtain ⟨h1, h2⟩ := resIx_own l m hok.2 j t (i + 1) z lv (by simpa [nthK] using h) (by simpa using hj)
      refine ⟨?_, h2⟩
      simp only [resIx]
      rw [h1]
      congr 1; omega
  | [], _ :: _, hok, _, _, _, _, _, _, _ => by simp [okRes] at hok
  | .tmp _ :: _, [], hok, _, _, _, _, _, _, _ => by simp [okRes] at hok
  | .cell _ _ :: _, [], hok, _, _, _, _, _, _, _ => by simp [okRes] at hok
  | .tmp _ :: _, .own _ _ true :: _, hok, _, _, _, _, _, _, _ => by simp [okRes] at hok
  | .tmp _ :: _, .box _ _ _ :: _, hok, _, _, _, _, _, _, _ => by simp [okRes] at hok
  | .tmp _ :: _, .via _ :: _, hok, _, _, _, _, _, _, _ => by simp [okRes] at hok
  | .tmp _ :: _, .ref _ :: _, hok, _, _, _, _, _, _, _ => by simp [okRes] at hok
  | .tmp _ :: _, .tup _ :: _, hok, _, _, _, _, _, _, _ => by simp [okRes] at hok
  | .tmp _ :: _, .no :: _, hok, _, _, _, _, _, _, _ => by simp [okRes] at hok
  | .cell _ _ :: _, .own _ _ _ :: _, hok, _, _, _, _, _, _, _ => by simp [okRes] at hok
  | .cell _ _ :: _, .box _ _ _ :: _, hok, _, _, _, _, _, _, _ => by simp [okRes] at hok
  | .cell _ _ :: _, .via _ :: _, hok, _, _, _, _, _, _, _ => by simp [okRes] at hok
  | .cell _ _ :: _, .ref _ :: _, hok, _, _, _, _, _, _, _ => by simp [okRes] at hok
  | .cell _ _ :: _, .tup _ :: _, hok, _, _, _, _, _, _, _ => by simp [okRes] at hok
  | .cell _ _ :: _, .no :: _, hok, _, _, _, _, _, _, _ => by simp [okRes] at hok

theorem ArgsOk_at {w : World} {F : Nat → Prop} {ow : Nat → Option Nat} : ∀ (pm : List Kd) (ds : List D) (ys : List Value) (i : Nat), ArgsOk w F ow i pm ds ys → ds.length = pm.length ∧ ys.length = pm.length ∧ ∀ (j : Nat), j < pm.length → ArgOk w F (fun g => ow g = some (i + j)) (nthK pm j) (nth ds j) (ys.getD j undef)
  | [], [], [], _, _ => ⟨rfl, rfl, fun j h => by simp at h⟩
  | k :: pm, d :: ds, y :: ys, i, h => by
    obtain ⟨h1, h2⟩ := h
    obtain ⟨g1, g2, g3⟩ := ArgsOk_at pm ds ys (i + 1) h2
    refine ⟨by simp [g1], by simp [g2], fun j hj => ?_⟩
    cases j with
    | zero => exact h1
    | succ j =>
      have := g3 j (by simpa using hj)
      simp only [nthK, nth, List.getD_cons_succ]
      rw [show i + (j + 1) = i + 1 + j from by omega]
      exact this
  | [], [], _ :: _, _, h => h.elim
  | [], _ :: _, _, _, h => h.elim
  | _ :: _, [], _, _, h => h.elim
  | _ :: _, _ :: _, [], _, h => h.elim

theorem UsOk_of {w : World} {F : Nat → Prop} {δ : List D} : ∀ (pm : List Kd) (ys : List Value) (i : Nat), ys.length = pm.length → (∀ (j : Nat), j < pm.length → isIo (nthK pm j) = true → nth δ (i + j) ≠ .bad ∧ ArgOk w F (fun _ => True) (nthK pm j) (nth δ (i + j)) (ys.getD j undef)) → UsOk w F pm (getAll δ (ioIdx i pm)) ys
  | [], ys, i, _, _ => by simp [ioIdx, getAll, UsOk]
  | k :: pm, [], i, hl, _ => by simp at hl
  | k :: pm, y :: ys, i, hl, h => by
    have ih := UsOk_of pm ys (i + 1) (by simpa using hl) (fun j hj hio => by
      have := h (j + 1) (by simpa using hj) (by simpa [nthK] using hio)
      rw [show i + 1 + j = i + (j + 1) from by omega]
      simpa [nthK] using this)
    cases hk : isIo k with
    | true =>
      have h0 := h 0 (by simp) (by simpa [nthK] using hk)
      simp only [ioIdx, hk, if_true, getAll, UsOk]
      exact ⟨by simpa using h0.1, by simpa [nthK] using h0.2, ih⟩
    | false => simpa only [ioIdx, hk, Bool.false_eq_true, if_false, UsOk] using ih

theorem ioIdx_mem : ∀ (pm : List Kd) (i j : Nat), j < pm.length → isIo (nthK pm j) = true → i + j ∈ ioIdx i pm
  | k :: pm, i, 0, _, h => by
    simp only [nthK] at h
    simp [ioIdx, h]
  | k :: pm, i, j + 1, hj, h => by
    have ih := ioIdx_mem pm (i + 1) j (by simpa using hj) (by simpa [nthK] using h)
    rw [show i + (j + 1) = i + 1 + j from by omega]
    simp only [ioIdx]
    split
    · exact List.mem_cons_of_mem _ ih
    · exact ih

theorem padTo_nth : ∀ (n : Nat) (l : List D) (s : Nat), l.length ≤ n → nth (padTo n l) s = nth l s
  | 0, l, s, h => by
    have : l = [] := List.eq_nil_of_length_eq_zero (by omega)
    subst this
    simp [padTo]
  | n + 1, [], s, _ => by
    cases s with
    | zero => simp [nth]
    | succ s => simp only [nth]; rw [padTo_nth n [] s (by simp)]
  | n + 1, d :: l, s, h => by
    cases s with
    | zero => simp [nth]
    | succ s => simp only [nth]; exact padTo_nth n l s (by simpa using h)
theorem padTo_len : ∀ (n : Nat) (l : List D), (padTo n l).length = n
  | 0, _ => rfl
  | n + 1, [] => by simp [padTo, padTo_len n []]
  | n + 1, _ :: l => by simp [padTo, padTo_len n l]

/-- What is checked of a function. -/
def okFn (c : Cx) (fn : Func) (pm rm : List Kd) : Bool :=
  (match fn.body with
    | some b => okCode c 0 b
    | none => false) && Nat.beq (lenN c.K) fn.ntmps && prefK pm c.K && okPm pm && okRes c c.res rm && decide (c.ios = ioIdx 0 pm)

theorem okPm_at : ∀ {pm : List Kd}, okPm pm = true → ∀ j, j < pm.length → (∃ lv, nthK pm j = .dat lv ∧ lv ≠ 1) ∨ (∃ z lv, nthK pm j = .own z lv true ∧ lv ≠ 1) ∨ ∃ n lv, nthK pm j = .box n lv true ∧ lv ≠ 1
  | m :: pm, h, j, hj => by
    obtain ⟨h1, h2, h3⟩ := okPm_tail h
    cases j with
    | succ j => exact okPm_at h1 j (by simpa using hj)
    | zero =>
      simp only [nthK]
      cases m with
      | dat lv =>
        refine .inl ⟨lv, rfl, ?_⟩
        simp only [okPm] at h
        split at h
        case h_2 => cases h
        rename_i e1 e2
        intro e; subst e; simp at e1
      | own z lv io =>
        cases io
        · simp [okPm] at h
        · exact .inr (.inl ⟨z, lv, rfl, h2 z lv rfl⟩)
      | box n lv io =>
        cases io
        · simp [okPm] at h
        · exact .inr (.inr ⟨n, lv, rfl, h3 n lv rfl⟩)
      | _ => simp [okPm] at h

theorem fn_calls (hT : okT P c.T = true) (hS : ∀ f S, look c.S f = some S → Meets c.G P f S) (hm : P.follows .mixedOrders = true) {f : FuncId} {fn : Func} (hf : P.funcs[f]? = some fn) {pm rm : List Kd} (hok : okFn c fn pm rm = true) (hres : c.res = fn.results.toList)
    {ds rs us : List D} (hd : denF c fn ds = some (.ret rs us)) {args : Array Value} {w : World} {F : Nat → Prop} {ow : Nat → Option Nat} (hgl : gOk c.G w F) (ha : ArgsOk w F ow 0 pm ds args.toList) (hF : ∀ b, F b → b < w.heap.size ∧ ow b = none) (hO : ∀ b i, ow b = some i → b < w.heap.size) :
    Calls P f args w fun e w' => ∃ v, e = .returned v ∧ ∃ F' R vs, v = resV vs ∧ CallPost { pm := pm, rm := rm, f := denF c fn } args rs us w F ow F' R vs w' := by
  unfold okFn at hok
  simp only [Bool.and_eq_true, decide_eq_true_eq] at hok
  obtain ⟨⟨⟨⟨⟨hcode, hlenK⟩, hpre⟩, hpm⟩, hokr⟩, hios⟩ := hok
  rw [beq_iff, lenN_eq] at hlenK
  obtain ⟨hpl, hpn⟩ := prefK_nth hpre
  obtain ⟨hdl, hal, hargs⟩ := ArgsOk_at pm ds args.toList 0 ha
  have hasz : args.size = pm.length := by simpa using hal
  unfold denF at hd
  cases hb : fn.body with
  | none => rw [hb] at hd; cases hd
  | some b =>
    rw [hb] at hd hcode
    simp only at hd hcode
    refine calls_of_wp hf hb ?_
    have hav : ∀ s, s < pm.length → av ({ tmps := args ++ Array.replicate (fn.ntmps - args.size) undef, defers := [] } : Act) s = args.toList.getD s undef := fun s hs => by
      have h1 : s < args.size := by omega
      simp only [av, Array.getD_eq_getD_getElem?, List.getD_eq_getElem?_getD, Array.getElem?_toList]
      rw [Array.getElem?_append_left h1]
    have hinit : Inv c w.heap.size (fun b => ow b ≠ none) w F F (fun b => (ow b).map fun i => (i, 0)) { tmps := args ++ Array.replicate (fn.ntmps - args.size) undef, defers := [] } w (padTo fn.ntmps ds) := by
      refine ⟨by simp; omega, by rw [padTo_len, hlenK], rfl, fun s => ?_, fun b hb => ⟨(hF b hb).1, by simp [(hF b hb).2]⟩, fun b p hp => ?_, fun _ h => h, fun _ h => .inl h, Nat.le_refl _, rfl, rfl, rfl, fun _ _ _ => rfl, hgl⟩
      · unfold SlotOk
        rw [padTo_nth _ _ _ (by rw [hdl]; omega)]
        by_cases hs : s < pm.length
        · rw [hpn s hs, hav s hs]
          rcases hargs s hs with hbad | harg
          · exact .inl hbad
          refine .inr ?_
          have hlv : ∀ lv, lv ≠ 1 → ∀ b, FB F 0 lv b → FB F w.heap.size lv b := fun lv h1 b hb => by
            match lv, h1 with
            | 0, _ => exact hb
            | _ + 2, _ => exact hb
          rcases okPm_at hpm s hs with ⟨lv, hk, h1⟩ | ⟨z, lv, hk, h1⟩ | ⟨n, lv, hk, h1⟩
          · rw [hk] at harg ⊢
            exact .inr (RepV_mono (hlv lv h1) (fun _ _ => rfl) harg)
          · rw [hk] at harg ⊢
            exact .inr (OwnV_mono' (hlv lv h1) (fun _ _ => rfl) (fun g _ hg => ⟨⟨by simp only [Nat.zero_add] at hg; simp [hg], fun h => by cases h⟩, rfl⟩) harg)
          · rw [hk] at harg ⊢
            exact .inr (BoxV_mono' (hlv lv h1) (fun _ _ => rfl) (fun g _ hg => ⟨⟨by simp only [Nat.zero_add] at hg; simp [hg], fun h => by cases h⟩, rfl⟩) harg)
        · refine .inl ?_
          rw [nth_eq, List.getD_eq_getElem?_getD, List.getElem?_eq_none (by omega)]
          rfl
      · obtain ⟨i, hi, rfl⟩ := Option.map_eq_some_iff.1 hp
        exact ⟨hO b i hi, .inr (by rw [hi]; simp)⟩
    refine den_sound hT hS hm b 0 hcode F _ _ w _ hinit (V := av { tmps := args ++ Array.replicate (fn.ntmps - args.size) undef, defers := [] }) (fun _ _ => rfl) _ _ hd _ (fun e a' w' hp => ?_)
    have fin : NextV c w.heap.size (fun b => ow b ≠ none) w F (av { tmps := args ++ Array.replicate (fn.ntmps - args.size) undef, defers := [] }) (fun δ => retK c δ some) (.ret rs us) a' w' → a'.defers = [] ∧ ∃ v, (results fn a'.tmps).run P w' = .ok v w' ∧ ∃ v', Ending.returned v = .returned v' ∧ ∃ F' R vs, v' = resV vs ∧ CallPost { pm := pm, rm := rm, f := denF c fn } args rs us w F ow F' R vs w' := by
      rintro ⟨⟨F', O', δ', hI', hk⟩, hV'⟩
      obtain ⟨rs', h1, h2, h3⟩ := retK_is hk
      simp only [Option.some.injEq, Out.ret.injEq] at h3
      obtain ⟨rfl, rfl⟩ := h3
      obtain ⟨vs, g1, g2, g3, g4⟩ := res_run (P := P) hT hI' c.res rm rs' hokr h1
      refine ⟨hI'.df, resV vs, ?_, _, rfl, F', fun b => if w.heap.size ≤ b then (match O' b with
        | some (t, 0) => resIx c.res t 0
        | _ => none) else none, vs, rfl, ?_⟩
      · have hrun : (fn.results.mapM (getRes a'.tmps)).run P w' = .ok vs.toArray w' := by
          rw [Array.mapM_eq_mapM_toList, ← hres]
          simp [g1]
        have hrw : results fn a'.tmps = (do
            let vs ← fn.results.mapM (getRes a'.tmps)
            pure (if h : vs.size = 1 then vs[0] else .tuple vs)) := by
          unfold results
          congr 1
        rw [hrw]
        simp only [Sem.run_bind, hrun, Result.andThen_ok, Sem.run_pure]
        congr 1
        rcases vs with _ | ⟨y, _ | ⟨y', vs⟩⟩
        · simp [resV]
        · simp [resV]
        · simp [resV]
      · refine ⟨hI'.os, hI'.tape, hI'.output, hI'.bb, fun b hb ho => hI'.keep b hb (by simp [ho]), hI'.f0, fun b hb => ⟨hI'.fn b hb, (hI'.fl b hb).1, by simp only [(hI'.fl b hb).2]; split <;> rfl⟩, fun b j hj => ?_, g2, g3, fun j => ?_, ?_⟩
        · split at hj
          case isFalse => cases hj
          rename_i hB
          refine ⟨hB, ?_⟩
          split at hj
          · rename_i t he; exact (hI'.ol b _ he).1
          · cases hj
        · refine ResOk_mono (fun hk g hg => ?_) (g4 j)
          obtain ⟨z, lv, hk⟩ := hk
          obtain ⟨e1, t, e2, e3⟩ := hg
          rw [if_pos e1]
          simp only [e3]
          have := (resIx_own c.res rm hokr j t 0 z lv hk e2).1
          simpa using this
        · rw [hios]
          refine UsOk_of pm args.toList 0 hal (fun j hj hio => ?_)
          rw [Nat.zero_add]
          have hkj := hpn j hj
          have hbj : nth δ' j ≠ .bad := by
            refine h2 _ ?_
            rw [hios, getAll_map]
            exact List.mem_map_of_mem (by simpa using ioIdx_mem pm 0 j hj hio)
          have havj : av a' j = args.toList.getD j undef := (hV' j (by rw [hkj]; exact hio)).trans (hav j hj)
          have hlv : ∀ lv, lv ≠ 1 → ∀ b, FB F' w.heap.size lv b → FB F' 0 lv b := fun lv h1 b hb => by
            match lv, h1 with
            | 0, _ => exact hb
            | _ + 2, _ => exact hb
          refine ⟨hbj, .inr ?_⟩
          rcases okPm_at hpm j hj with ⟨lv, hk, h1⟩ | ⟨z, lv, hk, h1⟩ | ⟨n, lv, hk, h1⟩
          · rw [hk] at hio; cases hio
          · have h5 := hI'.own (hkj.trans hk) hbj
            rw [havj] at h5
            rw [hk]
            exact OwnV_mono' (hlv lv h1) (fun _ _ => rfl) (fun _ _ _ => ⟨trivial, rfl⟩) h5
          · have h5 := hI'.box (hkj.trans hk) hbj
            rw [havj] at h5
            rw [hk]
            exact BoxV_mono' (hlv lv h1) (fun _ _ => rfl) (fun _ _ _ => ⟨trivial, rfl⟩) h5
    cases e with
    | normal => exact fin hp
    | exit i =>
      obtain ⟨⟨_, _, _, _, h⟩, _⟩ := hp
      cases h
    | ret =>
      refine fin (NextV_mono hp fun δ F O _ h => ?_)
      obtain ⟨rs', h1, h2, h3⟩ := retK_is h
      exact retK_of h1 h2 h3
    | _ => exact hp.elim

theorem meets_of (hT : okT P c.T = true) (hS : ∀ f S, look c.S f = some S → Meets c.G P f S) (hm : P.follows .mixedOrders = true) {f : FuncId} {fn : Func} (hf : P.funcs[f]? = some fn) (hname : (fn.name == "runtime.NumGoroutine") = false) {pm rm : List Kd} (hok : okFn c fn pm rm = true) (hres : c.res = fn.results.toList) :
    Meets c.G P f { pm := pm, rm := rm, f := denF c fn } := by
  intro ds rs us hd args w F ow hgl ha hF hO o a next Q hn
  have hbody : ∃ b, fn.body = some b := by
    have hd' : denF c fn ds = some (.ret rs us) := hd
    unfold denF at hd'
    cases hb : fn.body with
    | none => rw [hb] at hd'; cases hd'
    | some b => exact ⟨b, rfl⟩
  obtain ⟨b, hb⟩ := hbody
  have hrun : (callFunc f args).run P w = .ok (.enter f args) w := by
    have h1 : ¬ fn.name = "runtime.NumGoroutine" := by simpa using hname
    simp [callFunc, hf, h1, hb]
  rw [hrun, Oper.upon_enter]
  refine Calls.mono (fn_calls hT hS hm hf hok hres hd hgl ha hF hO) (fun e w' he => ?_)
  obtain ⟨v, rfl, F', R, vs, h1, h2⟩ := he
  exact hn v w' ⟨F', R, vs, h1, h2⟩

end
end Go.V
/-
  Contracts looked up.
-/
namespace Go.V

/-- A slot of a list (not unfolded). -/
def sl (s : List D) (i : Nat) : D := nth s i

/-- A choice (not unfolded). -/
def ifN (b : Bool) (t e : Option Out) : Option Out :=
  match b with
  | true => t
  | false => e

theorem lookNil {P : Program} {G : List (Nat × (Obj → Prop))} : ∀ (f : Nat) (S : FS), look ([] : List (Nat × FS)) f = some S → Meets G P f S := by
  intro f S h
  cases h
theorem lookCons {P : Program} {G : List (Nat × (Obj → Prop))} {g : Nat} {S0 : FS} {l : List (Nat × FS)} (h0 : Meets G P g S0) (h : ∀ (f : Nat) (S : FS), look l f = some S → Meets G P f S) : ∀ (f : Nat) (S : FS), look ((g, S0) :: l) f = some S → Meets G P f S := by
  intro f S hl
  simp only [look] at hl
  split at hl
  · rename_i hb
    have := beq_iff.1 hb
    subst this
    cases hl
    exact h0
  · exact h f S hl

/-- More facts of the world. -/
theorem meets_mono {P : Program} {G G' : List (Nat × (Obj → Prop))} {f : Nat} {S : FS} (h : ∀ p ∈ G, p ∈ G') (hm : Meets G P f S) : Meets G' P f S :=
  fun ds rs us hd args w F ow hg => hm ds rs us hd args w F ow fun p hp => hg p (h p hp)

/-! ### functions that call themselves -/
open Classical in
noncomputable def recF (R : Nat → List D → Option Out) (ds : List D) : Option Out :=
  if h : ∃ n, (R n ds).isSome = true then R (Classical.choose h) ds else none
theorem recF_some {R : Nat → List D → Option Out} {ds : List D} {r : Out} (h : recF R ds = some r) : ∃ n, R n ds = some r := by
  unfold recF at h
  split at h
  · exact ⟨_, h⟩
  · cases h
theorem recF_eq {R : Nat → List D → Option Out} {ds : List D} {r : Out} (h : ∀ n o, R n ds = some o → o = r) (n : Nat) (hn : R n ds = some r) : recF R ds = some r := by
  unfold recF
  have hx : ∃ n, (R n ds).isSome = true := ⟨n, by rw [hn]; rfl⟩
  rw [dif_pos hx]
  obtain ⟨o, ho⟩ := Option.isSome_iff_exists.1 (Classical.choose_spec hx)
  rw [ho, h _ _ ho]
theorem meets_none {P : Program} {G : List (Nat × (Obj → Prop))} {f : Nat} {S : FS} (h : ∀ ds, S.f ds = none) : Meets G P f S := by
  intro ds rs us hd
  rw [h] at hd
  cases hd
theorem meets_rec {P : Program} {G : List (Nat × (Obj → Prop))} {f : Nat} {pm rm : List Kd} {R : Nat → List D → Option Out} (h : ∀ n, Meets G P f { pm := pm, rm := rm, f := R n }) : Meets G P f { pm := pm, rm := rm, f := recF R } := by
  intro ds rs us hd args w F ow hg ha hF hO o a next Q hq
  obtain ⟨n, hn⟩ := recF_some hd
  refine h n ds rs us hn args w F ow hg ha hF hO o a next Q fun v w' hv => ?_
  obtain ⟨F', R', vs, h1, h2⟩ := hv
  exact hq v w' ⟨F', R', vs, h1, ⟨h2.os, h2.tape, h2.output, h2.size, h2.keep, h2.f0, h2.fn, h2.rn, h2.len, h2.lenD, h2.res, h2.us⟩⟩

end Go.V
/-
  The evaluator with recasts: from some place of a function on, slots that own a slice hold plain data (what is handed back, and read beside).
-/
namespace Go.V
open Go.RowKit
set_option linter.unusedSimpArgs false

@[reducible] def frz1 (K : List Kd) (fz : List Nat) (s : Nat) (k : Kd) : Kd :=
  match k with
  | .own z lv false => match memN s fz with
    | true => .dat (maxN 1 lv)
    | false => .own z lv false
  | .via r => match memN r fz with
    | true => .dat (maxN 1 (rootLv K r))
    | false => .via r
  | .ref r => match memN r fz with
    | true => .dat (maxN 1 (rootLv K r))
    | false => .ref r
  | k => k
@[reducible] def frzL (K : List Kd) (fz : List Nat) : List Kd → Nat → List Kd
  | [], _ => []
  | k :: l, s => frz1 K fz s k :: frzL K fz l (Nat.succ s)
@[reducible] def rcx (c : Cx) (fz : List Nat) : Cx := { c with K := frzL c.K fz c.K 0 }
@[reducible] def retO (k : Out → Option Out) (o : Out) : Option Out :=
  match o with
  | .nrm _ => none
  | .ext _ _ => none
  | .ret a b => k (.ret a b)
/-- What a copy of a slot holds, once that slot's slice is plain data. -/
def viaD (p x : D) : D :=
  match p with
  | .bad => .bad
  | _ => x
@[reducible] def viaC (K : List Kd) (δ : List D) : List Nat → (List D → Option Out) → Option Out
  | [], k => k []
  | s :: ss, k => match nthK K s with
    | .via r => nthC δ s fun p => nthC δ r fun x => viaC K δ ss fun l => k (viaD p x :: l)
    | _ => viaC K δ ss fun l => k (.bad :: l)
@[reducible] noncomputable def denR (c : Cx) (R : List (Nat × List Nat)) : Nat → Nat → Code → List D → (Out → Option Out) → Option Out
  | p, bid, .seq a b, δ, k => denR c R (Nat.mul 2 p) bid a δ fun o => seqK o (fun δ' => match look R p with
      | some fz => viaC c.K δ' (depsAll c.K fz) fun l => setManyC δ' (depsAll c.K fz) l fun δ'' => den (rcx c fz) bid b δ'' (retO k)
      | none => denR c R (Nat.add (Nat.mul 2 p) 1) bid b δ' k) k
  | p, bid, .cond x t e, δ, k => opC δ x fun q => ifD q (denR c R (Nat.mul 2 p) bid t δ k) (denR c R (Nat.add (Nat.mul 2 p) 1) bid e δ k)
  | p, _, .block id b, δ, k => denR c R (Nat.mul 2 p) id b δ fun o => blkK id o k
  | _, bid, x, δ, k => den c bid x δ k
@[reducible] noncomputable def denFR (c : Cx) (R : List (Nat × List Nat)) (fn : Func) (ds : List D) : Option Out :=
  match fn.body with
  | none => none
  | some b => denR c R 1 0 b (padTo fn.ntmps ds) fun o => match o with
    | .nrm δ => resC c δ c.res fun rs => getC δ c.ios fun us => usK us (some (.ret rs us))
    | .ext _ _ => none
    | .ret rs us => some (.ret rs us)
def resSl : List ResultVar → List Nat
  | [] => []
  | .tmp t :: l => t :: resSl l
  | .cell a _ :: l => a :: resSl l
def chgS (c : Cx) (fz : List Nat) : List Nat := fz ++ depsAll c.K fz
def okFz (c : Cx) (fz : List Nat) : Bool :=
  (fz.all fun s => match nthK c.K s with
    | .own _ _ false => true
    | _ => false) && ((resSl c.res).all fun s => !memN s (chgS c fz)) && (c.ios.all fun s => !memN s (chgS c fz))
def okCodeR (c : Cx) (R : List (Nat × List Nat)) : Nat → Nat → Code → Bool
  | p, bid, .seq a b => okCodeR c R (Nat.mul 2 p) bid a && (match look R p with
      | some fz => okFz c fz && okCode (rcx c fz) bid b
      | none => okCodeR c R (Nat.add (Nat.mul 2 p) 1) bid b)
  | p, bid, .cond x t e => Nat.ble (lvOf c.K x) 2 && okCodeR c R (Nat.mul 2 p) bid t && okCodeR c R (Nat.add (Nat.mul 2 p) 1) bid e
  | p, _, .block id b => okCodeR c R (Nat.mul 2 p) id b
  | _, bid, x => okCode c bid x
def okFnR (c : Cx) (R : List (Nat × List Nat)) (fn : Func) (pm rm : List Kd) : Bool :=
  (match fn.body with
    | some b => okCodeR c R 1 0 b
    | none => false) && Nat.beq (lenN c.K) fn.ntmps && prefK pm c.K && okPm pm && okRes c c.res rm && decide (c.ios = ioIdx 0 pm)

section
variable {P : Program} {c : Cx} {B : Nat} {X : Nat → Prop} {w0 : World} {F0 F : Nat → Prop} {O : Nat → Option (Nat × Nat)} {a : Act} {w : World} {δ : List D} {fz : List Nat}

theorem len_frzL (K : List Kd) (fz : List Nat) : ∀ (l : List Kd) (s : Nat), (frzL K fz l s).length = l.length
  | [], _ => rfl
  | _ :: l, s => by simp [frzL, len_frzL K fz l]
theorem nthK_frzL (K : List Kd) (fz : List Nat) : ∀ (l : List Kd) (s i : Nat), nthK (frzL K fz l s) i = frz1 K fz (s + i) (nthK l i)
  | [], s, i => by simp [frzL, nthK, frz1]
  | k :: l, s, 0 => by simp [frzL, nthK]
  | k :: l, s, i + 1 => by
    simp only [frzL, nthK]
    rw [nthK_frzL K fz l (Nat.succ s) i, show Nat.succ s + i = s + (i + 1) by omega]
theorem nthK_rcx (c : Cx) (fz : List Nat) (s : Nat) : nthK (rcx c fz).K s = frz1 c.K fz s (nthK c.K s) := by
  show nthK (frzL c.K fz c.K 0) s = _
  rw [nthK_frzL, Nat.zero_add]
theorem okFz_own (h : okFz c fz = true) {s : Nat} (hs : s ∈ fz) : ∃ z lv, nthK c.K s = .own z lv false := by
  unfold okFz at h
  simp only [Bool.and_eq_true, List.all_eq_true] at h
  have := h.1.1 s hs
  split at this
  · exact ⟨_, _, ‹_›⟩
  · cases this
theorem memN_t {s : Nat} {l : List Nat} (h : s ∈ l) : memN s l = true := by rw [memN_eq]; exact decide_eq_true h
theorem memN_f {s : Nat} {l : List Nat} (h : s ∉ l) : memN s l = false := by rw [memN_eq]; exact decide_eq_false h
theorem frz_root {r : Nat} (hr : r ∉ fz) (h : isRoot c.K r) : nthK (rcx c fz).K r = nthK c.K r := by
  rw [nthK_rcx]
  unfold isRoot at h
  generalize nthK c.K r = k at h
  cases k
  case own z lv io => cases io <;> simp [frz1, memN_f hr]
  case box n lv io => rfl
  all_goals exact h.elim
theorem frz_back {r : Nat} (h : isRoot (rcx c fz).K r) : isRoot c.K r ∧ nthK (rcx c fz).K r = nthK c.K r := by
  unfold isRoot at h ⊢
  rw [nthK_rcx] at h ⊢
  generalize nthK c.K r = k at h
  cases k
  case own z lv io =>
    refine ⟨trivial, ?_⟩
    cases io
    case true => rfl
    by_cases hr : r ∈ fz
    · simp [frz1, memN_t hr] at h
    · simp [frz1, memN_f hr]
  case box n lv io => exact ⟨trivial, rfl⟩
  case via r' => by_cases hr : r' ∈ fz <;> simp [frz1, memN_t, memN_f, hr] at h
  case ref r' => by_cases hr : r' ∈ fz <;> simp [frz1, memN_t, memN_f, hr] at h
  all_goals exact h.elim
theorem frz_io (s : Nat) : isIo (nthK (rcx c fz).K s) = isIo (nthK c.K s) := by
  rw [nthK_rcx]
  generalize nthK c.K s = k
  cases k
  case own z lv io =>
    cases io
    case true => rfl
    by_cases hr : s ∈ fz
    · simp [frz1, memN_t hr, isIo]
    · simp [frz1, memN_f hr]
  case via r' => by_cases hr : r' ∈ fz <;> simp [frz1, memN_t, memN_f, hr, isIo]
  case ref r' => by_cases hr : r' ∈ fz <;> simp [frz1, memN_t, memN_f, hr, isIo]
  all_goals rfl
theorem isOwn_of {K K' : List Kd} {r : Nat} (h : nthK K' r = nthK K r) : isOwn K' r = isOwn K r := by unfold isOwn; rw [h]
theorem FB_one {F' : Nat → Prop} {b lv : Nat} (h1 : F' b) (h2 : B ≤ b) : FB F' B (maxN 1 lv) b := by
  rw [maxN_eq]
  match lv with
  | 0 => exact ⟨h1, h2⟩
  | 1 => exact ⟨h1, h2⟩
  | n + 2 =>
    rw [Nat.max_eq_right (by omega)]
    exact h1

def viaF (K : List Kd) (δ : List D) (s : Nat) : D :=
  match nthK K s with
  | .via r => viaD (nth δ s) (nth δ r)
  | _ => .bad
theorem viaC_eq (K : List Kd) (δ : List D) : ∀ (ss : List Nat) (k : List D → Option Out), viaC K δ ss k = k (ss.map (viaF K δ))
  | [], _ => rfl
  | s :: ss, k => by
    simp only [viaC, List.map_cons, viaF]
    split
    · simp only [nthC_eq]
      exact viaC_eq K δ ss _
    · exact viaC_eq K δ ss _
theorem nth_setMany_map (f : Nat → D) : ∀ (ss : List Nat) (δ : List D) (s : Nat), s ∈ ss → nth (setMany δ ss (ss.map f)) s = if s < δ.length then f s else .bad
  | i :: ss, δ, s, h => by
    simp only [List.map_cons, setMany]
    by_cases hs : s ∈ ss
    · rw [nth_setMany_map f ss _ s hs, len_setAt]
    · rw [nth_setMany_notin _ _ _ _ hs]
      have : s = i := by simpa [hs] using h
      subst this
      exact nth_setAt_eq _ _ _

open Classical in
/-- What some slots own is from now on plain data. -/
theorem Inv.recast (h : Inv c B X w0 F0 F O a w δ) (hfz : okFz c fz = true) : ∃ F' O', Inv (rcx c fz) B X w0 F0 F' O' a w (setMany δ (depsAll c.K fz) ((depsAll c.K fz).map (viaF c.K δ))) := by
  let G : Nat → Prop := fun b => ∃ s ∈ fz, O b = some (s, 0) ∧ B ≤ b
  have hF : ∀ b, F b → F b ∨ G b := fun b hb => .inl hb
  have hG : ∀ (b s i : Nat), O b = some (s, i) → (i = 0 → s ∉ fz) → ¬ G b := by
    rintro b s i h1 h2 ⟨s', h3, h4, _⟩
    rw [h1] at h4
    cases h4
    exact h2 rfl h3
  refine ⟨fun b => F b ∨ G b, fun b => if G b then none else O b, ?_⟩
  have hO : ∀ (b s i : Nat), (i = 0 → s ∉ fz) → O b = some (s, i) → (if G b then none else O b) = some (s, i) := fun b s i h2 h1 => by rw [if_neg (hG b s i h1 h2), h1]
  have own : ∀ r ∈ fz, nth δ r ≠ .bad → RepV w (FB (fun b => F b ∨ G b) B (maxN 1 (rootLv c.K r))) (nth δ r) (av a r) := by
    intro r hr hb
    obtain ⟨z, lv, hk⟩ := okFz_own hfz hr
    have h0 := (h.slot r).resolve_left hb
    rw [hk] at h0
    have h1 := h0.resolve_left hb
    simp only [rootLv, hk]
    refine RepV_mono (fun b hb => ?_) (fun _ _ => rfl) (OwnV_rep h1)
    rcases hb with hb | hb
    · exact FB_le (by rw [maxN_eq]; exact Nat.le_max_right _ _) b (FB_mono hF b hb)
    · exact FB_one (.inr ⟨r, hr, hb.1, hb.2 rfl⟩) (hb.2 rfl)
  refine ⟨h.la.trans (len_frzL _ _ _ _).symm, (len_setMany _ _ _).trans (h.ld.trans (len_frzL _ _ _ _).symm), h.df, fun s => ?_, fun b hb => ?_, fun b p hp => ?_, fun b hb => .inl (h.f0 b hb), fun b hb => ?_, h.bb, h.os, h.tape, h.output, h.keep, gOk_mono (fun b hb => .inl hb) (fun _ _ => rfl) h.gl⟩
  · by_cases hd : s ∈ depsAll c.K fz
    · by_cases hlt : s < δ.length
      case neg =>
        refine .inl ?_
        rw [nth_setMany_map _ _ _ _ hd, if_neg hlt]
      have e : nth (setMany δ (depsAll c.K fz) ((depsAll c.K fz).map (viaF c.K δ))) s = viaF c.K δ s := by rw [nth_setMany_map _ _ _ _ hd, if_pos hlt]
      obtain ⟨r, hr, hk⟩ := depsAll_kind _ hd
      rcases hk with hk | hk
      case inr => exact .inl (e.trans (by simp only [viaF, hk]))
      have e2 : viaF c.K δ s = viaD (nth δ s) (nth δ r) := by simp only [viaF, hk]
      by_cases hb : nth δ s = .bad
      · refine .inl (e.trans (e2.trans ?_))
        rw [hb]
        rfl
      have e3 : viaD (nth δ s) (nth δ r) = nth δ r := by
        generalize nth δ s = q at hb
        cases q <;> first | rfl | exact absurd rfl hb
      have h0 := (h.slot s).resolve_left hb
      rw [hk] at h0
      obtain ⟨b1, b2, b3, b4⟩ := h0
      refine .inr ?_
      rw [nthK_rcx, hk, e, e2, e3]
      simp only [frz1, memN_t hr]
      exact .inr (by rw [b1]; exact own r hr b3)
    have e : nth (setMany δ (depsAll c.K fz) ((depsAll c.K fz).map (viaF c.K δ))) s = nth δ s := nth_setMany_notin _ _ _ _ hd
    by_cases hb : nth δ s = .bad
    · exact .inl (e.trans hb)
    have h0 := (h.slot s).resolve_left hb
    refine .inr ?_
    have hkeep : ∀ r, isRoot c.K r → nth (setMany δ (depsAll c.K fz) ((depsAll c.K fz).map (viaF c.K δ))) r = nth δ r := fun r hr => nth_setMany_notin _ _ _ _ (root_notinAll hr _)
    rw [nthK_rcx, e]
    generalize hk : nthK c.K s = k at h0
    cases k
    case dat lv => exact h0.imp id (RepV_mono (FB_mono hF) (fun _ _ => rfl))
    case own z lv io =>
      have h1 := h0.resolve_left hb
      by_cases hs : s ∈ fz
      · obtain ⟨z', lv', hk'⟩ := okFz_own hfz hs
        rw [hk] at hk'
        cases hk'
        simp only [frz1, memN_t hs]
        have ho := own s hs hb
        simp only [rootLv, hk] at ho
        exact .inr ho
      · have e2 : frz1 c.K fz s (.own z lv io) = .own z lv io := by cases io <;> simp [frz1, memN_f hs]
        rw [e2]
        exact .inr (OwnV_mono (FB_mono hF) (fun _ _ => rfl) (fun g hg => ⟨⟨hO g s 0 (fun _ => hs) hg.1, hg.2⟩, rfl⟩) h1)
    case box n lv io =>
      have h1 := h0.resolve_left hb
      have hs : s ∉ fz := fun hs => by
        obtain ⟨z', lv', hk'⟩ := okFz_own hfz hs
        rw [hk] at hk'
        cases hk'
      exact .inr (BoxV_mono (FB_mono hF) (fun _ _ => rfl) (fun g hg => ⟨⟨hO g s 0 (fun _ => hs) hg.1, hg.2⟩, rfl⟩) h1)
    case via r =>
      have hr : r ∉ fz := fun hr => hd (mem_depsAll (.inl hk) _ hr)
      obtain ⟨b1, b2, b3, b4⟩ := h0
      simp only [frz1, memN_f hr]
      exact ⟨b1, b2, by rw [hkeep r (isOwn_root b4)]; exact b3, by rw [isOwn_of (frz_root hr (isOwn_root b4))]; exact b4⟩
    case ref r =>
      have hr : r ∉ fz := fun hr => hd (mem_depsAll (.inr hk) _ hr)
      obtain ⟨i, f, b1, b2, b3⟩ := h0
      simp only [frz1, memN_f hr]
      exact ⟨i, f, b1, by rw [hkeep r (RefV_root b3)]; exact b2, by rw [frz_root hr (RefV_root b3)]; exact b3⟩
    case tup ms =>
      obtain ⟨l, vs, b1, b2, b3⟩ := h0
      exact ⟨l, vs, b1, b2, fun i => Lone_mono hF (fun _ _ => rfl) (fun g hg => ⟨hO g s (i + 1) (fun h => by omega) hg, rfl⟩) (b3 i)⟩
    case no => trivial
  · rcases hb with hb | hb
    · obtain ⟨h1, h2⟩ := h.fl b hb
      refine ⟨h1, ?_⟩
      simp only [h2]
      split <;> rfl
    · obtain ⟨s, h1, h2, h3⟩ := hb
      exact ⟨(h.ol b _ h2).1, if_pos ⟨s, h1, h2, h3⟩⟩
  · split at hp
    · cases hp
    · exact h.ol b p hp
  · rcases hb with hb | ⟨s, h1, h2, h3⟩
    · exact h.fn b hb
    · exact .inr h3
/-- Back to the function's own kinds: what was recast is void. -/
theorem Inv.uncast (h : Inv (rcx c fz) B X w0 F0 F O a w δ) : Inv c B X w0 F0 F O a w (setMany δ (chgS c fz) []) := by
  refine ⟨h.la.trans (len_frzL _ _ _ _), (len_setMany _ _ _).trans (h.ld.trans (len_frzL _ _ _ _)), h.df, fun s => ?_, h.fl, h.ol, h.f0, h.fn, h.bb, h.os, h.tape, h.output, h.keep, h.gl⟩
  by_cases hd : s ∈ chgS c fz
  · exact .inl (nth_kill _ _ _ hd)
  have e : nth (setMany δ (chgS c fz) []) s = nth δ s := nth_setMany_notin _ _ _ _ hd
  by_cases hb : nth δ s = .bad
  · exact .inl (e.trans hb)
  have h0 := (h.slot s).resolve_left hb
  refine .inr ?_
  have hs : s ∉ fz := fun hs => hd (List.mem_append_left _ hs)
  have hdp : s ∉ depsAll c.K fz := fun hs => hd (List.mem_append_right _ hs)
  have hkeep : ∀ r, r ∉ fz → isRoot c.K r → nth (setMany δ (chgS c fz) []) r = nth δ r := fun r h1 h2 => nth_setMany_notin _ _ _ _ fun hm => by
    rcases List.mem_append.1 hm with hm | hm
    · exact h1 hm
    · exact root_notinAll h2 _ hm
  rw [nthK_rcx] at h0
  rw [e]
  generalize hk : nthK c.K s = k at h0
  cases k
  case own z lv io =>
    have e2 : frz1 c.K fz s (.own z lv io) = .own z lv io := by cases io <;> simp [frz1, memN_f hs]
    rw [e2] at h0
    exact h0
  case via r =>
    have hr : r ∉ fz := fun hr => hdp (mem_depsAll (.inl hk) _ hr)
    simp only [frz1, memN_f hr] at h0
    obtain ⟨b1, b2, b3, b4⟩ := h0
    obtain ⟨g1, g2⟩ := frz_back (isOwn_root b4)
    exact ⟨b1, b2, by rw [hkeep r hr g1]; exact b3, by rw [← isOwn_of g2]; exact b4⟩
  case ref r =>
    have hr : r ∉ fz := fun hr => hdp (mem_depsAll (.inr hk) _ hr)
    simp only [frz1, memN_f hr] at h0
    obtain ⟨i, f, b1, b2, b3⟩ := h0
    obtain ⟨g1, g2⟩ := frz_back (RefV_root b3)
    exact ⟨i, f, b1, by rw [hkeep r hr g1]; exact b2, by rw [← g2]; exact b3⟩
  all_goals exact h0

theorem resC_recast : ∀ (l : List ResultVar) (δ δ' : List D) (k : List D → Option Out), (∀ t ∈ resSl l, nth δ t = nth δ' t) → resC (rcx c fz) δ l k = resC c δ' l k
  | [], _, _, _, _ => rfl
  | .tmp t :: l, δ, δ', k, h => by
    simp only [resC, nthC_eq]
    rw [h t (by simp [resSl])]
    exact resC_recast l δ δ' _ fun t ht => h t (by simp [resSl, ht])
  | .cell b t :: l, δ, δ', k, h => by
    simp only [resC, nthC_eq]
    rw [h b (by simp [resSl])]
    cases look c.T t with
    | none => rfl
    | some i =>
      simp only
      refine congrArg _ (funext fun y => ?_)
      exact resC_recast l δ δ' _ fun t ht => h t (by simp [resSl, ht])
theorem ret_recast {V : Nat → Value} {k : Out → Option Out} {r : Out} (hfz : okFz c fz = true) (h : NextV (rcx c fz) B X w0 F0 V (fun δ => retK (rcx c fz) δ (retO k)) r a w) : NextV c B X w0 F0 V (fun δ => retK c δ k) r a w := by
  obtain ⟨⟨F, O, δ, hI, hk⟩, hV⟩ := h
  obtain ⟨rs, h1, h2, h3⟩ := retK_is hk
  unfold okFz at hfz
  simp only [Bool.and_eq_true, List.all_eq_true, Bool.not_eq_true'] at hfz
  have out : ∀ s, memN s (chgS c fz) = false → nth (setMany δ (chgS c fz) []) s = nth δ s := fun s hs => nth_setMany_notin _ _ _ _ fun hm => by
    rw [memN_t hm] at hs
    cases hs
  have hg : getAll (setMany δ (chgS c fz) []) c.ios = getAll δ c.ios := by
    have : ∀ l : List Nat, (∀ s ∈ l, memN s (chgS c fz) = false) → getAll (setMany δ (chgS c fz) []) l = getAll δ l := by
      intro l
      induction l with
      | nil => intro _; rfl
      | cons s l ih =>
        intro hl
        simp only [getAll]
        rw [out s (hl s (by simp)), ih fun t ht => hl t (by simp [ht])]
    exact this _ hfz.2
  refine ⟨⟨F, O, _, hI.uncast, retK_of (rs := rs) ?_ ?_ ?_⟩, fun s hs => hV s (by rw [frz_io]; exact hs)⟩
  · rw [← resC_recast (fz := fz) c.res δ _ _ fun t ht => (out t (hfz.1.2 t ht)).symm]
    exact h1
  · rw [hg]
    exact h2
  · rw [hg]
    exact h3

theorem denR_sound (hT : okT P c.T = true) (hS : ∀ f S, look c.S f = some S → Meets c.G P f S) (hm : P.follows .mixedOrders = true) {V : Nat → Value} {R : List (Nat × List Nat)} : ∀ (b : Code) (p bid : Nat), okCodeR c R p bid b = true → ∀ (F : Nat → Prop) (O : Nat → Option (Nat × Nat)) (a : Act) (w : World) (δ : List D),
    Inv c B X w0 F0 F O a w δ → IoV c V a → ∀ (k : Out → Option Out) (r : Out), denR c R p bid b δ k = some r → ∀ Q, (∀ e a w, Post c B X w0 F0 V k r e a w → Q e a w) → b.wp P Q a w
  | .seq x y, p, bid, hok, F, O, a, w, δ, hI, hV, k, r, hg, Q, hQ => by
    simp only [okCodeR, Bool.and_eq_true] at hok
    simp only [denR] at hg
    refine wp_seq (denR_sound hT hS hm x _ bid hok.1 F O a w δ hI hV _ r hg _ (fun e a' w' hp => ?_))
    cases e with
    | normal =>
      obtain ⟨⟨F', O', δ', hI', hk'⟩, hV'⟩ := hp
      have hok2 := hok.2
      simp only [seqK] at hk'
      cases hH : look R p with
      | none =>
        rw [hH] at hk' hok2
        exact denR_sound hT hS hm y _ bid hok2 F' O' a' w' δ' hI' hV' k r hk' Q hQ
      | some fz =>
        rw [hH] at hk' hok2
        simp only [Bool.and_eq_true] at hok2
        simp only [viaC_eq, setManyC_eq] at hk'
        obtain ⟨F2, O2, hI2⟩ := hI'.recast hok2.1
        refine den_sound (c := rcx c fz) hT hS hm y bid hok2.2 F2 O2 a' w' _ hI2 (fun s hs => hV' s (by rw [← frz_io (fz := fz)]; exact hs)) (retO k) r hk' Q (fun e a w hp => ?_)
        cases e with
        | normal => obtain ⟨⟨_, _, _, _, h⟩, _⟩ := hp; cases h
        | exit i => obtain ⟨⟨_, _, _, _, h⟩, _⟩ := hp; cases h
        | ret => exact hQ .ret _ _ (ret_recast hok2.1 hp)
        | _ => exact hp.elim
    | exit id => exact hQ _ _ _ hp
    | ret => exact hQ _ _ _ hp
    | _ => exact hp.elim
  | .cond x t e, p, bid, hok, F, O, a, w, δ, hI, hV, k, r, hg, Q, hQ => by
    simp only [okCodeR, Bool.and_eq_true] at hok
    obtain ⟨⟨hlv, hok1⟩, hok2⟩ := hok
    have hop := hI.opd (ble_iff.1 hlv)
    have key : ifD (opD δ x) (denR c R (Nat.mul 2 p) bid t δ k) (denR c R (Nat.add (Nat.mul 2 p) 1) bid e δ k) = some r := by
      simp only [denR] at hg
      cases x with
      | tmp s => simpa only [opC, nthC_eq, opD] using hg
      | const v => simpa only [opC, opD] using hg
      | func f => simpa only [opC, opD] using hg
      | global g => simp [opC] at hg
    unfold ifD at key
    split at key
    · rename_i hd
      rw [hd] at hop
      exact wp_cond_true (RepB_v hop).1 (denR_sound hT hS hm t _ bid hok1 F O a w δ hI hV k r key Q hQ)
    · rename_i hd
      rw [hd] at hop
      exact wp_cond_false (RepB_v hop).1 (denR_sound hT hS hm e _ bid hok2 F O a w δ hI hV k r key Q hQ)
    · cases key
  | .block id b, p, bid, hok, F, O, a, w, δ, hI, hV, k, r, hg, Q, hQ => by
    simp only [okCodeR] at hok
    refine wp_block (denR_sound hT hS hm b _ id hok F O a w δ hI hV _ r hg _ (fun e a' w' hp => ?_))
    cases e with
    | normal => exact hQ .normal _ _ hp
    | exit i =>
      simp only [Exit.inBlock]
      have hp' : NextV c B X w0 F0 V (fun δ => blkK id (.ext i δ) k) r a' w' := hp
      split
      · rename_i hi
        refine hQ .normal _ _ (NextV_mono hp' fun δ F O _ h => ?_)
        simp only [blkK] at h
        rw [beq_iff.2 (by simpa using hi)] at h
        exact h
      · rename_i hi
        refine hQ (.exit i) _ _ (NextV_mono hp' fun δ F O _ h => ?_)
        simp only [blkK] at h
        cases hb : Nat.beq i id
        · rw [hb] at h; exact h
        · exact absurd (by simpa using beq_iff.1 hb) hi
    | ret => exact hQ .ret _ _ hp
    | _ => exact hp.elim
  | .skip, p, bid, hok, F, O, a, w, δ, hI, hV, k, r, hg, Q, hQ => den_sound hT hS hm .skip bid hok F O a w δ hI hV k r hg Q hQ
  | .region id ops d, p, bid, hok, F, O, a, w, δ, hI, hV, k, r, hg, Q, hQ => den_sound hT hS hm (.region id ops d) bid hok F O a w δ hI hV k r hg Q hQ
  | .loop b, p, bid, hok, F, O, a, w, δ, hI, hV, k, r, hg, Q, hQ => den_sound hT hS hm (.loop b) bid hok F O a w δ hI hV k r hg Q hQ
  | .exit id, p, bid, hok, F, O, a, w, δ, hI, hV, k, r, hg, Q, hQ => den_sound hT hS hm (.exit id) bid hok F O a w δ hI hV k r hg Q hQ
  | .ret, p, bid, hok, F, O, a, w, δ, hI, hV, k, r, hg, Q, hQ => den_sound hT hS hm .ret bid hok F O a w δ hI hV k r hg Q hQ
  | .label _, _, _, hok, _, _, _, _, _, _, _, _, _, _, _, _ => by simp [okCodeR, okCode] at hok
  | .goto _, _, _, hok, _, _, _, _, _, _, _, _, _, _, _, _ => by simp [okCodeR, okCode] at hok
  | .scope _, _, _, hok, _, _, _, _, _, _, _, _, _, _, _, _ => by simp [okCodeR, okCode] at hok

theorem fn_callsR (hT : okT P c.T = true) (hS : ∀ f S, look c.S f = some S → Meets c.G P f S) (hm : P.follows .mixedOrders = true) {R : List (Nat × List Nat)} {f : FuncId} {fn : Func} (hf : P.funcs[f]? = some fn) {pm rm : List Kd} (hok : okFnR c R fn pm rm = true) (hres : c.res = fn.results.toList)
    {ds rs us : List D} (hd : denFR c R fn ds = some (.ret rs us)) {args : Array Value} {w : World} {F : Nat → Prop} {ow : Nat → Option Nat} (hgl : gOk c.G w F) (ha : ArgsOk w F ow 0 pm ds args.toList) (hF : ∀ b, F b → b < w.heap.size ∧ ow b = none) (hO : ∀ b i, ow b = some i → b < w.heap.size) :
    Calls P f args w fun e w' => ∃ v, e = .returned v ∧ ∃ F' R' vs, v = resV vs ∧ CallPost { pm := pm, rm := rm, f := denFR c R fn } args rs us w F ow F' R' vs w' := by
  unfold okFnR at hok
  simp only [Bool.and_eq_true, decide_eq_true_eq] at hok
  obtain ⟨⟨⟨⟨⟨hcode, hlenK⟩, hpre⟩, hpm⟩, hokr⟩, hios⟩ := hok
  rw [beq_iff, lenN_eq] at hlenK
  obtain ⟨hpl, hpn⟩ := prefK_nth hpre
  obtain ⟨hdl, hal, hargs⟩ := ArgsOk_at pm ds args.toList 0 ha
  have hasz : args.size = pm.length := by simpa using hal
  unfold denFR at hd
  cases hb : fn.body with
  | none => rw [hb] at hd; cases hd
  | some b =>
    rw [hb] at hd hcode
    simp only at hd hcode
    refine calls_of_wp hf hb ?_
    have hav : ∀ s, s < pm.length → av ({ tmps := args ++ Array.replicate (fn.ntmps - args.size) undef, defers := [] } : Act) s = args.toList.getD s undef := fun s hs => by
      have h1 : s < args.size := by omega
      simp only [av, Array.getD_eq_getD_getElem?, List.getD_eq_getElem?_getD, Array.getElem?_toList]
      rw [Array.getElem?_append_left h1]
    have hinit : Inv c w.heap.size (fun b => ow b ≠ none) w F F (fun b => (ow b).map fun i => (i, 0)) { tmps := args ++ Array.replicate (fn.ntmps - args.size) undef, defers := [] } w (padTo fn.ntmps ds) := by
      refine ⟨by simp; omega, by rw [padTo_len, hlenK], rfl, fun s => ?_, fun b hb => ⟨(hF b hb).1, by simp [(hF b hb).2]⟩, fun b p hp => ?_, fun _ h => h, fun _ h => .inl h, Nat.le_refl _, rfl, rfl, rfl, fun _ _ _ => rfl, hgl⟩
      · unfold SlotOk
        rw [padTo_nth _ _ _ (by rw [hdl]; omega)]
        by_cases hs : s < pm.length
        · rw [hpn s hs, hav s hs]
          rcases hargs s hs with hbad | harg
          · exact .inl hbad
          refine .inr ?_
          have hlv : ∀ lv, lv ≠ 1 → ∀ b, FB F 0 lv b → FB F w.heap.size lv b := fun lv h1 b hb => by
            match lv, h1 with
            | 0, _ => exact hb
            | _ + 2, _ => exact hb
          rcases okPm_at hpm s hs with ⟨lv, hk, h1⟩ | ⟨z, lv, hk, h1⟩ | ⟨n, lv, hk, h1⟩
          · rw [hk] at harg ⊢
            exact .inr (RepV_mono (hlv lv h1) (fun _ _ => rfl) harg)
          · rw [hk] at harg ⊢
            exact .inr (OwnV_mono' (hlv lv h1) (fun _ _ => rfl) (fun g _ hg => ⟨⟨by simp only [Nat.zero_add] at hg; simp [hg], fun h => by cases h⟩, rfl⟩) harg)
          · rw [hk] at harg ⊢
            exact .inr (BoxV_mono' (hlv lv h1) (fun _ _ => rfl) (fun g _ hg => ⟨⟨by simp only [Nat.zero_add] at hg; simp [hg], fun h => by cases h⟩, rfl⟩) harg)
        · refine .inl ?_
          rw [nth_eq, List.getD_eq_getElem?_getD, List.getElem?_eq_none (by omega)]
          rfl
      · obtain ⟨i, hi, rfl⟩ := Option.map_eq_some_iff.1 hp
        exact ⟨hO b i hi, .inr (by rw [hi]; simp)⟩
    refine denR_sound hT hS hm b 1 0 hcode F _ _ w _ hinit (V := av { tmps := args ++ Array.replicate (fn.ntmps - args.size) undef, defers := [] }) (fun _ _ => rfl) _ _ hd _ (fun e a' w' hp => ?_)
    have fin : NextV c w.heap.size (fun b => ow b ≠ none) w F (av { tmps := args ++ Array.replicate (fn.ntmps - args.size) undef, defers := [] }) (fun δ => retK c δ some) (.ret rs us) a' w' → a'.defers = [] ∧ ∃ v, (results fn a'.tmps).run P w' = .ok v w' ∧ ∃ v', Ending.returned v = .returned v' ∧ ∃ F' R' vs, v' = resV vs ∧ CallPost { pm := pm, rm := rm, f := denFR c R fn } args rs us w F ow F' R' vs w' := by
      rintro ⟨⟨F', O', δ', hI', hk⟩, hV'⟩
      obtain ⟨rs', h1, h2, h3⟩ := retK_is hk
      simp only [Option.some.injEq, Out.ret.injEq] at h3
      obtain ⟨rfl, rfl⟩ := h3
      obtain ⟨vs, g1, g2, g3, g4⟩ := res_run (P := P) hT hI' c.res rm rs' hokr h1
      refine ⟨hI'.df, resV vs, ?_, _, rfl, F', fun b => if w.heap.size ≤ b then (match O' b with
        | some (t, 0) => resIx c.res t 0
        | _ => none) else none, vs, rfl, ?_⟩
      · have hrun : (fn.results.mapM (getRes a'.tmps)).run P w' = .ok vs.toArray w' := by
          rw [Array.mapM_eq_mapM_toList, ← hres]
          simp [g1]
        have hrw : results fn a'.tmps = (do
            let vs ← fn.results.mapM (getRes a'.tmps)
            pure (if h : vs.size = 1 then vs[0] else .tuple vs)) := by
          unfold results
          congr 1
        rw [hrw]
        simp only [Sem.run_bind, hrun, Result.andThen_ok, Sem.run_pure]
        congr 1
        rcases vs with _ | ⟨y, _ | ⟨y', vs⟩⟩
        · simp [resV]
        · simp [resV]
        · simp [resV]
      · refine ⟨hI'.os, hI'.tape, hI'.output, hI'.bb, fun b hb ho => hI'.keep b hb (by simp [ho]), hI'.f0, fun b hb => ⟨hI'.fn b hb, (hI'.fl b hb).1, by simp only [(hI'.fl b hb).2]; split <;> rfl⟩, fun b j hj => ?_, g2, g3, fun j => ?_, ?_⟩
        · split at hj
          case isFalse => cases hj
          rename_i hB
          refine ⟨hB, ?_⟩
          split at hj
          · rename_i t he; exact (hI'.ol b _ he).1
          · cases hj
        · refine ResOk_mono (fun hk g hg => ?_) (g4 j)
          obtain ⟨z, lv, hk⟩ := hk
          obtain ⟨e1, t, e2, e3⟩ := hg
          rw [if_pos e1]
          simp only [e3]
          have := (resIx_own c.res rm hokr j t 0 z lv hk e2).1
          simpa using this
        · rw [hios]
          refine UsOk_of pm args.toList 0 hal (fun j hj hio => ?_)
          rw [Nat.zero_add]
          have hkj := hpn j hj
          have hbj : nth δ' j ≠ .bad := by
            refine h2 _ ?_
            rw [hios, getAll_map]
            exact List.mem_map_of_mem (by simpa using ioIdx_mem pm 0 j hj hio)
          have havj : av a' j = args.toList.getD j undef := (hV' j (by rw [hkj]; exact hio)).trans (hav j hj)
          have hlv : ∀ lv, lv ≠ 1 → ∀ b, FB F' w.heap.size lv b → FB F' 0 lv b := fun lv h1 b hb => by
            match lv, h1 with
            | 0, _ => exact hb
            | _ + 2, _ => exact hb
          refine ⟨hbj, .inr ?_⟩
          rcases okPm_at hpm j hj with ⟨lv, hk, h1⟩ | ⟨z, lv, hk, h1⟩ | ⟨n, lv, hk, h1⟩
          · rw [hk] at hio; cases hio
          · have h5 := hI'.own (hkj.trans hk) hbj
            rw [havj] at h5
            rw [hk]
            exact OwnV_mono' (hlv lv h1) (fun _ _ => rfl) (fun _ _ _ => ⟨trivial, rfl⟩) h5
          · have h5 := hI'.box (hkj.trans hk) hbj
            rw [havj] at h5
            rw [hk]
            exact BoxV_mono' (hlv lv h1) (fun _ _ => rfl) (fun _ _ _ => ⟨trivial, rfl⟩) h5
    cases e with
    | normal => exact fin hp
    | exit i =>
      obtain ⟨⟨_, _, _, _, h⟩, _⟩ := hp
      cases h
    | ret =>
      refine fin (NextV_mono hp fun δ F O _ h => ?_)
      obtain ⟨rs', h1, h2, h3⟩ := retK_is h
      exact retK_of h1 h2 h3
    | _ => exact hp.elim

theorem meets_ofR (hT : okT P c.T = true) (hS : ∀ f S, look c.S f = some S → Meets c.G P f S) (hm : P.follows .mixedOrders = true) {R : List (Nat × List Nat)} {f : FuncId} {fn : Func} (hf : P.funcs[f]? = some fn) (hname : (fn.name == "runtime.NumGoroutine") = false) {pm rm : List Kd} (hok : okFnR c R fn pm rm = true) (hres : c.res = fn.results.toList) :
    Meets c.G P f { pm := pm, rm := rm, f := denFR c R fn } := by
  intro ds rs us hd args w F ow hgl ha hF hO o a next Q hn
  have hbody : ∃ b, fn.body = some b := by
    have hd' : denFR c R fn ds = some (.ret rs us) := hd
    unfold denFR at hd'
    cases hb : fn.body with
    | none => rw [hb] at hd'; cases hd'
    | some b => exact ⟨b, rfl⟩
  obtain ⟨b, hb⟩ := hbody
  have hrun : (callFunc f args).run P w = .ok (.enter f args) w := by
    have h1 : ¬ fn.name = "runtime.NumGoroutine" := by simpa using hname
    simp [callFunc, hf, h1, hb]
  rw [hrun, Oper.upon_enter]
  refine Calls.mono (fn_callsR hT hS hm hf hok hres hd hgl ha hF hO) (fun e w' he => ?_)
  obtain ⟨v, rfl, F', R', vs, h1, h2⟩ := he
  exact hn v w' ⟨F', R', vs, h1, h2⟩


end
end Go.V
/-
  The evaluator with recasts of single regions: in them, slots that own a slice hold plain data (what is put into another slice, or handed back); after them these slots are void.
-/
namespace Go.V
open Go.RowKit
set_option linter.unusedSimpArgs false

@[reducible] noncomputable def denQ (c : Cx) (Z : List (Nat × List Nat)) : Nat → Code → List D → (Out → Option Out) → Option Out
  | _, .skip, δ, k => k (.nrm δ)
  | _, .region id ops _, δ, k => match look Z id with
    | some fz => viaC c.K δ (depsAll c.K fz) fun l => setManyC δ (depsAll c.K fz) l fun δ' => runOps (rcx c fz) ops.toList ops.toList δ' fun δ2 => setManyC δ2 fz [] fun δ3 => setManyC δ3 (depsAll c.K fz) [] fun δ4 => k (.nrm δ4)
    | none => runOps c ops.toList ops.toList δ fun δ' => k (.nrm δ')
  | bid, .seq a b, δ, k => denQ c Z bid a δ fun o => seqK o (fun δ' => denQ c Z bid b δ' k) k
  | bid, .cond x t e, δ, k => opC δ x fun q => ifD q (denQ c Z bid t δ k) (denQ c Z bid e δ k)
  | _, .block id b, δ, k => denQ c Z id b δ fun o => blkK id o k
  | bid, .loop b, δ, k => match look c.H bid with
    | none => none
    | some (hl, xl) =>
      getC δ hl fun s => (loopC (fun s => expandC (lenN c.K) hl s fun δ => denQ c Z bid b δ (shrinkK hl xl)) s).bind fun o =>
        outK o (fun i s => expandC (lenN c.K) xl s fun δ => k (.ext i δ)) (fun a b => k (.ret a b))
  | _, .exit id, δ, k => k (.ext id δ)
  | _, .ret, δ, k => resC c δ c.res fun rs => getC δ c.ios fun us => usK us (k (.ret rs us))
  | _, _, _, _ => none
@[reducible] noncomputable def denFQ (c : Cx) (Z : List (Nat × List Nat)) (fn : Func) (ds : List D) : Option Out :=
  match fn.body with
  | none => none
  | some b => denQ c Z 0 b (padTo fn.ntmps ds) fun o => match o with
    | .nrm δ => resC c δ c.res fun rs => getC δ c.ios fun us => usK us (some (.ret rs us))
    | .ext _ _ => none
    | .ret rs us => some (.ret rs us)
def okCodeQ (c : Cx) (Z : List (Nat × List Nat)) : Nat → Code → Bool
  | _, .skip => true
  | bid, .region id ops d => match look Z id with
    | some fz => okFz c fz && okCode (rcx c fz) bid (.region id ops d)
    | none => okCode c bid (.region id ops d)
  | b, .seq x y => okCodeQ c Z b x && okCodeQ c Z b y
  | b, .cond x t e => Nat.ble (lvOf c.K x) 2 && okCodeQ c Z b t && okCodeQ c Z b e
  | _, .block id x => okCodeQ c Z id x
  | b, .loop x => okCodeQ c Z b x && (match look c.H b with
    | some (hl, xl) => okLive c.K hl && okLive c.K xl
    | none => false)
  | _, .exit _ => true
  | _, .ret => true
  | _, _ => false
def okFnQ (c : Cx) (Z : List (Nat × List Nat)) (fn : Func) (pm rm : List Kd) : Bool :=
  (match fn.body with
    | some b => okCodeQ c Z 0 b
    | none => false) && Nat.beq (lenN c.K) fn.ntmps && prefK pm c.K && okPm pm && okRes c c.res rm && decide (c.ios = ioIdx 0 pm)

section
variable {P : Program} {c : Cx} {B : Nat} {X : Nat → Prop} {w0 : World} {F0 F : Nat → Prop} {O : Nat → Option (Nat × Nat)} {a : Act} {w : World} {δ : List D} {fz : List Nat}

theorem setMany_two : ∀ (ss ts : List Nat) (δ : List D), setMany (setMany δ ss []) ts [] = setMany δ (ss ++ ts) []
  | [], _, _ => rfl
  | i :: ss, ts, δ => by
    simp only [List.cons_append, setMany]
    exact setMany_two ss ts _
def unK (c : Cx) (fz : List Nat) (k : Out → Option Out) (o : Out) : Option Out :=
  match o with
  | .nrm δ => k (.nrm (setMany δ (chgS c fz) []))
  | _ => none
theorem loop_roundsQ {V : Nat → Value} {b : Code} {bid : Nat} {Z : List (Nat × List Nat)} {hl xl : List Nat} (h1 : okLive c.K hl = true) (h2 : okLive c.K xl = true)
    (ih : ∀ (F : Nat → Prop) (O : Nat → Option (Nat × Nat)) (a : Act) (w : World) (δ : List D), Inv c B X w0 F0 F O a w δ → IoV c V a → ∀ (k : Out → Option Out) (r : Out), denQ c Z bid b δ k = some r → ∀ Q, (∀ e a w, Post c B X w0 F0 V k r e a w → Q e a w) → b.wp P Q a w)
    {k : Out → Option Out} {r : Out} {Q : Exit → Act → World → Prop} (hQ : ∀ e a w, Post c B X w0 F0 V k r e a w → Q e a w) {o : Out}
    (ho : outK o (fun i s => expandC (lenN c.K) xl s fun δ => k (.ext i δ)) (fun x y => k (.ret x y)) = some r) : ∀ (n : Nat) (F : Nat → Prop) (O : Nat → Option (Nat × Nat)) (a : Act) (w : World) (δ : List D), Inv c B X w0 F0 F O a w δ → IoV c V a →
    iter (fun s => expandC (lenN c.K) hl s fun δ => denQ c Z bid b δ (shrinkK hl xl)) n (getAll δ hl) = some o → Code.rounds P b Q n a w
  | 0, _, _, _, _, _, _, _, h => by cases h
  | n + 1, F, O, a, w, δ, hI, hV, h => by
    simp only [iter, expandC_eq] at h
    rw [rounds_succ]
    have hI' := hI.carry h1
    cases hb : denQ c Z bid b (carry (lenN c.K) hl δ) (shrinkK hl xl) with
    | none => rw [hb] at h; cases h
    | some ob =>
      rw [hb] at h
      refine ih F O a w _ hI' hV _ ob hb _ (fun e a' w' hp => ?_)
      cases ob with
      | nrm s' =>
        simp only at h
        cases e with
        | normal =>
          obtain ⟨⟨F', O', δ', g1, g2⟩, g3⟩ := hp
          simp only [shrinkK, getC_eq, Option.some.injEq, Out.nrm.injEq] at g2
          rw [← g2] at h
          exact loop_roundsQ h1 h2 ih hQ ho n F' O' a' w' δ' g1 g3 h
        | exit i =>
          obtain ⟨⟨F', O', δ', g1, g2⟩, g3⟩ := hp
          simp [shrinkK, getC_eq] at g2
        | ret =>
          obtain ⟨⟨F', O', δ', g1, g2⟩, g3⟩ := hp
          obtain ⟨rs, _, _, g4⟩ := retK_is g2
          simp [shrinkK] at g4
        | _ => exact hp.elim
      | ext i l =>
        simp only [Option.some.injEq] at h
        subst h
        cases e with
        | normal =>
          obtain ⟨⟨F', O', δ', g1, g2⟩, g3⟩ := hp
          simp [shrinkK, getC_eq] at g2
        | exit j =>
          obtain ⟨⟨F', O', δ', g1, g2⟩, g3⟩ := hp
          simp only [shrinkK, getC_eq, Option.some.injEq, Out.ext.injEq] at g2
          obtain ⟨rfl, rfl⟩ := g2
          simp only [outK, expandC_eq] at ho
          exact hQ (.exit j) _ _ ⟨⟨F', O', _, g1.carry h2, ho⟩, g3⟩
        | ret =>
          obtain ⟨⟨F', O', δ', g1, g2⟩, g3⟩ := hp
          obtain ⟨rs, _, _, g4⟩ := retK_is g2
          simp [shrinkK] at g4
        | _ => exact hp.elim
      | ret x y =>
        simp only [Option.some.injEq] at h
        subst h
        cases e with
        | normal =>
          obtain ⟨⟨F', O', δ', g1, g2⟩, g3⟩ := hp
          simp [shrinkK, getC_eq] at g2
        | exit j =>
          obtain ⟨⟨F', O', δ', g1, g2⟩, g3⟩ := hp
          simp [shrinkK, getC_eq] at g2
        | ret =>
          obtain ⟨⟨F', O', δ', g1, g2⟩, g3⟩ := hp
          obtain ⟨rs, g5, g6, g4⟩ := retK_is g2
          simp only [shrinkK, Option.some.injEq, Out.ret.injEq] at g4
          obtain ⟨rfl, rfl⟩ := g4
          exact hQ .ret _ _ ⟨⟨F', O', δ', g1, retK_of g5 g6 ho⟩, g3⟩
        | _ => exact hp.elim

theorem denQ_sound (hT : okT P c.T = true) (hS : ∀ f S, look c.S f = some S → Meets c.G P f S) (hm : P.follows .mixedOrders = true) {V : Nat → Value} {Z : List (Nat × List Nat)} : ∀ (b : Code) (bid : Nat), okCodeQ c Z bid b = true → ∀ (F : Nat → Prop) (O : Nat → Option (Nat × Nat)) (a : Act) (w : World) (δ : List D),
    Inv c B X w0 F0 F O a w δ → IoV c V a → ∀ (k : Out → Option Out) (r : Out), denQ c Z bid b δ k = some r → ∀ Q, (∀ e a w, Post c B X w0 F0 V k r e a w → Q e a w) → b.wp P Q a w
  | .skip, bid, _, F, O, a, w, δ, hI, hV, k, r, hg, Q, hQ => wp_skip (hQ _ _ _ ⟨⟨F, O, δ, hI, hg⟩, hV⟩)
  | .region id ops d, bid, hok, F, O, a, w, δ, hI, hV, k, r, hg, Q, hQ => by
    simp only [okCodeQ] at hok
    simp only [denQ] at hg
    cases hH : look Z id with
    | none =>
      rw [hH] at hok hg
      exact den_sound hT hS hm (.region id ops d) bid hok F O a w δ hI hV k r hg Q hQ
    | some fz =>
      rw [hH] at hok hg
      simp only [Bool.and_eq_true] at hok
      simp only [viaC_eq, setManyC_eq, setMany_two] at hg
      obtain ⟨F2, O2, hI2⟩ := hI.recast hok.1
      refine den_sound (c := rcx c fz) hT hS hm (.region id ops d) bid hok.2 F2 O2 a w _ hI2 (fun s hs => hV s (by rw [← frz_io (fz := fz)]; exact hs)) (unK c fz k) r hg Q (fun e a w hp => ?_)
      cases e with
      | normal =>
        obtain ⟨⟨F', O', δ', hI', hk'⟩, hV'⟩ := hp
        exact hQ .normal _ _ ⟨⟨F', O', _, hI'.uncast, hk'⟩, fun s hs => hV' s (by rw [frz_io]; exact hs)⟩
      | exit i => obtain ⟨⟨_, _, _, _, h⟩, _⟩ := hp; cases h
      | ret =>
        obtain ⟨⟨_, _, _, _, h⟩, _⟩ := hp
        obtain ⟨rs, h1, h2, h3⟩ := retK_is h
        cases h3
      | _ => exact hp.elim
  | .seq x y, bid, hok, F, O, a, w, δ, hI, hV, k, r, hg, Q, hQ => by
    simp only [okCodeQ, Bool.and_eq_true] at hok
    refine wp_seq (denQ_sound hT hS hm x bid hok.1 F O a w δ hI hV _ r hg _ (fun e a' w' hp => ?_))
    cases e with
    | normal =>
      obtain ⟨⟨F', O', δ', hI', hk'⟩, hV'⟩ := hp
      exact denQ_sound hT hS hm y bid hok.2 F' O' a' w' δ' hI' hV' k r hk' Q hQ
    | exit id => exact hQ _ _ _ hp
    | ret => exact hQ _ _ _ hp
    | _ => exact hp.elim
  | .cond x t e, bid, hok, F, O, a, w, δ, hI, hV, k, r, hg, Q, hQ => by
    simp only [okCodeQ, Bool.and_eq_true] at hok
    obtain ⟨⟨hlv, hok1⟩, hok2⟩ := hok
    have hop := hI.opd (ble_iff.1 hlv)
    have key : ifD (opD δ x) (denQ c Z bid t δ k) (denQ c Z bid e δ k) = some r := by
      simp only [denQ] at hg
      cases x with
      | tmp s => simpa only [opC, nthC_eq, opD] using hg
      | const v => simpa only [opC, opD] using hg
      | func f => simpa only [opC, opD] using hg
      | global g => simp [opC] at hg
    unfold ifD at key
    split at key
    · rename_i hd
      rw [hd] at hop
      exact wp_cond_true (RepB_v hop).1 (denQ_sound hT hS hm t bid hok1 F O a w δ hI hV k r key Q hQ)
    · rename_i hd
      rw [hd] at hop
      exact wp_cond_false (RepB_v hop).1 (denQ_sound hT hS hm e bid hok2 F O a w δ hI hV k r key Q hQ)
    · cases key
  | .block id b, bid, hok, F, O, a, w, δ, hI, hV, k, r, hg, Q, hQ => by
    simp only [okCodeQ] at hok
    refine wp_block (denQ_sound hT hS hm b id hok F O a w δ hI hV _ r hg _ (fun e a' w' hp => ?_))
    cases e with
    | normal => exact hQ .normal _ _ hp
    | exit i =>
      simp only [Exit.inBlock]
      have hp' : NextV c B X w0 F0 V (fun δ => blkK id (.ext i δ) k) r a' w' := hp
      split
      · rename_i hi
        refine hQ .normal _ _ (NextV_mono hp' fun δ F O _ h => ?_)
        simp only [blkK] at h
        rw [beq_iff.2 (by simpa using hi)] at h
        exact h
      · rename_i hi
        refine hQ (.exit i) _ _ (NextV_mono hp' fun δ F O _ h => ?_)
        simp only [blkK] at h
        cases hb : Nat.beq i id
        · rw [hb] at h; exact h
        · exact absurd (by simpa using beq_iff.1 hb) hi
    | ret => exact hQ .ret _ _ hp
    | _ => exact hp.elim
  | .loop b, bid, hok, F, O, a, w, δ, hI, hV, k, r, hg, Q, hQ => by
    simp only [okCodeQ, Bool.and_eq_true] at hok
    obtain ⟨hok1, hok2⟩ := hok
    simp only [denQ] at hg
    cases hH : look c.H bid with
    | none => rw [hH] at hg; cases hg
    | some hx =>
      obtain ⟨hl, xl⟩ := hx
      rw [hH] at hg hok2
      simp only [Bool.and_eq_true] at hok2
      simp only [getC_eq] at hg
      obtain ⟨o', h1, h2⟩ := Option.bind_eq_some_iff.1 hg
      unfold loopC at h1
      split at h1
      case isFalse => cases h1
      rename_i hex
      refine wp_loop_rounds (Classical.choose hex) ?_
      refine loop_roundsQ (hl := hl) (xl := xl) hok2.1 hok2.2 (fun F O a w δ hI hV k r hg Q hQ => denQ_sound hT hS hm b bid hok1 F O a w δ hI hV k r hg Q hQ) hQ h2 _ F O a w δ hI hV h1
  | .exit id, bid, _, F, O, a, w, δ, hI, hV, k, r, hg, Q, hQ => wp_exit (hQ _ _ _ ⟨⟨F, O, δ, hI, hg⟩, hV⟩)
  | .ret, bid, _, F, O, a, w, δ, hI, hV, k, r, hg, Q, hQ => wp_ret (hQ _ _ _ ⟨⟨F, O, δ, hI, hg⟩, hV⟩)
  | .label _, _, hok, _, _, _, _, _, _, _, _, _, _, _, _ => by simp [okCodeQ] at hok
  | .goto _, _, hok, _, _, _, _, _, _, _, _, _, _, _, _ => by simp [okCodeQ] at hok
  | .scope _, _, hok, _, _, _, _, _, _, _, _, _, _, _, _ => by simp [okCodeQ] at hok

theorem fn_callsQ (hT : okT P c.T = true) (hS : ∀ f S, look c.S f = some S → Meets c.G P f S) (hm : P.follows .mixedOrders = true) {Z : List (Nat × List Nat)} {f : FuncId} {fn : Func} (hf : P.funcs[f]? = some fn) {pm rm : List Kd} (hok : okFnQ c Z fn pm rm = true) (hres : c.res = fn.results.toList)
    {ds rs us : List D} (hd : denFQ c Z fn ds = some (.ret rs us)) {args : Array Value} {w : World} {F : Nat → Prop} {ow : Nat → Option Nat} (hgl : gOk c.G w F) (ha : ArgsOk w F ow 0 pm ds args.toList) (hF : ∀ b, F b → b < w.heap.size ∧ ow b = none) (hO : ∀ b i, ow b = some i → b < w.heap.size) :
    Calls P f args w fun e w' => ∃ v, e = .returned v ∧ ∃ F' R' vs, v = resV vs ∧ CallPost { pm := pm, rm := rm, f := denFQ c Z fn } args rs us w F ow F' R' vs w' := by
  unfold okFnQ at hok
  simp only [Bool.and_eq_true, decide_eq_true_eq] at hok
  obtain ⟨⟨⟨⟨⟨hcode, hlenK⟩, hpre⟩, hpm⟩, hokr⟩, hios⟩ := hok
  rw [beq_iff, lenN_eq] at hlenK
  obtain ⟨hpl, hpn⟩ := prefK_nth hpre
  obtain ⟨hdl, hal, hargs⟩ := ArgsOk_at pm ds args.toList 0 ha
  have hasz : args.size = pm.length := by simpa using hal
  unfold denFQ at hd
  cases hb : fn.body with
  | none => rw [hb] at hd; cases hd
  | some b =>
    rw [hb] at hd hcode
    simp only at hd hcode
    refine calls_of_wp hf hb ?_
    have hav : ∀ s, s < pm.length → av ({ tmps := args ++ Array.replicate (fn.ntmps - args.size) undef, defers := [] } : Act) s = args.toList.getD s undef := fun s hs => by
      have h1 : s < args.size := by omega
      simp only [av, Array.getD_eq_getD_getElem?, List.getD_eq_getElem?_getD, Array.getElem?_toList]
      rw [Array.getElem?_append_left h1]
    have hinit : Inv c w.heap.size (fun b => ow b ≠ none) w F F (fun b => (ow b).map fun i => (i, 0)) { tmps := args ++ Array.replicate (fn.ntmps - args.size) undef, defers := [] } w (padTo fn.ntmps ds) := by
      refine ⟨by simp; omega, by rw [padTo_len, hlenK], rfl, fun s => ?_, fun b hb => ⟨(hF b hb).1, by simp [(hF b hb).2]⟩, fun b p hp => ?_, fun _ h => h, fun _ h => .inl h, Nat.le_refl _, rfl, rfl, rfl, fun _ _ _ => rfl, hgl⟩
      · unfold SlotOk
        rw [padTo_nth _ _ _ (by rw [hdl]; omega)]
        by_cases hs : s < pm.length
        · rw [hpn s hs, hav s hs]
          rcases hargs s hs with hbad | harg
          · exact .inl hbad
          refine .inr ?_
          have hlv : ∀ lv, lv ≠ 1 → ∀ b, FB F 0 lv b → FB F w.heap.size lv b := fun lv h1 b hb => by
            match lv, h1 with
            | 0, _ => exact hb
            | _ + 2, _ => exact hb
          rcases okPm_at hpm s hs with ⟨lv, hk, h1⟩ | ⟨z, lv, hk, h1⟩ | ⟨n, lv, hk, h1⟩
          · rw [hk] at harg ⊢
            exact .inr (RepV_mono (hlv lv h1) (fun _ _ => rfl) harg)
          · rw [hk] at harg ⊢
            exact .inr (OwnV_mono' (hlv lv h1) (fun _ _ => rfl) (fun g _ hg => ⟨⟨by simp only [Nat.zero_add] at hg; simp [hg], fun h => by cases h⟩, rfl⟩) harg)
          · rw [hk] at harg ⊢
            exact .inr (BoxV_mono' (hlv lv h1) (fun _ _ => rfl) (fun g _ hg => ⟨⟨by simp only [Nat.zero_add] at hg; simp [hg], fun h => by cases h⟩, rfl⟩) harg)
        · refine .inl ?_
          rw [nth_eq, List.getD_eq_getElem?_getD, List.getElem?_eq_none (by omega)]
          rfl
      · obtain ⟨i, hi, rfl⟩ := Option.map_eq_some_iff.1 hp
        exact ⟨hO b i hi, .inr (by rw [hi]; simp)⟩
    refine denQ_sound hT hS hm b 0 hcode F _ _ w _ hinit (V := av { tmps := args ++ Array.replicate (fn.ntmps - args.size) undef, defers := [] }) (fun _ _ => rfl) _ _ hd _ (fun e a' w' hp => ?_)
    have fin : NextV c w.heap.size (fun b => ow b ≠ none) w F (av { tmps := args ++ Array.replicate (fn.ntmps - args.size) undef, defers := [] }) (fun δ => retK c δ some) (.ret rs us) a' w' → a'.defers = [] ∧ ∃ v, (results fn a'.tmps).run P w' = .ok v w' ∧ ∃ v', Ending.returned v = .returned v' ∧ ∃ F' R' vs, v' = resV vs ∧ CallPost { pm := pm, rm := rm, f := denFQ c Z fn } args rs us w F ow F' R' vs w' := by
      rintro ⟨⟨F', O', δ', hI', hk⟩, hV'⟩
      obtain ⟨rs', h1, h2, h3⟩ := retK_is hk
      simp only [Option.some.injEq, Out.ret.injEq] at h3
      obtain ⟨rfl, rfl⟩ := h3
      obtain ⟨vs, g1, g2, g3, g4⟩ := res_run (P := P) hT hI' c.res rm rs' hokr h1
      refine ⟨hI'.df, resV vs, ?_, _, rfl, F', fun b => if w.heap.size ≤ b then (match O' b with
        | some (t, 0) => resIx c.res t 0
        | _ => none) else none, vs, rfl, ?_⟩
      · have hrun : (fn.results.mapM (getRes a'.tmps)).run P w' = .ok vs.toArray w' := by
          rw [Array.mapM_eq_mapM_toList, ← hres]
          simp [g1]
        have hrw : results fn a'.tmps = (do
            let vs ← fn.results.mapM (getRes a'.tmps)
            pure (if h : vs.size = 1 then vs[0] else .tuple vs)) := by
          unfold results
          congr 1
        rw [hrw]
        simp only [Sem.run_bind, hrun, Result.andThen_ok, Sem.run_pure]
        congr 1
        rcases vs with _ | ⟨y, _ | ⟨y', vs⟩⟩
        · simp [resV]
        · simp [resV]
        · simp [resV]
      · refine ⟨hI'.os, hI'.tape, hI'.output, hI'.bb, fun b hb ho => hI'.keep b hb (by simp [ho]), hI'.f0, fun b hb => ⟨hI'.fn b hb, (hI'.fl b hb).1, by simp only [(hI'.fl b hb).2]; split <;> rfl⟩, fun b j hj => ?_, g2, g3, fun j => ?_, ?_⟩
        · split at hj
          case isFalse => cases hj
          rename_i hB
          refine ⟨hB, ?_⟩
          split at hj
          · rename_i t he; exact (hI'.ol b _ he).1
          · cases hj
        · refine ResOk_mono (fun hk g hg => ?_) (g4 j)
          obtain ⟨z, lv, hk⟩ := hk
          obtain ⟨e1, t, e2, e3⟩ := hg
          rw [if_pos e1]
          simp only [e3]
          have := (resIx_own c.res rm hokr j t 0 z lv hk e2).1
          simpa using this
        · rw [hios]
          refine UsOk_of pm args.toList 0 hal (fun j hj hio => ?_)
          rw [Nat.zero_add]
          have hkj := hpn j hj
          have hbj : nth δ' j ≠ .bad := by
            refine h2 _ ?_
            rw [hios, getAll_map]
            exact List.mem_map_of_mem (by simpa using ioIdx_mem pm 0 j hj hio)
          have havj : av a' j = args.toList.getD j undef := (hV' j (by rw [hkj]; exact hio)).trans (hav j hj)
          have hlv : ∀ lv, lv ≠ 1 → ∀ b, FB F' w.heap.size lv b → FB F' 0 lv b := fun lv h1 b hb => by
            match lv, h1 with
            | 0, _ => exact hb
            | _ + 2, _ => exact hb
          refine ⟨hbj, .inr ?_⟩
          rcases okPm_at hpm j hj with ⟨lv, hk, h1⟩ | ⟨z, lv, hk, h1⟩ | ⟨n, lv, hk, h1⟩
          · rw [hk] at hio; cases hio
          · have h5 := hI'.own (hkj.trans hk) hbj
            rw [havj] at h5
            rw [hk]
            exact OwnV_mono' (hlv lv h1) (fun _ _ => rfl) (fun _ _ _ => ⟨trivial, rfl⟩) h5
          · have h5 := hI'.box (hkj.trans hk) hbj
            rw [havj] at h5
            rw [hk]
            exact BoxV_mono' (hlv lv h1) (fun _ _ => rfl) (fun _ _ _ => ⟨trivial, rfl⟩) h5
    cases e with
    | normal => exact fin hp
    | exit i =>
      obtain ⟨⟨_, _, _, _, h⟩, _⟩ := hp
      cases h
    | ret =>
      refine fin (NextV_mono hp fun δ F O _ h => ?_)
      obtain ⟨rs', h1, h2, h3⟩ := retK_is h
      exact retK_of h1 h2 h3
    | _ => exact hp.elim

theorem meets_ofQ (hT : okT P c.T = true) (hS : ∀ f S, look c.S f = some S → Meets c.G P f S) (hm : P.follows .mixedOrders = true) {Z : List (Nat × List Nat)} {f : FuncId} {fn : Func} (hf : P.funcs[f]? = some fn) (hname : (fn.name == "runtime.NumGoroutine") = false) {pm rm : List Kd} (hok : okFnQ c Z fn pm rm = true) (hres : c.res = fn.results.toList) :
    Meets c.G P f { pm := pm, rm := rm, f := denFQ c Z fn } := by
  intro ds rs us hd args w F ow hgl ha hF hO o a next Q hn
  have hbody : ∃ b, fn.body = some b := by
    have hd' : denFQ c Z fn ds = some (.ret rs us) := hd
    unfold denFQ at hd'
    cases hb : fn.body with
    | none => rw [hb] at hd'; cases hd'
    | some b => exact ⟨b, rfl⟩
  obtain ⟨b, hb⟩ := hbody
  have hrun : (callFunc f args).run P w = .ok (.enter f args) w := by
    have h1 : ¬ fn.name = "runtime.NumGoroutine" := by simpa using hname
    simp [callFunc, hf, h1, hb]
  rw [hrun, Oper.upon_enter]
  refine Calls.mono (fn_callsQ hT hS hm hf hok hres hd hgl ha hF hO) (fun e w' he => ?_)
  obtain ⟨v, rfl, F', R', vs, h1, h2⟩ := he
  exact hn v w' ⟨F', R', vs, h1, h2⟩


end
end Go.V
/-
  A row's arguments as data, and the row from a contract.
-/
namespace Go.V
open Go.RowKit Go.WideShapes Go.ChangeShapes

/-! ### shapes of arguments -/
mutual
inductive Sh where
  | int (k : IntKind)
  | bool
  | str
  | sl (e : Sh)
  | st (l : ShL)
inductive ShL where
  | nil
  | cons (h : Sh) (t : ShL)
end
mutual
def Sh.size : Sh → Nat
  | .int _ => 1
  | .bool => 1
  | .str => 1
  | .sl _ => 1
  | .st l => l.size
def ShL.size : ShL → Nat
  | .nil => 0
  | .cons h t => h.size + t.size
end
def Sh.isSt : Sh → Bool
  | .st _ => true
  | _ => false

mutual
def Sh.flat : Sh → Bool
  | .int _ => true
  | .bool => true
  | .str => true
  | .sl _ => false
  | .st l => l.flat
def ShL.flat : ShL → Bool
  | .nil => true
  | .cons h t => h.flat && t.flat
end
def wrap (ag : Bool) (m : List D) : D := if ag then .agg m else nth m 0
mutual
def Sh.Is : Sh → List D → Prop
  | .int k, l => ∃ n, l = [.v (.int k n)] ∧ k.min ≤ n ∧ n ≤ k.max
  | .bool, l => ∃ b, l = [B b]
  | .str, l => ∃ s, l = [T s] ∧ s.size ≤ maxLen
  | .sl e, l => ∃ ds, l = [.arr e.size ds] ∧ ds.length ≤ maxLen ∧ ∀ d ∈ ds, ∃ m, e.Is m ∧ d = wrap e.isSt m
  | .st fs, l => fs.Is l
def ShL.Is : ShL → List D → Prop
  | .nil, l => l = []
  | .cons h t, l => ∃ a b, l = a ++ b ∧ h.Is a ∧ t.Is b
end
mutual
def Sh.ok (P : Program) : Sh → TypeId → Bool
  | .int k, t => match P.underlying t with
    | some (.int k') => decide (k' = k)
    | _ => false
  | .bool, t => match P.underlying t with
    | some .bool => true
    | _ => false
  | .str, t => match P.underlying t with
    | some .string => true
    | _ => false
  | .sl e, t => match P.underlying t with
    | some (.slice u) => e.ok P u && decide (P.cellsOf u = e.size) && decide (0 < e.size)
    | _ => false
  | .st l, t => match P.underlying t with
    | some (.struct fs) => l.ok P 0 fs.toList && decide (P.cellsOf t = l.size)
    | _ => false
def ShL.ok (P : Program) : ShL → Nat → List Field → Bool
  | .nil, _, [] => true
  | .cons h t, off, f :: fs => decide (f.offset = off) && h.ok P f.type && decide (P.cellsOf f.type = h.size) && t.ok P (off + h.size) fs
  | _, _, _ => false
end

section
variable {H : Type} {enc : TypeId × Value → H} {P : Program} {W : World}

theorem Sh.len_one {sh : Sh} (h : sh.isSt = false) : sh.size = 1 := by
  cases sh <;> simp_all [Sh.isSt, Sh.size]

theorem cells_is {a : Addr} {n : Nat} {vs : List Value} (h : W.cells? 0 a n = some vs) : vs.length = n ∧ ∀ i u, vs[i]? = some u → W.cell? (a.add i) = some u := by
  simp only [World.cells?, Nat.zero_le, if_true] at h
  have hl := mapM_some_length h
  rw [List.length_range] at hl
  refine ⟨hl, fun i u hu => ?_⟩
  have hi : i < n := by
    rw [← hl]
    exact (List.getElem?_eq_some_iff.1 hu).1
  rw [mapM_some_get h i i (by simp [hi]), hu]

theorem add_add (a : Addr) (i j : Nat) : (a.add i).add j = a.add (i + j) := by
  unfold Addr.add
  by_cases hi : i = 0 <;> by_cases hj : j = 0 <;> simp [hi, hj, Nat.add_assoc]

theorem cell_spot {a : Addr} {u : Value} (h : W.cell? a = some u) : a.spot = none ∧ a.block < W.heap.size := by
  unfold World.cell? at h
  split at h
  case h_2 => cases h
  rename_i hb
  split at h
  · cases h
  rename_i hs
  refine ⟨by simpa using hs, ?_⟩
  rcases Nat.lt_or_ge a.block W.heap.size with h' | h'
  · exact h'
  · rw [Array.getElem?_eq_none h'] at hb; cases hb

theorem RepL_uno {F : Nat → Prop} {d : D} {vs : List Value} : RepL W F [d] vs ↔ RepC W F d vs := by
  rw [RepL_cons]
  constructor
  · rintro ⟨v1, v2, rfl, h1, h2⟩
    rw [RepL_nil.1 h2, List.append_nil]
    exact h1
  · intro h
    exact ⟨vs, [], by simp, h, RepL_nil.2 rfl⟩

theorem RepC_wrap {F : Nat → Prop} {sh : Sh} {L : List D} {vs : List Value} (hr : RepL W F L vs) (hs : L.all D.single = true) (hl : L.length = sh.size) : RepC W F (wrap sh.isSt L) vs ∧ (wrap sh.isSt L).width = sh.size := by
  cases hb : sh.isSt
  · have h1 := Sh.len_one hb
    match L, hl.trans h1 with
    | [d], _ =>
      simp only [wrap, Bool.false_eq_true, if_false, nth]
      refine ⟨RepL_uno.1 hr, ?_⟩
      rw [h1]
      exact (width_single (by simpa using hs)).1
  · simp only [wrap, if_true]
    refine ⟨by rw [RepC]; exact ⟨hr, hs⟩, ?_⟩
    simpa [D.width, D.cells] using hl

mutual
theorem Sh.opened : ∀ (sh : Sh) (t : TypeId) (fuel : Nat) (cs : List Value) (x : DataW H × List MemPlace), sh.ok P t = true → DataW.trod enc P W 0 (fun _ => true) true fuel t cs = some x →
    ∃ L, sh.Is L ∧ RepL W (· < W.heap.size) L cs ∧ L.all D.single = true ∧ L.length = sh.size
  | .int k, t, fuel, cs, x, hok, h => by
    simp only [Sh.ok] at hok
    split at hok
    case h_2 => cases hok
    rename_i k' hu
    have hk := of_decide_eq_true hok
    subst hk
    obtain ⟨n, rfl, -, hw⟩ := DataW.trod_int hu h
    simp only [Lit.wf, Bool.and_eq_true, decide_eq_true_eq] at hw
    refine ⟨[.v (.int k' n)], ⟨n, rfl, hw⟩, RepL_uno.2 ?_, rfl, rfl⟩
    simp [RepC, V.flat]
  | .bool, t, fuel, cs, x, hok, h => by
    simp only [Sh.ok] at hok
    split at hok
    case h_2 => cases hok
    rename_i hu
    obtain ⟨n, rfl, -⟩ := DataW.trod_bool hu h
    refine ⟨[B n], ⟨n, rfl⟩, RepL_uno.2 ?_, rfl, rfl⟩
    simp [RepC, V.flat]
  | .str, t, fuel, cs, x, hok, h => by
    simp only [Sh.ok] at hok
    split at hok
    case h_2 => cases hok
    rename_i hu
    obtain ⟨s, rfl, -, hw⟩ := DataW.trod_string hu h
    refine ⟨[T s], ⟨s, rfl, hw⟩, RepL_uno.2 ?_, rfl, rfl⟩
    simp [RepC, V.flat]
  | .sl e, t, fuel, cs, x, hok, h => by
    simp only [Sh.ok] at hok
    split at hok
    case h_2 => cases hok
    rename_i u hu
    simp only [Bool.and_eq_true, decide_eq_true_eq] at hok
    obtain ⟨⟨hok, hz⟩, hpos⟩ := hok
    rcases DataW.trod_slice hu h with ⟨rfl, -⟩ | ⟨a, len, cap, elems, rest, n, rfl, rfl, -, -, hle, hcap, hlen, hel, -⟩
    · refine ⟨[.arr e.size []], ⟨[], rfl, by simp, by simp⟩, RepL_uno.2 ?_, rfl, rfl⟩
      rw [RepC]
      exact ⟨none, 0, [], rfl, Nat.le_refl _, RepL_nil.2 rfl, by simp, by simp⟩
    · have key : ∀ k, k ≤ len → ∃ ds us, ds.length = k ∧ us.length = k * e.size ∧ RepL W (· < W.heap.size) ds us ∧ (∀ d ∈ ds, d.width = e.size) ∧ (∀ d ∈ ds, ∃ m, e.Is m ∧ d = wrap e.isSt m) ∧ ∀ i v, us[i]? = some v → W.cell? (a.add i) = some v := by
        intro k
        induction k with
        | zero => exact fun _ => ⟨[], [], rfl, by simp, RepL_nil.2 rfl, by simp, by simp, by simp⟩
        | succ k ih =>
          intro hk
          obtain ⟨ds, us, h1, h2, h3, h4, h5, h6⟩ := ih (by omega)
          have hi := hel k (by omega)
          rw [List.getElem?_eq_getElem (by omega)] at hi
          obtain ⟨vs, hc, hd⟩ := Option.bind_eq_some_iff.1 hi
          obtain ⟨L, g1, g2, g3, g4⟩ := Sh.opened e u n vs _ hok hd
          obtain ⟨g5, g6⟩ := cells_is hc
          obtain ⟨g7, g8⟩ := RepC_wrap g2 g3 g4
          rw [hz] at g5 g6
          refine ⟨ds ++ [wrap e.isSt L], us ++ vs, by simp [h1], by simp [h2, g5, Nat.succ_mul], (RepL_append _ _ _).2 ⟨us, vs, rfl, h3, RepL_uno.2 g7⟩, ?_, ?_, fun i v hv => ?_⟩
          · intro d hd
            rcases List.mem_append.1 hd with hd | hd
            · exact h4 d hd
            · simp at hd; subst hd; exact g8
          · intro d hd
            rcases List.mem_append.1 hd with hd | hd
            · exact h5 d hd
            · simp at hd; subst hd; exact ⟨L, g1, rfl⟩
          · rcases Nat.lt_or_ge i us.length with hlt | hge
            · rw [List.getElem?_append_left hlt] at hv
              exact h6 i v hv
            · rw [List.getElem?_append_right hge] at hv
              have := g6 _ v hv
              rw [add_add, ← h2] at this
              rw [show us.length + (i - us.length) = i from by omega] at this
              exact this
      obtain ⟨ds, us, h1, h2, h3, h4, h5, h6⟩ := key len (Nat.le_refl _)
      refine ⟨[.arr e.size ds], ⟨ds, rfl, by omega, h5⟩, RepL_uno.2 ?_, rfl, rfl⟩
      rw [RepC]
      refine ⟨some a, cap, us, by rw [h1], by omega, h3, h4, fun hne => ?_⟩
      have hpl : 0 < us.length := by
        rw [h2, ← h1]
        exact Nat.mul_pos (List.length_pos_iff.2 hne) hpos
      have h0 := h6 0 _ (List.getElem?_eq_getElem hpl)
      have ha0 : a.add 0 = a := by simp [Addr.add]
      rw [ha0] at h0
      obtain ⟨hsp, hbl⟩ := cell_spot h0
      have ea : a = ⟨a.block, a.off, none⟩ := by
        rw [← hsp]
      refine ⟨a.block, a.off, by rw [← ea], hbl, fun i v hv => ?_⟩
      have := h6 i v hv
      unfold Addr.add at this
      split at this
      · rename_i hi0
        subst hi0
        rw [Nat.add_zero, ← ea]
        exact this
      · rw [← hsp]
        rw [hsp]
        exact this
  | .st l, t, fuel, cs, x, hok, h => by
    simp only [Sh.ok] at hok
    split at hok
    case h_2 => cases hok
    rename_i fs hu
    simp only [Bool.and_eq_true, decide_eq_true_eq] at hok
    obtain ⟨xs, n, rfl, -, hlen, hxl, hf⟩ := DataW.trod_struct hu h
    obtain ⟨L, g1, g2, g3, g4⟩ := ShL.opened l 0 fs.toList n cs hok.1 (fun f hf' => by
      obtain ⟨i, hi, he⟩ := List.mem_iff_getElem.1 hf'
      have := hf i f (by rw [← he]; simp at hi ⊢)
      rw [List.getElem?_eq_getElem (by simp at hi; omega)] at this
      exact ⟨_, this⟩)
    rw [List.drop_zero, ← hok.2, ← hlen, List.take_length] at g2
    exact ⟨L, g1, g2, g3, g4⟩
theorem ShL.opened : ∀ (l : ShL) (off : Nat) (fs : List Field) (fuel : Nat) (cs : List Value), l.ok P off fs = true → (∀ f ∈ fs, ∃ x, DataW.trod enc P W 0 (fun _ => true) true fuel f.type ((cs.drop f.offset).take (P.cellsOf f.type)) = some x) →
    ∃ L, l.Is L ∧ RepL W (· < W.heap.size) L ((cs.drop off).take l.size) ∧ L.all D.single = true ∧ L.length = l.size
  | .nil, off, [], fuel, cs, hok, h => ⟨[], rfl, by simp [ShL.size, RepL_nil], rfl, rfl⟩
  | .nil, off, _ :: _, fuel, cs, hok, h => by simp [ShL.ok] at hok
  | .cons a t, off, [], fuel, cs, hok, h => by simp [ShL.ok] at hok
  | .cons a t, off, f :: fs, fuel, cs, hok, h => by
    simp only [ShL.ok, Bool.and_eq_true, decide_eq_true_eq] at hok
    obtain ⟨⟨⟨h1, h2⟩, h3⟩, h4⟩ := hok
    obtain ⟨x, hx⟩ := h f (by simp)
    obtain ⟨L, g1, g2, g3, g4⟩ := Sh.opened a f.type fuel _ x h2 hx
    obtain ⟨M, k1, k2, k3, k4⟩ := ShL.opened t (off + a.size) fs fuel cs h4 (fun f hf => h f (by simp [hf]))
    refine ⟨L ++ M, ⟨L, M, rfl, g1, k1⟩, (RepL_append _ _ _).2 ⟨_, _, ?_, g2, k2⟩, by simp [g3, k3], by simp [ShL.size, g4, k4]⟩
    rw [h1, h3, ShL.size, ← List.drop_drop, ← List.take_add]
end

def isVs : D → Bool
  | .v _ => true
  | _ => false
theorem isV_agg {L : List D} (h : L.all isVs = true) : (D.agg L).isV = true := by
  simp only [D.isV]
  refine List.all_eq_true.2 fun d hd => ?_
  have := List.all_eq_true.1 h d hd
  cases d <;> simp_all [isVs]
mutual
theorem Sh.isV_of : ∀ (sh : Sh) (L : List D), sh.flat = true → sh.Is L → L.all isVs = true
  | .int k, L, _, h => by obtain ⟨n, rfl, _⟩ := h; rfl
  | .bool, L, _, h => by obtain ⟨n, rfl⟩ := h; rfl
  | .str, L, _, h => by obtain ⟨n, rfl, _⟩ := h; rfl
  | .sl _, L, h, _ => by simp [Sh.flat] at h
  | .st l, L, h, hl => ShL.isV_of l L (by simpa [Sh.flat] using h) hl
theorem ShL.isV_of : ∀ (sh : ShL) (L : List D), sh.flat = true → sh.Is L → L.all isVs = true
  | .nil, L, _, h => by cases h; rfl
  | .cons a t, L, h, hl => by
    obtain ⟨x, y, rfl, h1, h2⟩ := hl
    simp only [ShL.flat, Bool.and_eq_true] at h
    rw [List.all_append, Sh.isV_of a x h.1 h1, ShL.isV_of t y h.2 h2]
    rfl
end

/-- A whole argument. -/
def Sh.IsV (sh : Sh) (d : D) : Prop := ∃ m, sh.Is m ∧ d = wrap sh.isSt m

theorem Sh.arg {sh : Sh} {t : TypeId} {v : Value} {d : DataW H} {ps : List MemPlace} {base : Nat} (hok : sh.ok P t = true) (hv : Value.okWide P W .any base t v) (h : DataW.Trod enc P W 0 (fun _ => true) true t v d ps) :
    ∃ x, sh.IsV x ∧ RepV W (· < W.heap.size) x v ∧ (sh.flat = true → x.isV = true) := by
  obtain ⟨fuel, h⟩ := h
  obtain ⟨L, h1, h2, h3, h4⟩ := Sh.opened sh t fuel _ _ hok h
  refine ⟨_, ⟨L, h1, rfl⟩, ?_, fun hf => ?_⟩
  · cases hb : sh.isSt
    · have h1' := Sh.len_one hb
      have hone : v.cells.toList = [v] := by
        cases sh <;> simp only [Sh.isSt, Bool.true_eq_false] at hb <;> simp only [Sh.ok] at hok <;> split at hok <;> rename_i hu
        · obtain ⟨n, rfl⟩ := okWide_int hu hv; rfl
        · cases hok
        · obtain ⟨n, rfl⟩ := okWide_bool hu hv; rfl
        · cases hok
        · obtain ⟨n, rfl⟩ := okWide_string hu hv; rfl
        · cases hok
        · obtain ⟨_, _, _, rfl⟩ := okWide_slice hu hv; rfl
        · cases hok
      match L, h4.trans h1' with
      | [e], _ =>
        simp only [wrap, Bool.false_eq_true, if_false, nth]
        have hs : e.single = true := by simpa using h3
        rw [hone] at h2
        exact (RepV_single hs).2 (RepL_uno.1 h2)
    · simp only [wrap, if_true]
      have : ∃ cs, v = .agg cs := by
        cases sh <;> simp only [Sh.isSt, Bool.false_eq_true] at hb
        simp only [Sh.ok] at hok
        split at hok
        case h_2 => cases hok
        rename_i hu
        simp only [Value.okWide, hu] at hv
        obtain ⟨cs, h, _⟩ := hv
        exact ⟨cs, h⟩
      obtain ⟨cs, rfl⟩ := this
      refine ⟨cs.toList, by simp, ?_⟩
      rw [RepC]
      exact ⟨by simpa [Value.cells] using h2, h3⟩
  · have := Sh.isV_of sh L hf h1
    cases hb : sh.isSt
    · match L, h4.trans (Sh.len_one hb) with
      | [e], _ =>
        simp only [wrap, Bool.false_eq_true, if_false, nth]
        cases e <;> simp [isVs] at this
        rfl
    · simp only [wrap, if_true]
      exact isV_agg this

theorem int_is {k : IntKind} {x : D} (h : (Sh.int k).IsV x) : ∃ n, x = .v (.int k n) ∧ k.min ≤ n ∧ n ≤ k.max := by
  obtain ⟨_, ⟨n, rfl, h⟩, rfl⟩ := h
  exact ⟨n, rfl, h⟩
theorem bool_is {x : D} (h : Sh.bool.IsV x) : ∃ b, x = B b := by
  obtain ⟨_, ⟨n, rfl⟩, rfl⟩ := h
  exact ⟨n, rfl⟩
theorem str_is {x : D} (h : Sh.str.IsV x) : ∃ s, x = T s ∧ s.size ≤ maxLen := by
  obtain ⟨_, ⟨n, rfl, h⟩, rfl⟩ := h
  exact ⟨n, rfl, h⟩
theorem sl_is {e : Sh} {x : D} (h : (Sh.sl e).IsV x) : ∃ ds, x = .arr e.size ds ∧ ds.length ≤ maxLen ∧ ∀ d ∈ ds, e.IsV d := by
  obtain ⟨_, ⟨n, rfl, h, h'⟩, rfl⟩ := h
  exact ⟨n, rfl, h, h'⟩
/-- A slice whose elements are all of a form. -/
theorem sl_map {α : Type} {e : Sh} {f : α → D} (hf : ∀ d, e.IsV d → ∃ a, d = f a) {x : D} (h : (Sh.sl e).IsV x) : ∃ l : List α, x = .arr e.size (l.map f) ∧ l.length ≤ maxLen := by
  obtain ⟨ds, rfl, h1, h2⟩ := sl_is h
  have : ∃ l : List α, ds = l.map f := by
    clear h1 h
    induction ds with
    | nil => exact ⟨[], rfl⟩
    | cons d ds ih =>
      obtain ⟨a, rfl⟩ := hf d (h2 d (by simp))
      obtain ⟨l, rfl⟩ := ih (fun d hd => h2 d (by simp [hd]))
      exact ⟨a :: l, rfl⟩
  obtain ⟨l, rfl⟩ := this
  exact ⟨l, rfl, by simpa using h1⟩

def okShs (P : Program) : List Sh → List TypeId → List Kd → Bool
  | [], [], [] => true
  | sh :: shs, t :: ts, .dat lv :: ks => sh.ok P t && (Nat.beq lv 2 || (Nat.beq lv 0 && sh.flat)) && okShs P shs ts ks
  | _, _, _ => false
def IsShs : List Sh → List D → Prop
  | [], [] => True
  | sh :: shs, d :: ds => sh.IsV d ∧ IsShs shs ds
  | _, _ => False

theorem shs_one {a : Sh} {ds : List D} (h : IsShs [a] ds) : ∃ x, ds = [x] ∧ a.IsV x := by
  match ds, h with
  | [x], ⟨h1, _⟩ => exact ⟨x, rfl, h1⟩
theorem shs_two {a b : Sh} {ds : List D} (h : IsShs [a, b] ds) : ∃ x y, ds = [x, y] ∧ a.IsV x ∧ b.IsV y := by
  match ds, h with
  | [x, y], ⟨h1, h2, _⟩ => exact ⟨x, y, rfl, h1, h2⟩
theorem shs_three {a b c : Sh} {ds : List D} (h : IsShs [a, b, c] ds) : ∃ x y z, ds = [x, y, z] ∧ a.IsV x ∧ b.IsV y ∧ c.IsV z := by
  match ds, h with
  | [x, y, z], ⟨h1, h2, h3, _⟩ => exact ⟨x, y, z, rfl, h1, h2, h3⟩

theorem args_of {base : Nat} : ∀ (shs : List Sh) (ts : List TypeId) (ks : List Kd) (vs : List Value) (ds : List (DataW H)) (ps : List MemPlace) (i : Nat), okShs P shs ts ks = true → DataW.TrodAll enc P W 0 (fun _ => true) true ts vs ds ps →
    (∀ (j : Nat) t v, ts[j]? = some t → vs[j]? = some v → Value.okWide P W .any base t v) → ∃ xs, IsShs shs xs ∧ ArgsOk W (· < W.heap.size) (fun _ => none) i ks xs vs
  | [], [], [], [], _, _, _, _, _, _ => ⟨[], trivial, trivial⟩
  | [], [], [], _ :: _, [], _, _, _, h, _ => h.elim
  | [], [], [], _ :: _, _ :: _, _, _, _, h, _ => h.elim
  | sh :: shs, t :: ts, k :: ks, [], [], _, _, _, h, _ => h.elim
  | sh :: shs, t :: ts, k :: ks, [], _ :: _, _, _, _, h, _ => h.elim
  | sh :: shs, t :: ts, k :: ks, _ :: _, [], _, _, _, h, _ => h.elim
  | sh :: shs, t :: ts, k :: ks, v :: vs, d :: ds, ps, i, hok, h, hv => by
    cases k <;> simp only [okShs, Bool.false_eq_true] at hok
    rename_i lv
    simp only [Bool.and_eq_true, Bool.or_eq_true] at hok
    obtain ⟨⟨hok1, hlv⟩, hok2⟩ := hok
    obtain ⟨p, q, h1, h2, rfl⟩ := h
    obtain ⟨x, g1, g2, g3⟩ := Sh.arg hok1 (hv 0 t v rfl rfl) h1
    obtain ⟨xs, k1, k2⟩ := args_of shs ts ks vs ds q (i + 1) hok2 h2 (fun j t v ht hv' => hv (j + 1) t v ht hv')
    refine ⟨x :: xs, ⟨g1, k1⟩, .inr ?_, k2⟩
    rcases hlv with h' | ⟨h', hf⟩
    · rw [beq_iff] at h'
      subst h'
      exact g2
    · exact RepV_isV (g3 hf) g2
  | [], [], _ :: _, _, _, _, _, hok, _, _ => by simp [okShs] at hok
  | [], _ :: _, _, _, _, _, _, hok, _, _ => by simp [okShs] at hok
  | _ :: _, [], _, _, _, _, _, hok, _, _ => by simp [okShs] at hok
  | _ :: _, _ :: _, [], _, _, _, _, hok, _, _ => by simp [okShs] at hok

theorem trodAll_below {W' : World} (hl : laidOutB P = true) : ∀ (ts : List TypeId) (vs : List Value) (ds : List (DataW H)) (ps : List MemPlace), (ts.all fun t => P.readableRec t && decide (t < P.types.size)) = true →
    DataW.TrodAll enc P W 0 (fun _ => true) true ts vs ds ps → Below W.heap.size W W' → (∀ x ∈ ps, x.block < W.heap.size) → ∀ sp : Nat → Bool, (∀ x ∈ ps, sp x.block = true) → DataW.TrodAll enc P W' 0 sp true ts vs ds ps
  | [], [], [], _, _, h, _, _, _, _ => h
  | [], _ :: _, [], _, _, h, _, _, _, _ => h.elim
  | [], [], _ :: _, _, _, h, _, _, _, _ => h.elim
  | [], _ :: _, _ :: _, _, _, h, _, _, _, _ => h.elim
  | _ :: _, [], [], _, _, h, _, _, _, _ => h.elim
  | _ :: _, [], _ :: _, _, _, h, _, _, _, _ => h.elim
  | _ :: _, _ :: _, [], _, _, h, _, _, _, _ => h.elim
  | t :: ts, v :: vs, d :: ds, ps, hr, h, hb, hlt, sp, hsp => by
    obtain ⟨p, q, h1, h2, rfl⟩ := h
    simp only [List.all_cons, Bool.and_eq_true, decide_eq_true_eq] at hr
    refine ⟨p, q, ?_, trodAll_below hl ts vs ds q hr.2 h2 hb (fun x hx => hlt x (by simp [hx])) sp (fun x hx => hsp x (by simp [hx])), rfl⟩
    exact WideElems.Trod_stays hl hr.1.1 hr.1.2 h1 (fun x hx => hb.same (hlt x (by simp [hx]))) (fun x hx => hsp x (by simp [hx]))
end

section
variable {H : Type} {enc : TypeId × Value → H} {P : Program}
theorem post_of_below {f : Func} {s : ChangeSpec} {apart fresh handsOn again : Bool} {W W' : World} {args : Array Value} {v : Value} {ds gs : List (DataW H)} {before pa pv : List MemPlace}
    (hW : DataW.Whole enc P f.params.toList s.vars apart W args.toList ds gs before)
    (hres : ∀ (b : Nat) (sp : Nat → Bool) (hd : Bool), DataW.TrodAll enc P W' b sp hd f.resultTypes.toList (v.resultList f.resultTypes.size) (s.fn H (ds ++ gs)).results [])
    (hargs : ∀ sp : Nat → Bool, (∀ p ∈ before, sp p.block = true) → DataW.TrodAll enc P W' 0 sp true f.params.toList args.toList (s.fn H (ds ++ gs)).args pa)
    (hvars : ∀ sp : Nat → Bool, (∀ p ∈ before, sp p.block = true) → DataW.TrodVars enc P W' sp s.vars (s.fn H (ds ++ gs)).vars pv)
    (hps : before = pa ++ pv) (hb : Below W.heap.size W W')
    (hok : ∀ (j : Nat) (t : TypeId) (r : Value), f.resultTypes[j]? = some t → (v.resultList f.resultTypes.size)[j]? = some r → Value.okWide P W' .any 0 t r) :
    s.post enc P f apart fresh handsOn again W args v W' := by
  have hlt : ∀ p ∈ before, p.block < W.heap.size := fun p hp => hW.lt p hp
  have hold : ∀ p ∈ before, (fun b => decide (b < W.heap.size)) p.block = true := fun p hp => by simpa using hlt p hp
  refine ⟨ds, gs, before, [], pa, pv, hW, hres _ _ _, hargs _ hold, hvars _ hold, World.keptBut_mono (fun p hp => ⟨hp, ?_⟩) (hb.frame (· ∈ before)), fun _ => ?_⟩
  · rw [hps, List.mem_append] at hp
    exact Or.inr hp
  · obtain ⟨_, _, _, _, _, hz, hn⟩ := hW
    refine ⟨hok, _, _, ([] ++ pa) ++ pv, ⟨[] ++ pa, pv, trodAll_append (hargs _ (fun _ _ => rfl)) (hres _ _ _), hvars _ (fun _ _ => rfl), rfl, ?_, ?_⟩, ?_⟩
    · intro b off hp
      have hin : MemPlace.cell b off ∈ before := by rw [hps]; simpa using hp
      rw [hb.frozen (hlt _ hin)]
      exact hz b off hin
    · intro ha
      have := hn ha
      rw [hps] at this
      simpa using this
    · intro p hp _
      rw [hps]
      simpa using hp

theorem calls_of_meets {G : List (Nat × (Obj → Prop))} {f : FuncId} {S : FS} (hm : Meets G P f S) {fn : Func} (hf : P.funcs[f]? = some fn) (hname : (fn.name == "runtime.NumGoroutine") = false) (hb : fn.body.isSome = true) {ds rs us : List D} (hd : S.f ds = some (.ret rs us)) {args : Array Value} {w : World} {F : Nat → Prop} {ow : Nat → Option Nat}
    (hgl : gOk G w F) (ha : ArgsOk w F ow 0 S.pm ds args.toList) (hF : ∀ b, F b → b < w.heap.size ∧ ow b = none) (hO : ∀ b i, ow b = some i → b < w.heap.size) :
    Calls P f args w fun e w' => ∃ v, e = .returned v ∧ ∃ F' R vs, v = resV vs ∧ CallPost S args rs us w F ow F' R vs w' := by
  obtain ⟨b, hb⟩ := Option.isSome_iff_exists.1 hb
  have h1 : ¬ fn.name = "runtime.NumGoroutine" := by simpa using hname
  have hrun : (callFunc f args).run P w = .ok (.enter f args) w := by simp [callFunc, hf, h1, hb]
  have h2 := hm ds rs us hd args w F ow hgl ha hF hO { (default : Oper) with dst := some 0 } { tmps := #[undef], defers := [] } (fun a w' => ∃ F' R vs, a.tmps.getD 0 undef = resV vs ∧ CallPost S args rs us w F ow F' R vs w') (fun _ _ _ => False) (fun v w' h => by
    obtain ⟨F', R, vs, rfl, h⟩ := h
    exact ⟨F', R, vs, by simp [Act.put], h⟩)
  rw [hrun, Oper.upon_enter] at h2
  refine Calls.mono h2 fun e w' he => ?_
  cases e with
  | returned v =>
    obtain ⟨F', R, vs, h3, h4⟩ := he
    exact ⟨v, rfl, F', R, vs, by simpa [Act.put] using h3, h4⟩
  | panicked c => exact he.elim
  | outgrown => obtain ⟨_, _, h⟩ := he; exact h.elim

/-- A law's row: true whatever is given, and nothing of what was there is changed. -/
theorem law_post {G : List (Nat × (Obj → Prop))} {f : FuncId} {S : FS} (hm : Meets G P f S) {fn : Func} (hf : P.funcs[f]? = some fn) (hname : (fn.name == "runtime.NumGoroutine") = false) (hbd : fn.body.isSome = true) (shs : List Sh) {rt : TypeId}
    (hl : laidOutB P = true) (hsh : okShs P shs fn.params.toList S.pm = true) (hrd : (fn.params.toList.all fun t => P.readableRec t && decide (t < P.types.size)) = true)
    (hrm : S.rm = [.dat 0]) (hrt : fn.resultTypes = #[rt]) (hbool : P.underlying rt = some .bool)
    (hd : ∀ ds, IsShs shs ds → S.f ds = some (.ret [B true] [])) {s : ChangeSpec} (hvars : s.vars = [])
    (hs : ∀ ds : List (DataW H), ds.length = fn.params.size → s.fn H (ds ++ []) = { results := [.lit (.bool true)], args := ds })
    {W : World} {base : Nat} {args : Array Value} {ds gs : List (DataW H)} {before : List MemPlace}
    (hval : ∀ (j : Nat) t v, fn.params[j]? = some t → args[j]? = some v → Value.okWide P W .any base t v) (hW : DataW.Whole enc P fn.params.toList s.vars false W args.toList ds gs before) (hgl : gOk G W fun b => b < W.heap.size) {fresh handsOn again : Bool} :
    Calls P f args W fun e W' => ∃ v, e = .returned v ∧ s.post enc P fn false fresh handsOn again W args v W' := by
  have hW' := hW
  have hlt : ∀ p ∈ before, p.block < W.heap.size := fun p hp => hW.lt p hp
  obtain ⟨p, q, hA, hV, rfl, hfz, hnd⟩ := hW
  rw [hvars] at hV
  have hgs : gs = [] ∧ q = [] := by
    cases gs with
    | nil => exact ⟨rfl, hV⟩
    | cons _ _ => exact hV.elim
  obtain ⟨rfl, rfl⟩ := hgs
  obtain ⟨xs, h1, h2⟩ := args_of (base := base) shs fn.params.toList S.pm args.toList ds p 0 hsh hA (fun j t v ht hv => hval j t v (by simpa using ht) (by simpa using hv))
  refine Calls.mono (calls_of_meets hm hf hname hbd (hd xs h1) hgl h2 (fun b hb => ⟨hb, rfl⟩) (fun b i hi => by cases hi)) fun e W' he => ?_
  obtain ⟨v, rfl, F', R, vs, rfl, hp⟩ := he
  refine ⟨_, rfl, ?_⟩
  have hlen : ds.length = fn.params.size := by
    have : ∀ (ts : List TypeId) (vs : List Value) (ds : List (DataW H)) (ps : List MemPlace), DataW.TrodAll enc P W 0 (fun _ => true) true ts vs ds ps → ds.length = ts.length := by
      intro ts
      induction ts with
      | nil =>
        intro vs ds ps h
        cases ds with
        | nil => rfl
        | cons _ _ => cases vs <;> exact h.elim
      | cons t ts ih =>
        intro vs ds ps h
        cases vs with
        | nil => exact h.elim
        | cons v vs =>
          cases ds with
          | nil => exact h.elim
          | cons d ds =>
            obtain ⟨_, _, _, h2, _⟩ := h
            simp [ih _ _ _ h2]
    simpa using this _ _ _ _ hA
  have hB : Below W.heap.size W W' := ⟨hp.os, hp.tape, hp.output, hp.size, fun b hb => hp.keep b hb rfl⟩
  have hres : resV vs = .bool true := by
    have hl1 := hp.len
    rw [hrm] at hl1
    match vs, hl1 with
    | [y], _ =>
      have h0 := hp.res 0
      rw [hrm] at h0
      simp only [nthK, nth, List.getD_cons_zero] at h0
      rcases h0 with h0 | h0
      · cases h0
      · exact (RepV_v.1 h0).1
  rw [hres]
  have hsd := hs ds hlen
  refine post_of_below (pa := p) (pv := []) hW' (fun b sp hd' => ?_) (fun sp hsp => ?_) (fun sp _ => ?_) rfl hB ?_
  · rw [hsd, hrt]
    exact trodAll_mk1 (shut_bool hbool true)
  · rw [hsd]
    exact trodAll_below hl _ _ _ _ hrd hA hB (fun x hx => hlt x (by simp [hx])) sp (fun x hx => hsp x (by simp [hx]))
  · rw [hsd, hvars]
    rfl
  · exact ok_one hrt rfl (okWide_bool_mk hbool true)
end

end Go.V
