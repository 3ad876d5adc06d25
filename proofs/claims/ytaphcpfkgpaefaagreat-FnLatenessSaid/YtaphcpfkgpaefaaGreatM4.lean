/-
  Code keeps the invariant.
-/
import Derived.Test.YtaphcpfkgpaefaaGreatRows
import Derived.Test.YtaphcpfkgpaefaaGreatM3
import Derived.ProofKit
import Derived.ChangeArms
import Derived.Below
namespace Go.V
open Go.RowKit

def apartL (x y : List Nat) : Bool := x.all fun s => !memN s y
/-- Two operations that may change places. -/
def indep0 (c : Cx) (ops : List Oper) (x y : Oper) : Bool := apartL (rdS c ops x) (wrS c y) && apartL (wrS c x) (rdS c ops y) && apartL (wrS c x) (wrS c y)
/-- A copy of an owner beside a store into what is owned. -/
def lvPair (c : Cx) (x y : Oper) : Bool :=
  match x.guard, y.guard, x.op, x.dst, y.op, y.dst with
  | none, none, .move (.tmp t), some d, .store _ (.tmp q) (.tmp s), none =>
    (match nthK c.K t, nthK c.K d, nthK c.K q, nthK c.K s with
      | .own _ _ _, .via r, .ref r', .dat _ => Nat.beq r t && Nat.beq r' t && !Nat.beq q t && apartL (d :: deps d c.K 0) [q, t, s]
      | _, _, _, _ => false)
  | _, _, _, _, _, _ => false
/-- A call that writes what a box holds, and behind it (in the text) a copy of the box's pointer. -/
def mvCall (c : Cx) (x y : Oper) : Bool :=
  match x.guard, y.guard, x.op, y.op, y.dst with
  | none, none, .call q, .move (.tmp t), some d =>
    (match nthK c.K t, nthK c.K d, q.callee with
      | .box _ _ _, .ref r', .value (.func f) => (match look c.S f with
        | some S => (match agsOf c.K q.args.toList S.pm with
          | some ags => Nat.beq r' t && memN t (agIo ags)
          | none => false)
        | none => false)
      | _, _, _ => false)
  | _, _, _, _, _ => false
def mvPair (c : Cx) (ops : List Oper) (x y : Oper) : Bool := mvCall c x y && apartL (rdS c ops x) (wrS c y) && apartL (wrS c x) (wrS c y)
def indep (c : Cx) (ops : List Oper) (x y : Oper) : Bool := indep0 c ops x y || lvPair c x y || lvPair c y x || mvPair c ops x y
/-- Is operation j behind o by a chain of edges? -/
def bef (ops : List Oper) (j : Nat) : Nat → Oper → Bool
  | 0, _ => false
  | n + 1, o => o.after.toList.any fun e => Region.binds .any e && (Nat.beq e.on j || match nthO ops e.on with
    | some q => bef ops j n q
    | none => false)
/-- May the operations of a region be taken in any order that their edges allow? -/
def okAny (c : Cx) (ops : List Oper) : Bool :=
  ops.zipIdx.all fun p => (p.1.after.toList.all fun e => !Region.binds .any e || decide (e.on < p.2)) && (ops.take p.2).zipIdx.all fun q => indep c ops q.1 p.1 || bef ops q.2 3 p.1

/-- Slots that are kept round a loop: a copy or a place only with its owner. -/
def okLive (K : List Kd) (hl : List Nat) : Bool :=
  hl.all fun s => match nthK K s with
    | .via r => memN r hl
    | .ref r => memN r hl
    | _ => true

def okCode (c : Cx) : Nat → Code → Bool
  | _, .skip => true
  | _, .region _ ops d => ops.toList.all (okOp c ops.toList) && (!d || okAny c ops.toList)
  | b, .seq x y => okCode c b x && okCode c b y
  | b, .cond x t e => Nat.ble (lvOf c.K x) 2 && okCode c b t && okCode c b e
  | _, .block id x => okCode c id x
  | b, .loop x => okCode c b x && (match look c.H b with
    | some (hl, xl) => okLive c.K hl && okLive c.K xl
    | none => false)
  | _, .exit _ => true
  | _, .ret => true
  | _, _ => false

section
variable {P : Program} {c : Cx} {B : Nat} {X : Nat → Prop} {w0 : World} {F0 F : Nat → Prop} {O : Nat → Option (Nat × Nat)} {a : Act} {w : World} {δ : List D}

/-- What is known where a piece of code ends. -/
def retK (c : Cx) (δ : List D) (k : Out → Option Out) : Option Out := resC c δ c.res fun rs => getC δ c.ios fun us => usK us (k (.ret rs us))
def Post (c : Cx) (B : Nat) (X : Nat → Prop) (w0 : World) (F0 : Nat → Prop) (V : Nat → Value) (k : Out → Option Out) (r : Out) : Exit → Act → World → Prop
  | .normal, a, w => NextV c B X w0 F0 V (fun δ => k (.nrm δ)) r a w
  | .exit id, a, w => NextV c B X w0 F0 V (fun δ => k (.ext id δ)) r a w
  | .ret, a, w => NextV c B X w0 F0 V (fun δ => retK c δ k) r a w
  | _, _, _ => False

theorem apartL_ok {x y : List Nat} (h : apartL x y = true) : ∀ s ∈ x, s ∉ y := by
  intro s hs
  unfold apartL at h
  rw [List.all_eq_true] at h
  simpa [memN_eq] using h s hs

theorem nth_ext {δ δ' : List D} (h : δ.length = δ'.length) (hn : ∀ s, nth δ s = nth δ' s) : δ = δ' := by
  refine List.ext_getElem h fun i h1 h2 => ?_
  have := hn i
  rw [nth_eq, nth_eq, List.getD_eq_getElem?_getD, List.getD_eq_getElem?_getD, List.getElem?_eq_getElem h1, List.getElem?_eq_getElem h2] at this
  exact this

theorem setMany_same : ∀ (ss : List Nat) (l δ δ' : List D), δ.length = δ'.length → ∀ s ∈ ss, nth (setMany δ ss l) s = nth (setMany δ' ss l) s
  | t :: ss, l, δ, δ', hl, s, hs => by
    cases l with
    | nil => rw [nth_kill _ _ _ hs, nth_kill _ _ _ hs]
    | cons d l =>
      simp only [setMany]
      by_cases hm : s ∈ ss
      · exact setMany_same ss l _ _ (by rw [len_setAt, len_setAt, hl]) s hm
      · have : s = t := by simpa [hm] using hs
        subst this
        rw [nth_setMany_notin _ _ _ _ hm, nth_setMany_notin _ _ _ _ hm, nth_setAt_eq, nth_setAt_eq, hl]

theorem setMany_swap {A C : List Nat} {l m δ : List D} (h : ∀ s ∈ A, s ∉ C) : setMany (setMany δ A l) C m = setMany (setMany δ C m) A l := by
  refine nth_ext (by simp only [len_setMany]) fun s => ?_
  by_cases hA : s ∈ A
  · rw [nth_setMany_notin _ _ _ _ (h s hA)]
    exact setMany_same A l _ _ (by rw [len_setMany]) s hA
  · by_cases hC : s ∈ C
    · rw [nth_setMany_notin A _ _ _ hA]
      exact (setMany_same C m _ _ (by rw [len_setMany]) s hC)
    · rw [nth_setMany_notin _ _ _ _ hC, nth_setMany_notin _ _ _ _ hA, nth_setMany_notin _ _ _ _ hA, nth_setMany_notin _ _ _ _ hC]

theorem stD_live {n : Nat} {o p x z : D} (h : stD n o p x = some z) : o ≠ .bad ∧ z ≠ .bad := by
  unfold stD at h
  split at h
  · split at h
    · split at h
      · cases h; exact ⟨by simp, by simp⟩
      · cases h
    · cases h
  · split at h
    · cases h; exact ⟨by simp, by simp⟩
    · cases h
  · cases h
theorem stK_live (chk : Bool) (n : Nat) (b p y : D) : ∃ E : Option D, (∀ k : D → Option Out, stK chk n b p y k = E.bind k) ∧ ∀ z, E = some z → b ≠ .bad ∧ z ≠ .bad := by
  cases chk
  · exact ⟨stD n b p y, fun _ => rfl, fun z hz => stD_live hz⟩
  · refine ⟨(chkV y).bind fun y => stD n b p y, fun k => by simp only [stK, Option.bind_assoc], fun z hz => ?_⟩
    obtain ⟨y', _, h⟩ := Option.bind_eq_some_iff.1 hz
    exact stD_live h
theorem lv_swap {ops : List Oper} {x y : Oper} (h : lvPair c x y = true) (δ : List D) (k : List D → Option Out) : stepK c ops x δ (fun δ => stepK c ops y δ k) = stepK c ops y δ (fun δ => stepK c ops x δ k) := by
  unfold lvPair at h
  split at h
  case h_2 => cases h
  rename_i t d ty q s hxg hyg hxo hxd hyo hyd
  split at h
  case h_2 => cases h
  rename_i z lv io r0 r lv' hkt hkd hkq hks
  simp only [Bool.and_eq_true, Bool.not_eq_true'] at h
  obtain ⟨⟨⟨h1, h2⟩, h3⟩, h4⟩ := h
  have e1 := beq_iff.1 h1
  have e2 := beq_iff.1 h2
  subst e1
  subst e2
  have hx : ∀ (δ : List D) (k : List D → Option Out), stepK c ops x δ k = (liveD (nth δ r) (.ref 0 0)).bind fun z => k (setMany δ (d :: deps d c.K 0) [z]) := by
    intro δ k
    have hA : actOf c x = some (.one [r] d fun is => (arg1 fun x => liveD x (.ref 0 0)) is) := by
      simp only [actOf, hxo, hxd, mvOf, hkt, hkd, Nat.beq_refl]
    simp only [stepK, hA, hxg]
    rw [getC_eq]
    show (liveD (nth δ r) (.ref 0 0)).bind (fun z => setManyC δ (d :: deps d c.K 0) [z] k) = _
    exact congrArg _ (funext fun z => setManyC_eq _ _ _ _)
  have hy : ∃ E : D → D → D → Option D, (∀ (δ : List D) (k : List D → Option Out), stepK c ops y δ k = (E (nth δ r) (nth δ q) (nth δ s)).bind fun b => k (setMany δ [r] [b])) ∧ ∀ a b e z, E a b e = some z → a ≠ .bad ∧ z ≠ .bad := by
    cases hT : look c.T ty with
    | none =>
      refine ⟨fun _ _ _ => none, fun δ k => ?_, fun _ _ _ _ h => by cases h⟩
      have hA : actOf c y = none := by simp only [actOf, hyo, hyd, withT, hT]
      simp only [stepK, hA]
      rfl
    | some i =>
      have act : ∀ chk : Bool, actOf c y = some (.many [q, r, s] [] [r] fun is k => goP q r is fun b p is => nthC is 0 fun y => stK chk i.n b p y fun b => k [b]) →
          ∃ E : D → D → D → Option D, (∀ (δ : List D) (k : List D → Option Out), stepK c ops y δ k = (E (nth δ r) (nth δ q) (nth δ s)).bind fun b => k (setMany δ [r] [b])) ∧ ∀ a b e z, E a b e = some z → a ≠ .bad ∧ z ≠ .bad := by
        intro chk hA
        refine ⟨fun a b e => Classical.choose (stK_live chk i.n a b e), fun δ k => ?_, fun a b e z h => (Classical.choose_spec (stK_live chk i.n a b e)).2 z h⟩
        simp only [stepK, hA, hyg]
        rw [getC_eq]
        simp only [goP, h3, getAll]
        show stK chk i.n (nth δ r) (nth δ q) (nth δ s) (fun b => setManyC δ [r] [b] k) = _
        rw [(Classical.choose_spec (stK_live chk i.n (nth δ r) (nth δ q) (nth δ s))).1]
        exact congrArg _ (funext fun b => setManyC_eq _ _ _ _)
      have hst : actOf c y = stTo c i q r (rootLv c.K r) (.tmp s) := by
        simp only [actOf, hyo, hyd, withT, hT, stOf, hkq]
      unfold stTo at hst
      simp only [hks] at hst
      split at hst
      · exact act false (by rw [hst]; simp only [rdP, h3])
      · exact act true (by rw [hst]; simp only [rdP, h3])
      · refine ⟨fun _ _ _ => none, fun δ k => ?_, fun _ _ _ _ h => by cases h⟩
        simp only [stepK, hst]
        rfl
  obtain ⟨E, hE, hEl⟩ := hy
  have ap := fun s hs => apartL_ok h4 s hs
  have hnq : ∀ m : List D, ∀ v ∈ [q, r, s], nth (setMany δ (d :: deps d c.K 0) m) v = nth δ v := fun m v hv => nth_setMany_notin _ _ _ _ fun hm => ap v hm hv
  simp only [hx, hE, hnq _ q (by simp), hnq _ r (by simp), hnq _ s (by simp)]
  cases hb : E (nth δ r) (nth δ q) (nth δ s) with
  | none => cases liveD (nth δ r) (.ref 0 0) <;> rfl
  | some b =>
    obtain ⟨g1, g2⟩ := hEl _ _ _ _ hb
    have hlive : ∀ a : D, a ≠ .bad → liveD a (.ref 0 0) = some (.ref 0 0) := fun a ha => by cases a <;> first | exact absurd rfl ha | rfl
    have hr : nth (setMany δ [r] [b]) r = b := by
      simp only [setMany]
      rw [nth_setAt_eq, if_pos]
      by_cases hl : r < δ.length
      · exact hl
      · exfalso
        rw [nth_eq, List.getD_eq_getElem?_getD, List.getElem?_eq_none (by omega)] at g1
        exact g1 rfl
    simp only [hlive _ g1, hr, hlive _ g2, Option.bind_some]
    rw [setMany_swap (A := d :: deps d c.K 0) (C := [r])]
    intro v hv hv'
    exact ap v hv (by simp at hv'; simp [hv'])

theorem step_swap0 {ops : List Oper} {x y : Oper} (h : indep0 c ops x y = true) (δ : List D) (k : List D → Option Out) : stepK c ops x δ (fun δ => stepK c ops y δ k) = stepK c ops y δ (fun δ => stepK c ops x δ k) := by
  unfold indep0 at h
  simp only [Bool.and_eq_true] at h
  obtain ⟨⟨h1, h2⟩, h3⟩ := h
  obtain ⟨φ, hφ, hφr⟩ := step_form c ops x
  obtain ⟨ψ, hψ, hψr⟩ := step_form c ops y
  have e1 : ∀ l, ψ (setMany δ (wrS c x) l) = ψ δ := fun l => hψr _ _ (getAll_congr fun s hs => nth_setMany_notin _ _ _ _ fun hm => apartL_ok h2 s hm hs)
  have e2 : ∀ l, φ (setMany δ (wrS c y) l) = φ δ := fun l => hφr _ _ (getAll_congr fun s hs => nth_setMany_notin _ _ _ _ (apartL_ok h1 s hs))
  simp only [hφ, hψ, e1, e2]
  cases φ δ with
  | none => cases ψ δ <;> rfl
  | some l =>
    cases ψ δ with
    | none => rfl
    | some m =>
      simp only [Option.bind_some]
      rw [setMany_swap (apartL_ok h3)]

theorem asmV_live {δ : List D} : ∀ (ags : List Ag) (ds : List D), asmV ags (getAll δ (agRd ags)) = some ds → ∀ t ∈ agIo ags, nth δ t ≠ .bad
  | [], _, _, t, ht => by simp [agIo] at ht
  | .d x chk :: l, ds, h, t, ht => by
    have ih := asmV_live (δ := δ) l
    simp only [agIo] at ht
    cases x with
    | tmp u =>
      simp only [getAll] at h
      cases chk
      · simp only [asmV] at h
        obtain ⟨z, hz, _⟩ := Option.map_eq_some_iff.1 h
        exact ih z hz t ht
      · simp only [asmV] at h
        obtain ⟨i, _, h⟩ := Option.bind_eq_some_iff.1 h
        obtain ⟨z, hz, _⟩ := Option.map_eq_some_iff.1 h
        exact ih z hz t ht
    | const v =>
      simp only [asmV] at h
      obtain ⟨z, hz, _⟩ := Option.map_eq_some_iff.1 h
      exact ih z hz t ht
    | func f =>
      simp only [asmV] at h
      obtain ⟨z, hz, _⟩ := Option.map_eq_some_iff.1 h
      exact ih z hz t ht
    | global g => simp [asmV] at h
  | .bor u r :: l, ds, h, t, ht => by
    have ih := asmV_live (δ := δ) l
    simp only [agIo] at ht
    cases hb : Nat.beq u r
    · simp only [agRd, hb, getAll, asmV] at h
      obtain ⟨i, _, h⟩ := Option.bind_eq_some_iff.1 h
      obtain ⟨z, hz, _⟩ := Option.map_eq_some_iff.1 h
      exact ih z hz t ht
    · simp only [agRd, hb, getAll, asmV] at h
      obtain ⟨z, hz, _⟩ := Option.map_eq_some_iff.1 h
      exact ih z hz t ht
  | .io u r :: l, ds, h, t, ht => by
    have ih := asmV_live (δ := δ) l
    simp only [agIo, List.mem_cons] at ht
    have lv : ∀ x y z : D, liveD x y = some z → x ≠ .bad := fun x y z hz e => by subst e; cases hz
    cases hb : Nat.beq u r
    · simp only [agRd, hb, getAll, asmV] at h
      obtain ⟨i, hi, h⟩ := Option.bind_eq_some_iff.1 h
      obtain ⟨i', hi', h⟩ := Option.bind_eq_some_iff.1 h
      obtain ⟨z, hz, _⟩ := Option.map_eq_some_iff.1 h
      have e : i = nth δ r := by
        unfold ref0 at hi
        split at hi
        · exact (Option.some.inj hi).symm
        · cases hi
      rcases ht with rfl | ht
      · rw [← e]; exact lv _ _ _ hi'
      · exact ih z hz t ht
    · simp only [agRd, hb, getAll, asmV] at h
      obtain ⟨i', hi', h⟩ := Option.bind_eq_some_iff.1 h
      obtain ⟨z, hz, _⟩ := Option.map_eq_some_iff.1 h
      have e := beq_iff.1 hb
      rcases ht with rfl | ht
      · rw [← e]; exact lv _ _ _ hi'
      · exact ih z hz t ht

theorem mv_swap {ops : List Oper} {x y : Oper} (h : mvPair c ops x y = true) (δ : List D) (k : List D → Option Out) (r : Out) (hs : stepK c ops x δ (fun δ => stepK c ops y δ k) = some r) : stepK c ops y δ (fun δ => stepK c ops x δ k) = some r := by
  unfold mvPair at h
  simp only [Bool.and_eq_true] at h
  obtain ⟨⟨h1, h2⟩, h3⟩ := h
  unfold mvCall at h1
  split at h1
  case h_2 => cases h1
  rename_i q t d hxg hyg hxo hyo hyd
  split at h1
  case h_2 => cases h1
  rename_i n lv io r' f hkt hkd hqc
  split at h1
  case h_2 => cases h1
  rename_i S hS
  split at h1
  case h_2 => cases h1
  rename_i ags hags
  simp only [Bool.and_eq_true] at h1
  obtain ⟨h4, h5⟩ := h1
  have e4 := beq_iff.1 h4
  subst e4
  have hyA : actOf c y = some (.one [r'] d fun is => (arg1 fun x => liveD x (.ref 0 0)) is) := by
    simp only [actOf, hyo, hyd, mvOf, hkt, hkd, Nat.beq_refl]
  have hw : wrS c y = d :: deps d c.K 0 := by
    unfold wrS
    rw [hyA]
  have hy : ∀ (δ : List D) (k : List D → Option Out), stepK c ops y δ k = (liveD (nth δ r') (.ref 0 0)).bind fun z => k (setMany δ (d :: deps d c.K 0) [z]) := by
    intro δ k
    simp only [stepK, hyA, hyg]
    rw [getC_eq]
    show (liveD (nth δ r') (.ref 0 0)).bind (fun z => setManyC δ (d :: deps d c.K 0) [z] k) = _
    exact congrArg _ (funext fun z => setManyC_eq _ _ _ _)
  have live : ∀ (δ : List D) (K : List D → Option Out) (r : Out), stepK c ops x δ K = some r → nth δ r' ≠ .bad := by
    intro δ K r hr
    have hm : r' ∈ agIo ags := by simpa [memN_eq] using h5
    have fin : ∀ K' : List D → Option Out, asmK [] ags (getAll δ (agRd ags)) K' = some r → nth δ r' ≠ .bad := by
      intro K' h
      rw [asmK_eq] at h
      obtain ⟨ds, hds, _⟩ := Option.bind_eq_some_iff.1 h
      exact asmV_live ags ds hds r' hm
    have hA : actOf c x = caOf c x.dst q := by simp only [actOf, hxo]
    have hcl : ∀ A, actOf c x = some A → clOf c x.dst S q.args.toList = some A := by
      intro A h
      rw [hA] at h
      unfold caOf at h
      rw [hqc] at h
      simp only [hS] at h
      exact h
    cases hAc : actOf c x with
    | none => simp only [stepK, hAc] at hr; cases hr
    | some A =>
      have hA2 := hcl A hAc
      unfold clOf at hA2
      simp only [hags] at hA2
      simp only [stepK, hAc, hxg] at hr
      repeat' split at hA2
      all_goals first
        | (cases hA2; done)
        | (cases hA2; simp only [getC_eq] at hr; exact fin _ hr)
        | skip
  have l1 := live δ _ r hs
  obtain ⟨φ, hφ, hφr⟩ := step_form c ops x
  rw [hw] at h2 h3
  have e2 : ∀ l, φ (setMany δ (d :: deps d c.K 0) l) = φ δ := fun l => hφr _ _ (getAll_congr fun s hs => nth_setMany_notin _ _ _ _ (apartL_ok h2 s hs))
  have hlive : ∀ a : D, a ≠ .bad → liveD a (.ref 0 0) = some (.ref 0 0) := fun a ha => by cases a <;> first | exact absurd rfl ha | rfl
  simp only [hφ, hy, e2] at hs ⊢
  rw [hlive _ l1]
  cases hp : φ δ with
  | none => rw [hp] at hs; cases hs
  | some l =>
    rw [hp] at hs
    simp only [Option.bind_some] at hs ⊢
    obtain ⟨z, hz, hk⟩ := Option.bind_eq_some_iff.1 hs
    have ez : z = .ref 0 0 := by
      unfold liveD at hz
      split at hz
      · cases hz
      · exact (Option.some.inj hz).symm
    subst ez
    rw [setMany_swap (apartL_ok h3)] at hk
    exact hk

theorem step_swap {ops : List Oper} {x y : Oper} (h : indep c ops x y = true) (δ : List D) (k : List D → Option Out) (r : Out) (hs : stepK c ops x δ (fun δ => stepK c ops y δ k) = some r) : stepK c ops y δ (fun δ => stepK c ops x δ k) = some r := by
  unfold indep at h
  simp only [Bool.or_eq_true] at h
  rcases h with ((h | h) | h) | h
  · exact (step_swap0 h δ k).symm.trans hs
  · exact (lv_swap h δ k).symm.trans hs
  · exact (lv_swap h δ k).trans hs
  · exact mv_swap h δ k r hs

/-- A step whose further text answers more. -/
theorem step_more {ops : List Oper} {o : Oper} {k k' : List D → Option Out} {δ : List D} {r : Out} (hk : ∀ δ, k δ = some r → k' δ = some r) (h : stepK c ops o δ k = some r) : stepK c ops o δ k' = some r := by
  obtain ⟨φ, hφ, _⟩ := step_form c ops o
  rw [hφ] at h ⊢
  obtain ⟨l, hl, h⟩ := Option.bind_eq_some_iff.1 h
  rw [hl]
  exact hk _ h

theorem runOps_front {ops : List Oper} {o : Oper} {k : List D → Option Out} {r : Out} : ∀ (pre post : List Oper) (δ : List D), (∀ q ∈ pre, indep c ops q o = true) → runOps c ops (pre ++ o :: post) δ k = some r → stepK c ops o δ (fun δ => runOps c ops (pre ++ post) δ k) = some r
  | [], post, δ, _, h => h
  | q :: pre, post, δ, h, hr => by
    simp only [List.cons_append, runOps] at hr ⊢
    exact step_swap (h q (by simp)) δ _ r (step_more (fun δ' h' => runOps_front pre post δ' (fun q' hq' => h q' (by simp [hq'])) h') hr)

/-- The operations that are not yet listed, in the order of the text. -/
def left (ops : List Oper) (listed : Array Bool) : List Oper := (ops.zipIdx.filter fun p => !listed.getD p.2 true).map (·.1)

theorem Inv.drawn (h : Inv c B X w0 F0 F O a w δ) (n : Nat) : Inv c B X w0 F0 F O a { w with drawn := n } δ :=
  h.step (w' := { w with drawn := n }) (fun _ => False) rfl rfl rfl (fun _ _ => ⟨rfl, .inl rfl⟩) (fun _ hb => hb) (fun _ _ => rfl) (fun _ _ hp _ => ⟨hp, rfl⟩) (fun _ _ _ hv hb => ⟨rfl, (h.root hv hb).2⟩) (fun _ hf => hf.elim) h.fl h.ol (fun _ hb => .inl hb) (Nat.le_refl _) rfl rfl rfl (fun _ _ _ => rfl)

theorem split_at {l : List Oper} {i : Nat} {o : Oper} (h : l[i]? = some o) : l.zipIdx = (l.take i).zipIdx ++ (o, i) :: (l.drop (i + 1)).zipIdx (i + 1) := by
  have hi : i < l.length := (List.getElem?_eq_some_iff.1 h).1
  have e : l = l.take i ++ (o :: l.drop (i + 1)) := by
    have h1 : l[i] = o := (List.getElem?_eq_some_iff.1 h).2
    conv => lhs; rw [← List.take_append_drop i l, List.drop_eq_getElem_cons hi, h1]
  conv => lhs; rw [e]
  rw [List.zipIdx_append, List.zipIdx_cons]
  have : (l.take i).length = i := by rw [List.length_take]; omega
  simp [this]

theorem left_split {l : List Oper} {listed : Array Bool} {i : Nat} {o : Oper} (h : l[i]? = some o) (hn : listed.getD i true = false) (hsz : i < listed.size) :
    left l listed = (((l.take i).zipIdx.filter fun p => !listed.getD p.2 true).map (·.1)) ++ o :: ((((l.drop (i + 1)).zipIdx (i + 1)).filter fun p => !listed.getD p.2 true).map (·.1)) ∧
    left l (listed.setIfInBounds i true) = (((l.take i).zipIdx.filter fun p => !listed.getD p.2 true).map (·.1)) ++ ((((l.drop (i + 1)).zipIdx (i + 1)).filter fun p => !listed.getD p.2 true).map (·.1)) := by
  have hne : ∀ j, j ≠ i → (listed.setIfInBounds i true).getD j true = listed.getD j true := fun j hj => by
    simp only [Array.getD_eq_getD_getElem?, Array.getElem?_setIfInBounds, Ne.symm hj, if_false]
  have hi : (listed.setIfInBounds i true).getD i true = true := by
    simp [Array.getD_eq_getD_getElem?, hsz]
  unfold left
  rw [split_at h]
  simp only [List.filter_append, List.map_append, List.filter_cons, hn, hi, Bool.not_false, Bool.not_true, if_true, Bool.false_eq_true, if_false, List.map_cons]
  refine ⟨trivial, ?_⟩
  congr 2
  · refine List.filter_congr fun p hp => ?_
    have := List.snd_lt_of_mem_zipIdx hp
    rw [List.length_take] at this
    rw [hne p.2 (by omega)]
  · refine List.filter_congr fun p hp => ?_
    have := List.le_snd_of_mem_zipIdx hp
    rw [hne p.2 (by omega)]

/-- What is listed is listed with all that comes before it. -/
def Cl (ops : Array Oper) (listed : Array Bool) : Prop := ∀ (m : Nat) (q : Oper), ops[m]? = some q → listed.getD m false = true → ∀ e ∈ q.after, Region.binds .any e = true → listed.getD e.on false = true
theorem bef_listed {ops : Array Oper} {listed : Array Bool} (hc : Cl ops listed) {j : Nat} : ∀ (n : Nat) (o : Oper), (∀ e ∈ o.after, Region.binds .any e = true → listed.getD e.on false = true) → bef ops.toList j n o = true → listed.getD j false = true
  | 0, _, _, h => by simp [bef] at h
  | n + 1, o, ho, h => by
    simp only [bef, List.any_eq_true, Bool.and_eq_true, Bool.or_eq_true] at h
    obtain ⟨e, he, hb, h⟩ := h
    have hl := ho e (by simpa using he) hb
    rcases h with h | h
    · rw [← beq_iff.1 h]
      exact hl
    · split at h
      · rename_i q hq
        rw [nthO_eq, Array.getElem?_toList] at hq
        exact bef_listed hc n q (hc e.on q hq hl) h
      · cases h
theorem listed_set {listed : Array Bool} {i x : Nat} (h : listed.getD x false = true) : (listed.setIfInBounds i true).getD x false = true := by
  rw [Array.getD_eq_getD_getElem?] at h ⊢
  rw [Array.getElem?_setIfInBounds]
  split
  · split <;> rename_i h1 h2
    · rfl
    · subst h1
      rw [Array.getElem?_eq_none (by omega)] at h
      cases h
  · exact h
theorem Cl_set {ops : Array Oper} {listed : Array Bool} (hc : Cl ops listed) {i : Nat} {o : Oper} (ho : ops[i]? = some o) (hed : ∀ e ∈ o.after, Region.binds .any e = true → listed.getD e.on false = true) : Cl ops (listed.setIfInBounds i true) := by
  intro m q hq hm e he hb
  by_cases hmi : m = i
  · subst hmi
    rw [ho] at hq
    cases hq
    exact listed_set (hed e he hb)
  · refine listed_set (hc m q hq ?_ e he hb)
    rw [Array.getD_eq_getD_getElem?, Array.getElem?_setIfInBounds, if_neg (fun e => hmi e.symm)] at hm
    rw [Array.getD_eq_getD_getElem?]
    exact hm
theorem any_soundA (hT : okT P c.T = true) (hS : ∀ f S, look c.S f = some S → Meets c.G P f S) {ops : Array Oper} (hany : okAny c ops.toList = true) {V : Nat → Value} {Q : Exit → Act → World → Prop} {k : List D → Option Out} {r : Out} (hQ : ∀ a w, NextV c B X w0 F0 V k r a w → Q .normal a w)
    (hok : ∀ o ∈ ops.toList, okOp c ops.toList o = true) (hI : Inv c B X w0 F0 F O a w δ) (hV : IoV c V a) (hg : runOps c ops.toList ops.toList δ k = some r) : wpAny P .any ops Q ops.size (Array.replicate ops.size false) a { w with drawn := w.drawn + 1 } := by
  have hedge : ∀ (i : Nat) (o : Oper), ops[i]? = some o → (∀ e ∈ o.after, Region.binds .any e = true → e.on < i) ∧ ∀ (j : Nat) (q : Oper), j < i → ops[j]? = some q → bef ops.toList j 3 o = true ∨ indep c ops.toList q o = true := by
    intro i o ho
    have h0 := hany
    unfold okAny at h0
    rw [List.all_eq_true] at h0
    have hl : ops.toList[i]? = some o := by simpa using ho
    have h1 := h0 (o, i) (by rw [split_at hl]; simp)
    simp only [Bool.and_eq_true, Bool.or_eq_true, Bool.not_eq_true', decide_eq_true_eq, List.all_eq_true] at h1
    refine ⟨fun e he hb => (h1.1 e (by simpa using he)).resolve_left (by rw [hb]; simp), fun j q hj hq => ?_⟩
    have hq' : (ops.toList.take i)[j]? = some q := by
      rw [List.getElem?_take_of_lt hj]; simpa using hq
    exact (h1.2 (q, j) (by rw [split_at hq']; simp)).symm
  have main : ∀ (fuel : Nat) (listed : Array Bool) (F : Nat → Prop) (O : Nat → Option (Nat × Nat)) (a : Act) (w : World) (δ : List D), listed.size = ops.size → Cl ops listed → (left ops.toList listed).length ≤ fuel → Inv c B X w0 F0 F O a w δ → IoV c V a →
      runOps c ops.toList (left ops.toList listed) δ k = some r → wpAny P .any ops Q fuel listed a w := by
    intro fuel
    have ready_mem : ∀ (listed : Array Bool) (i : Nat), i ∈ Region.ready .any ops listed → ∃ o, ops[i]? = some o ∧ listed.getD i true = false ∧ ∀ e ∈ o.after, Region.binds .any e = true → listed.getD e.on false = true := by
      intro listed i hi
      unfold Region.ready at hi
      rw [List.mem_filter] at hi
      obtain ⟨hr, hi⟩ := hi
      simp only [Bool.and_eq_true, Bool.not_eq_true'] at hi
      cases ho : ops[i]? with
      | none => rw [ho] at hi; simp at hi
      | some o =>
        rw [ho] at hi
        simp only [Option.map_some, Option.getD_some, Array.all_eq_true_iff_forall_mem, Bool.or_eq_true, Bool.not_eq_true'] at hi
        exact ⟨o, rfl, hi.1, fun e he hb => (hi.2 e he).resolve_left (by rw [hb]; simp)⟩
    have empty : ∀ (listed : Array Bool), listed.size = ops.size → Region.ready .any ops listed = [] → left ops.toList listed = [] := by
      intro listed hsz hr
      have all : ∀ i, i < ops.size → listed.getD i true = true := by
        intro i
        induction i using Nat.strongRecOn with
        | _ i ih =>
          intro hi
          cases hl : listed.getD i true with
          | true => rfl
          | false =>
            exfalso
            have ho : ops[i]? = some ops[i] := Array.getElem?_eq_getElem hi
            have hmem : i ∈ Region.ready .any ops listed := by
              unfold Region.ready
              rw [List.mem_filter]
              refine ⟨List.mem_range.2 hi, ?_⟩
              rw [hl, ho]
              simp only [Bool.not_false, Bool.true_and, Option.map_some, Option.getD_some, Array.all_eq_true_iff_forall_mem, Bool.or_eq_true]
              intro e he
              cases hb : Region.binds .any e
              · exact .inl rfl
              right
              have h1 := (hedge i _ ho).1 e he hb
              have h2 := ih e.on h1 (by omega)
              have h3 : e.on < listed.size := by omega
              rw [Array.getD_eq_getD_getElem?, Array.getElem?_eq_getElem h3] at h2 ⊢
              exact h2
            rw [hr] at hmem
            cases hmem
      unfold left
      rw [List.map_eq_nil_iff, List.filter_eq_nil_iff]
      rintro ⟨o, i⟩ hp
      have hi := List.snd_lt_of_mem_zipIdx hp
      simp only [Bool.not_eq_true', Bool.not_eq_false]
      exact all i (by simpa using hi)
    induction fuel with
    | zero =>
      intro listed F O a w δ hsz hcl hl hI hV hg
      have h0 : left ops.toList listed = [] := List.eq_nil_of_length_eq_zero (by omega)
      rw [h0] at hg
      refine ⟨?_, hQ a w ⟨⟨F, O, δ, hI, hg⟩, hV⟩⟩
      cases hr : Region.ready .any ops listed with
      | nil => rfl
      | cons i rest =>
        exfalso
        obtain ⟨o, ho, hn, _⟩ := ready_mem listed i (by rw [hr]; simp)
        have hi : i < ops.size := (Array.getElem?_eq_some_iff.1 ho).1
        have := (left_split (l := ops.toList) (by simpa using ho) hn (by omega)).1
        rw [h0] at this
        simp at this
    | succ fuel ihf =>
      intro listed F O a w δ hsz hcl hl hI hV hg
      refine ⟨fun hr => ?_, fun i hi => ?_⟩
      · rw [empty listed hsz hr] at hg
        exact hQ a w ⟨⟨F, O, δ, hI, hg⟩, hV⟩
      · obtain ⟨o, ho, hn, hed⟩ := ready_mem listed i hi
        have hilt : i < ops.size := (Array.getElem?_eq_some_iff.1 ho).1
        obtain ⟨e1, e2⟩ := left_split (l := ops.toList) (by simpa using ho) hn (by omega)
        rw [e1] at hg hl
        have hfront : ∀ q ∈ (((ops.toList.take i).zipIdx.filter fun p => !listed.getD p.2 true).map (·.1)), indep c ops.toList q o = true := by
          intro q hq
          · simp only [List.mem_map, List.mem_filter] at hq
            obtain ⟨⟨q', j⟩, ⟨hm1, hm2⟩, rfl⟩ := hq
            have hj := List.snd_lt_of_mem_zipIdx hm1
            rw [List.length_take] at hj
            have hget : ops[j]? = some q' := by
              have := List.mem_zipIdx_iff_getElem?.1 hm1
              simp only at this
              rw [List.getElem?_take_of_lt (by omega)] at this
              simpa using this
            rcases (hedge i o ho).2 j q' (by omega) hget with hbf | h
            · exfalso
              have h3 := bef_listed hcl 3 o hed hbf
              simp only [Bool.not_eq_true'] at hm2
              have hjlt : j < listed.size := by omega
              rw [Array.getD_eq_getD_getElem?, Array.getElem?_eq_getElem hjlt] at h3 hm2
              simp only [Option.getD_some] at h3 hm2
              rw [h3] at hm2
              cases hm2
            · exact h
        · replace hg := runOps_front _ _ _ hfront hg
          rw [← e2] at hg
          have h := step_sound hT hS (ops := ops) (hok o (by simpa using Array.mem_of_getElem? ho)) hI hV hg Q
          have ih : ∀ a w, NextV c B X w0 F0 V (fun δ' => runOps c ops.toList (left ops.toList (listed.setIfInBounds i true)) δ' k) r a w → wpAny P .any ops Q fuel (listed.setIfInBounds i true) a w := by
            rintro a w ⟨⟨F', O', δ', hI', hk'⟩, hV'⟩
            exact ihf _ F' O' a w δ' (by simpa using hsz) (Cl_set hcl ho hed) (by rw [e2]; simp only [List.length_append, List.length_cons] at hl ⊢; omega) hI' hV' hk'
          unfold wpOp
          rw [ho]
          simp only
          split
          · rename_i hw
            rw [if_pos hw] at h
            exact .inl (Oper.wp_mono ih h)
          · rename_i hw
            rw [if_neg hw] at h
            exact ih _ _ h
  have hleft : left ops.toList (Array.replicate ops.size false) = ops.toList := by
    unfold left
    rw [List.filter_eq_self.2]
    · simp
    · rintro ⟨o, i⟩ hp
      have hi := List.snd_lt_of_mem_zipIdx hp
      have hi' : i < ops.size := by simpa using hi
      simp [Array.getD_eq_getD_getElem?, hi']
  refine main ops.size _ F O a _ δ (by simp) (fun m q _ hm => ?_) ?_ (hI.drawn _) hV ?_
  · rw [Array.getD_eq_getD_getElem?, Array.getElem?_replicate] at hm
    split at hm <;> cases hm
  · rw [hleft]; simp
  · rw [hleft]; exact hg
theorem any_sound (hT : okT P c.T = true) (hS : ∀ f S, look c.S f = some S → Meets c.G P f S) {ops : Array Oper} (hany : okAny c ops.toList = true) (hm : P.follows .mixedOrders = true) {V : Nat → Value} {Q : Exit → Act → World → Prop} {k : List D → Option Out} {r : Out} (hQ : ∀ a w, NextV c B X w0 F0 V k r a w → Q .normal a w)
    (hok : ∀ o ∈ ops.toList, okOp c ops.toList o = true) (hI : Inv c B X w0 F0 F O a w δ) (hV : IoV c V a) (hg : runOps c ops.toList ops.toList δ k = some r) (id : Nat) : (Code.region id ops true).wp P Q a w := wp_region_any hm (any_soundA hT hS hany hQ hok hI hV hg)

theorem resC_nat : ∀ (l : List ResultVar) (δ : List D) (k : List D → Option Out), resC c δ l k = (resC c δ l fun rs => some (.nrm rs)).bind fun o => match o with
    | .nrm rs => k rs
    | _ => none
  | [], δ, k => rfl
  | .tmp t :: l, δ, k => by
    simp only [resC, nthC_eq]
    rw [resC_nat l δ fun rs => k (nth δ t :: rs), resC_nat l δ fun rs => some (.nrm (nth δ t :: rs))]
    cases h : resC c δ l fun rs => some (.nrm rs) with
    | none => rfl
    | some o => cases o <;> rfl
  | .cell s t :: l, δ, k => by
    simp only [resC]
    split
    · rename_i i _
      simp only [nthC_eq]
      cases fldD i.agg i.n 0 (nth δ s) with
      | none => rfl
      | some y =>
        simp only [Option.bind_some]
        rw [resC_nat l δ fun rs => k (y :: rs), resC_nat l δ fun rs => some (.nrm (y :: rs))]
        cases h : resC c δ l fun rs => some (.nrm rs) with
        | none => rfl
        | some o => cases o <;> rfl
    · rfl

theorem usK_some : ∀ {us : List D} {o : Option Out} {r : Out}, usK us o = some r ↔ (∀ u ∈ us, u ≠ .bad) ∧ o = some r
  | [], o, r => by simp [usK]
  | u :: us, o, r => by
    simp only [usK, Option.bind_eq_some_iff, List.mem_cons, forall_eq_or_imp]
    constructor
    · rintro ⟨y, h1, h2⟩
      obtain ⟨h3, h4⟩ := usK_some.1 h2
      exact ⟨⟨(liveD_some h1).1, h3⟩, h4⟩
    · rintro ⟨⟨h1, h2⟩, h3⟩
      refine ⟨u, ?_, usK_some.2 ⟨h2, h3⟩⟩
      cases u <;> first | rfl | exact absurd rfl h1

theorem retK_is {δ : List D} {k : Out → Option Out} {r : Out} (h : retK c δ k = some r) : ∃ rs, resC c δ c.res (fun rs => some (.nrm rs)) = some (.nrm rs) ∧ (∀ u ∈ getAll δ c.ios, u ≠ .bad) ∧ k (.ret rs (getAll δ c.ios)) = some r := by
  unfold retK at h
  simp only [getC_eq] at h
  rw [resC_nat] at h
  cases hh : resC c δ c.res fun rs => some (.nrm rs) with
  | none => rw [hh] at h; cases h
  | some o =>
    rw [hh] at h
    cases o with
    | nrm rs =>
      simp only [Option.bind_some] at h
      obtain ⟨h1, h2⟩ := usK_some.1 h
      exact ⟨rs, rfl, h1, h2⟩
    | ext i δ => cases h
    | ret x y => cases h

theorem retK_of {δ : List D} {k : Out → Option Out} {r : Out} {rs : List D} (h1 : resC c δ c.res (fun rs => some (.nrm rs)) = some (.nrm rs)) (h2 : ∀ u ∈ getAll δ c.ios, u ≠ .bad) (hk : k (.ret rs (getAll δ c.ios)) = some r) : retK c δ k = some r := by
  unfold retK
  simp only [getC_eq]
  rw [resC_nat, h1]
  simp only [Option.bind_some]
  exact usK_some.2 ⟨h2, hk⟩

/-- What a list of slots carries over. -/
def carry (n : Nat) (hl : List Nat) (δ : List D) : List D := setMany (voidL n) hl (getAll δ hl)
theorem voidL_eq : ∀ n, voidL n = List.replicate n .bad
  | 0 => rfl
  | n + 1 => by simp [voidL, voidL_eq n, List.replicate_succ]
theorem nth_void (n s : Nat) : nth (voidL n) s = .bad := by
  rw [nth_eq, voidL_eq, List.getD_eq_getElem?_getD, List.getElem?_replicate]
  split <;> rfl
theorem expandC_eq (n : Nat) (hl : List Nat) (δ : List D) (k : List D → Option Out) : expandC n hl (getAll δ hl) k = k (carry n hl δ) := by
  unfold expandC carry
  rw [setManyC_eq, fit_eq _ _ 0 (by rw [getAll_len]; omega), List.drop_zero]
theorem getAll_map (δ : List D) : ∀ (l : List Nat), getAll δ l = l.map (nth δ)
  | [] => rfl
  | _ :: l => by simp [getAll, getAll_map δ l]
theorem carry_nth {hl : List Nat} {δ : List D} (s : Nat) : nth (carry δ.length hl δ) s = if s ∈ hl then nth δ s else .bad := by
  unfold carry
  rw [getAll_map, setMany_map]
  have hlen : (voidL δ.length).length = δ.length := by rw [voidL_eq]; simp
  rw [hlen, nth_void]
  split
  · split
    · rfl
    · rename_i h
      by_cases hb : nth δ s = .bad
      · exact hb.symm
      · exact absurd (nth_lt hb) h
  · rfl
theorem Inv.carry (h : Inv c B X w0 F0 F O a w δ) {hl : List Nat} (hk : okLive c.K hl = true) : Inv c B X w0 F0 F O a w (carry (lenN c.K) hl δ) := by
  have e : lenN c.K = δ.length := by rw [lenN_eq, h.ld]
  rw [e]
  refine h.forget ?_ (fun s => ?_) (fun s r hv hb => ?_)
  · unfold V.carry; rw [len_setMany, voidL_eq]; simp
  · rw [carry_nth]
    split
    · exact .inl rfl
    · exact .inr rfl
  · rw [carry_nth] at hb
    split at hb
    case isFalse => exact absurd rfl hb
    rename_i hs
    unfold okLive at hk
    rw [List.all_eq_true] at hk
    have hks := hk s hs
    have hr : r ∈ hl := by
      rcases hv with e | e <;> rw [e] at hks <;> simpa [memN_eq] using hks
    rw [carry_nth, if_pos hr]
    exact (h.root hv hb).2

theorem NextV_mono {V : Nat → Value} {k k' : List D → Option Out} {r r' : Out} (h : NextV c B X w0 F0 V k r a w) (hk : ∀ δ F O, Inv c B X w0 F0 F O a w δ → k δ = some r → k' δ = some r') : NextV c B X w0 F0 V k' r' a w := by
  obtain ⟨⟨F, O, δ, h1, h2⟩, h3⟩ := h
  exact ⟨⟨F, O, δ, h1, hk δ F O h1 h2⟩, h3⟩

theorem loop_rounds {V : Nat → Value} {b : Code} {bid : Nat} {hl xl : List Nat} (h1 : okLive c.K hl = true) (h2 : okLive c.K xl = true)
    (ih : ∀ (F : Nat → Prop) (O : Nat → Option (Nat × Nat)) (a : Act) (w : World) (δ : List D), Inv c B X w0 F0 F O a w δ → IoV c V a → ∀ (k : Out → Option Out) (r : Out), den c bid b δ k = some r → ∀ Q, (∀ e a w, Post c B X w0 F0 V k r e a w → Q e a w) → b.wp P Q a w)
    {k : Out → Option Out} {r : Out} {Q : Exit → Act → World → Prop} (hQ : ∀ e a w, Post c B X w0 F0 V k r e a w → Q e a w) {o : Out}
    (ho : outK o (fun i s => expandC (lenN c.K) xl s fun δ => k (.ext i δ)) (fun x y => k (.ret x y)) = some r) : ∀ (n : Nat) (F : Nat → Prop) (O : Nat → Option (Nat × Nat)) (a : Act) (w : World) (δ : List D), Inv c B X w0 F0 F O a w δ → IoV c V a →
    iter (fun s => expandC (lenN c.K) hl s fun δ => den c bid b δ (shrinkK hl xl)) n (getAll δ hl) = some o → Code.rounds P b Q n a w
  | 0, _, _, _, _, _, _, _, h => by cases h
  | n + 1, F, O, a, w, δ, hI, hV, h => by
    simp only [iter, expandC_eq] at h
    rw [rounds_succ]
    have hI' := hI.carry h1
    cases hb : den c bid b (carry (lenN c.K) hl δ) (shrinkK hl xl) with
    | none => rw [hb] at h; cases h
    | some ob =>
      rw [hb] at h
      refine ih F O a w _ hI' hV _ ob hb _ (fun e a' w' hp => ?_)
      cases ob with
      | nrm s' =>
        simp only at h
        cases e with
        | normal =>
          obtain ⟨⟨F', O', δ', g1, g2⟩, g3⟩ := hp
          simp only [shrinkK, getC_eq, Option.some.injEq, Out.nrm.injEq] at g2
          rw [← g2] at h
          exact loop_rounds h1 h2 ih hQ ho n F' O' a' w' δ' g1 g3 h
        | exit i =>
          obtain ⟨⟨F', O', δ', g1, g2⟩, g3⟩ := hp
          simp [shrinkK, getC_eq] at g2
        | ret =>
          obtain ⟨⟨F', O', δ', g1, g2⟩, g3⟩ := hp
          obtain ⟨rs, _, _, g4⟩ := retK_is g2
          simp [shrinkK] at g4
        | _ => exact hp.elim
      | ext i l =>
        simp only [Option.some.injEq] at h
        subst h
        cases e with
        | normal =>
          obtain ⟨⟨F', O', δ', g1, g2⟩, g3⟩ := hp
          simp [shrinkK, getC_eq] at g2
        | exit j =>
          obtain ⟨⟨F', O', δ', g1, g2⟩, g3⟩ := hp
          simp only [shrinkK, getC_eq, Option.some.injEq, Out.ext.injEq] at g2
          obtain ⟨rfl, rfl⟩ := g2
          simp only [outK, expandC_eq] at ho
          exact hQ (.exit j) _ _ ⟨⟨F', O', _, g1.carry h2, ho⟩, g3⟩
        | ret =>
          obtain ⟨⟨F', O', δ', g1, g2⟩, g3⟩ := hp
          obtain ⟨rs, _, _, g4⟩ := retK_is g2
          simp [shrinkK] at g4
        | _ => exact hp.elim
      | ret x y =>
        simp only [Option.some.injEq] at h
        subst h
        cases e with
        | normal =>
          obtain ⟨⟨F', O', δ', g1, g2⟩, g3⟩ := hp
          simp [shrinkK, getC_eq] at g2
        | exit j =>
          obtain ⟨⟨F', O', δ', g1, g2⟩, g3⟩ := hp
          simp [shrinkK, getC_eq] at g2
        | ret =>
          obtain ⟨⟨F', O', δ', g1, g2⟩, g3⟩ := hp
          obtain ⟨rs, g5, g6, g4⟩ := retK_is g2
          simp only [shrinkK, Option.some.injEq, Out.ret.injEq] at g4
          obtain ⟨rfl, rfl⟩ := g4
          exact hQ .ret _ _ ⟨⟨F', O', δ', g1, retK_of g5 g6 ho⟩, g3⟩
        | _ => exact hp.elim

theorem den_sound (hT : okT P c.T = true) (hS : ∀ f S, look c.S f = some S → Meets c.G P f S) (hm : P.follows .mixedOrders = true) {V : Nat → Value} : ∀ (b : Code) (bid : Nat), okCode c bid b = true → ∀ (F : Nat → Prop) (O : Nat → Option (Nat × Nat)) (a : Act) (w : World) (δ : List D),
    Inv c B X w0 F0 F O a w δ → IoV c V a → ∀ (k : Out → Option Out) (r : Out), den c bid b δ k = some r → ∀ Q, (∀ e a w, Post c B X w0 F0 V k r e a w → Q e a w) → b.wp P Q a w
  | .skip, bid, _, F, O, a, w, δ, hI, hV, k, r, hg, Q, hQ => wp_skip (hQ _ _ _ ⟨⟨F, O, δ, hI, hg⟩, hV⟩)
  | .region id ops d, bid, hok, F, O, a, w, δ, hI, hV, k, r, hg, Q, hQ => by
    simp only [okCode, Bool.and_eq_true, List.all_eq_true] at hok
    have hq : ∀ a w, NextV c B X w0 F0 V (fun δ => k (.nrm δ)) r a w → Q .normal a w := fun a w h => hQ _ _ _ h
    cases d
    · exact wp_region_list (list_sound hT hS hq ops.toList hok.1 F O a w δ hI hV hg)
    · exact any_sound hT hS (by simpa using hok.2) hm hq hok.1 hI hV hg id
  | .seq x y, bid, hok, F, O, a, w, δ, hI, hV, k, r, hg, Q, hQ => by
    simp only [okCode, Bool.and_eq_true] at hok
    refine wp_seq (den_sound hT hS hm x bid hok.1 F O a w δ hI hV _ r hg _ (fun e a' w' hp => ?_))
    cases e with
    | normal =>
      obtain ⟨⟨F', O', δ', hI', hk'⟩, hV'⟩ := hp
      exact den_sound hT hS hm y bid hok.2 F' O' a' w' δ' hI' hV' k r hk' Q hQ
    | exit id => exact hQ _ _ _ hp
    | ret => exact hQ _ _ _ hp
    | _ => exact hp.elim
  | .cond x t e, bid, hok, F, O, a, w, δ, hI, hV, k, r, hg, Q, hQ => by
    simp only [okCode, Bool.and_eq_true] at hok
    obtain ⟨⟨hlv, hok1⟩, hok2⟩ := hok
    have hop := hI.opd (ble_iff.1 hlv)
    have key : ifD (opD δ x) (den c bid t δ k) (den c bid e δ k) = some r := by
      simp only [den] at hg
      cases x with
      | tmp s => simpa only [opC, nthC_eq, opD] using hg
      | const v => simpa only [opC, opD] using hg
      | func f => simpa only [opC, opD] using hg
      | global g => simp [opC] at hg
    unfold ifD at key
    split at key
    · rename_i hd
      rw [hd] at hop
      exact wp_cond_true (RepB_v hop).1 (den_sound hT hS hm t bid hok1 F O a w δ hI hV k r key Q hQ)
    · rename_i hd
      rw [hd] at hop
      exact wp_cond_false (RepB_v hop).1 (den_sound hT hS hm e bid hok2 F O a w δ hI hV k r key Q hQ)
    · cases key
  | .block id b, bid, hok, F, O, a, w, δ, hI, hV, k, r, hg, Q, hQ => by
    simp only [okCode] at hok
    refine wp_block (den_sound hT hS hm b id hok F O a w δ hI hV _ r hg _ (fun e a' w' hp => ?_))
    cases e with
    | normal => exact hQ .normal _ _ hp
    | exit i =>
      simp only [Exit.inBlock]
      have hp' : NextV c B X w0 F0 V (fun δ => blkK id (.ext i δ) k) r a' w' := hp
      split
      · rename_i hi
        refine hQ .normal _ _ (NextV_mono hp' fun δ F O _ h => ?_)
        simp only [blkK] at h
        rw [beq_iff.2 (by simpa using hi)] at h
        exact h
      · rename_i hi
        refine hQ (.exit i) _ _ (NextV_mono hp' fun δ F O _ h => ?_)
        simp only [blkK] at h
        cases hb : Nat.beq i id
        · rw [hb] at h; exact h
        · exact absurd (by simpa using beq_iff.1 hb) hi
    | ret => exact hQ .ret _ _ hp
    | _ => exact hp.elim
  | .loop b, bid, hok, F, O, a, w, δ, hI, hV, k, r, hg, Q, hQ => by
    simp only [okCode, Bool.and_eq_true] at hok
    obtain ⟨hok1, hok2⟩ := hok
    simp only [den] at hg
    cases hH : look c.H bid with
    | none => rw [hH] at hg; cases hg
    | some hx =>
      obtain ⟨hl, xl⟩ := hx
      rw [hH] at hg hok2
      simp only [Bool.and_eq_true] at hok2
      simp only [getC_eq] at hg
      obtain ⟨o', h1, h2⟩ := Option.bind_eq_some_iff.1 hg
      unfold loopC at h1
      split at h1
      case isFalse => cases h1
      rename_i hex
      refine wp_loop_rounds (Classical.choose hex) ?_
      refine loop_rounds (hl := hl) (xl := xl) hok2.1 hok2.2 (fun F O a w δ hI hV k r hg Q hQ => den_sound hT hS hm b bid hok1 F O a w δ hI hV k r hg Q hQ) hQ h2 _ F O a w δ hI hV h1
  | .exit id, bid, _, F, O, a, w, δ, hI, hV, k, r, hg, Q, hQ => wp_exit (hQ _ _ _ ⟨⟨F, O, δ, hI, hg⟩, hV⟩)
  | .ret, bid, _, F, O, a, w, δ, hI, hV, k, r, hg, Q, hQ => wp_ret (hQ _ _ _ ⟨⟨F, O, δ, hI, hg⟩, hV⟩)
  | .label _, _, hok, _, _, _, _, _, _, _, _, _, _, _, _ => by simp [okCode] at hok
  | .goto _, _, hok, _, _, _, _, _, _, _, _, _, _, _, _ => by simp [okCode] at hok
  | .scope _, _, hok, _, _, _, _, _, _, _, _, _, _, _, _ => by simp [okCode] at hok

end
end Go.V
/-
  A whole function: its contract.
-/
namespace Go.V
open Go.RowKit

def tmpsOf : List ResultVar → List Nat
  | [] => []
  | .tmp t :: l => t :: tmpsOf l
  | .cell _ _ :: l => tmpsOf l
def okRes (c : Cx) : List ResultVar → List Kd → Bool
  | [], [] => true
  | .tmp t :: l, .dat lv :: m => (match nthK c.K t with
    | .dat l' => Nat.ble l' lv
    | _ => false) && okRes c l m
  | .tmp t :: l, .own z lv false :: m => (match nthK c.K t with
    | .own z' l' false => Nat.beq z' z && Nat.ble l' lv
    | _ => false) && !memN t (tmpsOf l) && okRes c l m
  | .cell s t :: l, .dat lv :: m => (match nthK c.K s with
    | .box _ l' _ => Nat.ble l' lv
    | _ => false) && (look c.T t).isSome && okRes c l m
  | _, _ => false
def ioIdx : Nat → List Kd → List Nat
  | _, [] => []
  | i, k :: ks => if isIo k then i :: ioIdx (i + 1) ks else ioIdx (i + 1) ks
def eqK : Kd → Kd → Bool
  | .dat a, .dat b => Nat.beq a b
  | .own a b io, .own a' b' io' => Nat.beq a a' && Nat.beq b b' && io == io'
  | .box a b io, .box a' b' io' => Nat.beq a a' && Nat.beq b b' && io == io'
  | _, _ => false
def prefK : List Kd → List Kd → Bool
  | [], _ => true
  | k :: ks, l :: ls => eqK k l && prefK ks ls
  | _, _ => false

section
variable {P : Program} {c : Cx} {B : Nat} {X : Nat → Prop} {w0 : World} {F0 F : Nat → Prop} {O : Nat → Option (Nat × Nat)} {a : Act} {w : World} {δ : List D}

def getRes (tmps : Array Value) : ResultVar → Sem Value
  | .tmp t => pure (tmps.getD t undef)
  | .cell a t => do loadVar t (← asAddr (tmps.getD a undef))

theorem eqK_eq {k l : Kd} (h : eqK k l = true) : k = l := by
  unfold eqK at h
  split at h
  · rw [beq_iff] at h; rw [h]
  · simp only [Bool.and_eq_true, beq_iff, beq_iff_eq] at h
    obtain ⟨⟨rfl, rfl⟩, rfl⟩ := h; rfl
  · simp only [Bool.and_eq_true, beq_iff, beq_iff_eq] at h
    obtain ⟨⟨rfl, rfl⟩, rfl⟩ := h; rfl
  · cases h
theorem prefK_nth : ∀ {ks ls : List Kd}, prefK ks ls = true → ks.length ≤ ls.length ∧ ∀ (i : Nat), i < ks.length → nthK ls i = nthK ks i
  | [], _, _ => ⟨by simp, by simp⟩
  | k :: ks, l :: ls, h => by
    simp only [prefK, Bool.and_eq_true] at h
    obtain ⟨h1, h2⟩ := prefK_nth h.2
    refine ⟨by simp; exact h1, fun i hi => ?_⟩
    cases i with
    | zero => simp only [nthK]; exact (eqK_eq h.1).symm
    | succ i => simp only [nthK]; exact h2 i (by simpa using hi)
  | _ :: _, [], h => by simp [prefK] at h

def resOwn (B : Nat) (O : Nat → Option (Nat × Nat)) (res : List ResultVar) (j : Nat) (g : Nat) : Prop := B ≤ g ∧ ∃ t, res[j]? = some (.tmp t) ∧ O g = some (t, 0)

theorem ResOk_mono {w : World} {F : Nat → Prop} {B : Nat} {own own' : Nat → Prop} {k : Kd} {d : D} {y : Value} (ho : (∃ z lv, k = .own z lv false) → ∀ g, own g → own' g) (h : ResOk w F B own k d y) : ResOk w F B own' k d y := by
  rcases h with h | h
  · exact .inl h
  · refine .inr ?_
    cases k with
    | own z lv io =>
      cases io
      · exact h.own fun _ _ hg => ⟨ho ⟨z, lv, rfl⟩ _ hg.1, hg.2⟩
      · exact h
    | _ => exact h

theorem res_run (hT : okT P c.T = true) (hI : Inv c B X w0 F0 F O a w δ) : ∀ (res : List ResultVar) (rm : List Kd) (rs : List D), okRes c res rm = true → resC c δ res (fun rs => some (.nrm rs)) = some (.nrm rs) →
    ∃ vs : List Value, (res.mapM (getRes a.tmps)).run P w = .ok vs w ∧ vs.length = rm.length ∧ rs.length = rm.length ∧ ∀ j, ResOk w F B (resOwn B O res j) (nthK rm j) (nth rs j) (vs.getD j undef)
  | [], [], rs, _, h => by
    simp only [resC, Option.some.injEq, Out.nrm.injEq] at h
    subst h
    exact ⟨[], by simp, rfl, rfl, fun j => .inl (by simp [nth])⟩
  | .tmp t :: l, .dat lv :: m, rs, hok, h => by
    simp only [okRes, Bool.and_eq_true] at hok
    simp only [resC, nthC_eq] at h
    rw [resC_nat] at h
    obtain ⟨o, h1, h2⟩ := Option.bind_eq_some_iff.1 h
    split at h2
    case h_2 => cases h2
    rename_i rs'
    simp only [Option.some.injEq, Out.nrm.injEq] at h2
    subst h2
    obtain ⟨vs, g1, g2, g3, g4⟩ := res_run hT hI l m rs' hok.2 h1
    refine ⟨a.tmps.getD t undef :: vs, by simp [List.mapM_cons, getRes, g1], by simp [g2], by simp [g3], fun j => ?_⟩
    cases j with
    | zero =>
      simp only [nthK, nth, List.getD_cons_zero]
      have hk := hok.1
      split at hk
      case h_2 => cases hk
      rename_i l' hkt
      exact (RepB_le (ble_iff.1 hk) (hI.dat hkt))
    | succ j =>
      refine ResOk_mono (fun _ g hg => ?_) (g4 j)
      obtain ⟨e1, t', e2, e3⟩ := hg
      exact ⟨e1, t', by simpa using e2, e3⟩
  | .tmp t :: l, .own z lv false :: m, rs, hok, h => by
    simp only [okRes, Bool.and_eq_true] at hok
    simp only [resC, nthC_eq] at h
    rw [resC_nat] at h
    obtain ⟨o, h1, h2⟩ := Option.bind_eq_some_iff.1 h
    split at h2
    case h_2 => cases h2
    rename_i rs'
    simp only [Option.some.injEq, Out.nrm.injEq] at h2
    subst h2
    obtain ⟨vs, g1, g2, g3, g4⟩ := res_run hT hI l m rs' hok.2 h1
    refine ⟨a.tmps.getD t undef :: vs, by simp [List.mapM_cons, getRes, g1], by simp [g2], by simp [g3], fun j => ?_⟩
    cases j with
    | zero =>
      simp only [nthK, nth, List.getD_cons_zero]
      have hk := hok.1.1
      split at hk
      case h_2 => cases hk
      rename_i z' l' hkt
      simp only [Bool.and_eq_true, beq_iff, ble_iff] at hk
      obtain ⟨rfl, hle⟩ := hk
      by_cases hb : nth δ t = .bad
      · exact .inl hb
      · exact .inr (OwnV_mono' (FB_le hle) (fun _ _ => rfl) (fun g _ hg => ⟨⟨⟨hg.2 rfl, t, rfl, hg.1⟩, hg.2 rfl⟩, rfl⟩) (hI.own hkt hb))
    | succ j =>
      refine ResOk_mono (fun _ g hg => ?_) (g4 j)
      obtain ⟨e1, t', e2, e3⟩ := hg
      exact ⟨e1, t', by simpa using e2, e3⟩
  | .cell s t :: l, .dat lv :: m, rs, hok, h => by
    simp only [okRes, Bool.and_eq_true] at hok
    simp only [resC] at h
    split at h
    case h_2 => cases h
    rename_i i hi
    simp only [nthC_eq] at h
    obtain ⟨y, hy, h⟩ := Option.bind_eq_some_iff.1 h
    rw [resC_nat] at h
    obtain ⟨o, h1, h2⟩ := Option.bind_eq_some_iff.1 h
    split at h2
    case h_2 => cases h2
    rename_i rs'
    simp only [Option.some.injEq, Out.nrm.injEq] at h2
    subst h2
    obtain ⟨vs, g1, g2, g3, g4⟩ := res_run hT hI l m rs' hok.2 h1
    have hk := hok.1.1
    split at hk
    case h_2 => cases hk
    rename_i n l' io hks
    rw [ble_iff] at hk
    have hb : nth δ s ≠ .bad := by
      intro e
      rw [e] at hy
      simp [fldD] at hy
    obtain ⟨mm, us, g, e, hd', a1, a2, a3, a4, a5, a6⟩ := hI.box hks hb
    rw [hd'] at hy
    simp only [fldD, List.drop_zero] at hy
    have hcell : CellsAt w g 0 us := cells_at a2 (fun i u hu => by simpa using hu)
    obtain ⟨v, hv, hr⟩ := load_run (P := P) (tok hT hi) a3 a4 hcell hy
    have hv' : (getRes a.tmps (.cell s t)).run P w = .ok v w := by
      have e1 : a.tmps.getD s undef = .pointer (some ⟨g, 0, none⟩) := a1
      simp only [getRes, e1]
      simpa [Instr.loadAt, Instr.sureAddr, asAddr] using hv
    refine ⟨v :: vs, by simp [List.mapM_cons, hv', g1], by simp [g2], by simp [g3], fun j => ?_⟩
    cases j with
    | zero =>
      simp only [nthK, nth, List.getD_cons_zero]
      exact .inr (RepV_mono (FB_le hk) (fun _ _ => rfl) hr)
    | succ j =>
      refine ResOk_mono (fun _ g hg => ?_) (g4 j)
      obtain ⟨e1, t', e2, e3⟩ := hg
      exact ⟨e1, t', by simpa using e2, e3⟩
  | [], _ :: _, _, hok, _ => by simp [okRes] at hok
  | .tmp _ :: _, [], _, hok, _ => by simp [okRes] at hok
  | .cell _ _ :: _, [], _, hok, _ => by simp [okRes] at hok
  | .tmp _ :: _, .own _ _ true :: _, _, hok, _ => by simp [okRes] at hok
  | .tmp _ :: _, .box _ _ _ :: _, _, hok, _ => by simp [okRes] at hok
  | .tmp _ :: _, .via _ :: _, _, hok, _ => by simp [okRes] at hok
  | .tmp _ :: _, .ref _ :: _, _, hok, _ => by simp [okRes] at hok
  | .tmp _ :: _, .tup _ :: _, _, hok, _ => by simp [okRes] at hok
  | .tmp _ :: _, .no :: _, _, hok, _ => by simp [okRes] at hok
  | .cell _ _ :: _, .own _ _ _ :: _, _, hok, _ => by simp [okRes] at hok
  | .cell _ _ :: _, .box _ _ _ :: _, _, hok, _ => by simp [okRes] at hok
  | .cell _ _ :: _, .via _ :: _, _, hok, _ => by simp [okRes] at hok
  | .cell _ _ :: _, .ref _ :: _, _, hok, _ => by simp [okRes] at hok
  | .cell _ _ :: _, .tup _ :: _, _, hok, _ => by simp [okRes] at hok
  | .cell _ _ :: _, .no :: _, _, hok, _ => by simp [okRes] at hok

/-! ### a whole function -/
def resIx : List ResultVar → Nat → Nat → Option Nat
  | [], _, _ => none
  | .tmp t :: l, s, j => if t = s then some j else resIx l s (j + 1)
  | .cell _ _ :: l, s, j => resIx l s (j + 1)

theorem tmpsOf_mem : ∀ {res : List ResultVar} {j t : Nat}, res[j]? = some (.tmp t) → t ∈ tmpsOf res
  | .tmp s :: l, 0, t, h => by simp at h; simp [tmpsOf, h]
  | .cell _ _ :: l, 0, t, h => by simp at h
  | .tmp s :: l, j + 1, t, h => by simp only [tmpsOf, List.mem_cons]; exact .inr (tmpsOf_mem (by simpa using h))
  | .cell _ _ :: l, j + 1, t, h => by simp only [tmpsOf]; exact tmpsOf_mem (by simpa using h)

theorem resIx_own : ∀ (res : List ResultVar) (rm : List Kd), okRes c res rm = true → ∀ (j t i : Nat) (z lv : Nat), nthK rm j = .own z lv false → res[j]? = some (.tmp t) → resIx res t i = some (i + j) ∧ ∃ z' l', nthK c.K t = .own z' l' false
  | [], [], _, j, t, i, z, lv, h, _ => by simp [nthK] at h
  | .tmp s :: l, .dat lv' :: m, hok, j, t, i, z, lv, h, hj => by
    simp only [okRes, Bool.and_eq_true] at hok
    cases j with
    | zero => simp [nthK] at h
    | succ j =>
      obtain ⟨h1, h2⟩ := resIx_own l m hok.2 j t (i + 1) z lv (by simpa [nthK] using h) (by simpa using hj)
      refine ⟨?_, h2⟩
      simp only [resIx]
      rw [if_neg, h1]
      · congr 1; omega
      · rintro rfl
        obtain ⟨z', l', hk⟩ := h2
        rw [hk] at hok
        cases hok.1
  | .tmp s :: l, .own z0 lv0 false :: m, hok, j, t, i, z, lv, h, hj => by
    simp only [okRes, Bool.and_eq_true] at hok
    cases j with
    | zero =>
      simp at hj
      subst hj
      refine ⟨by simp [resIx], ?_⟩
      have hk := hok.1.1
      split at hk
      · exact ⟨_, _, ‹_›⟩
      · cases hk
    | succ j =>
      obtain ⟨h1, h2⟩ := resIx_own l m hok.2 j t (i + 1) z lv (by simpa [nthK] using h) (by simpa using hj)
      refine ⟨?_, h2⟩
      simp only [resIx]
      rw [if_neg, h1]
      · congr 1; omega
      · rintro rfl
        have hm := hok.1.2
        rw [memN_eq] at hm
        simp only [Bool.not_eq_true', decide_eq_false_iff_not] at hm
        exact hm (tmpsOf_mem (by simpa using hj))
  | .cell s s' :: l, .dat lv' :: m, hok, j, t, i, z, lv, h, hj => by
    simp only [okRes, Bool.and_eq_true] at hok
    cases j with
    | zero => simp [nthK] at h
    | succ j =>
      obtain ⟨h1, h2⟩ := resIx_own l m hok.2 j t (i + 1) z lv (by simpa [nthK] using h) (by simpa using hj)
      refine ⟨?_, h2⟩
      simp only [resIx]
      rw [h1]
      congr 1; omega
  | [], _ :: _, hok, _, _, _, _, _, _, _ => by simp [okRes] at hok
  | .tmp _ :: _, [], hok, _, _, _, _, _, _, _ => by simp [okRes] at hok
  | .cell _ _ :: _, [], hok, _, _, _, _, _, _, _ => by simp [okRes] at hok
  | .tmp _ :: _, .own _ _ true :: _, hok, _, _, _, _, _, _, _ => by simp [okRes] at hok
  | .tmp _ :: _, .box _ _ _ :: _, hok, _, _, _, _, _, _, _ => by simp [okRes] at hok
  | .tmp _ :: _, .via _ :: _, hok, _, _, _, _, _, _, _ => by simp [okRes] at hok
  | .tmp _ :: _, .ref _ :: _, hok, _, _, _, _, _, _, _ => by simp [okRes] at hok
  | .tmp _ :: _, .tup _ :: _, hok, _, _, _, _, _, _, _ => by simp [okRes] at hok
  | .tmp _ :: _, .no :: _, hok, _, _, _, _, _, _, _ => by simp [okRes] at hok
  | .cell _ _ :: _, .own _ _ _ :: _, hok, _, _, _, _, _, _, _ => by simp [okRes] at hok
  | .cell _ _ :: _, .box _ _ _ :: _, hok, _, _, _, _, _, _, _ => by simp [okRes] at hok
  | .cell _ _ :: _, .via _ :: _, hok, _, _, _, _, _, _, _ => by simp [okRes] at hok
  | .cell _ _ :: _, .ref _ :: _, hok, _, _, _, _, _, _, _ => by simp [okRes] at hok
  | .cell _ _ :: _, .tup _ :: _, hok, _, _, _, _, _, _, _ => by simp [okRes] at hok
  | .cell _ _ :: _, .no :: _, hok, _, _, _, _, _, _, _ => by simp [okRes] at hok

theorem ArgsOk_at {w : World} {F : Nat → Prop} {ow : Nat → Option Nat} : ∀ (pm : List Kd) (ds : List D) (ys : List Value) (i : Nat), ArgsOk w F ow i pm ds ys → ds.length = pm.length ∧ ys.length = pm.length ∧ ∀ (j : Nat), j < pm.length → ArgOk w F (fun g => ow g = some (i + j)) (nthK pm j) (nth ds j) (ys.getD j undef)
  | [], [], [], _, _ => ⟨rfl, rfl, fun j h => by simp at h⟩
  | k :: pm, d :: ds, y :: ys, i, h => by
    obtain ⟨h1, h2⟩ := h
    obtain ⟨g1, g2, g3⟩ := ArgsOk_at pm ds ys (i + 1) h2
    refine ⟨by simp [g1], by simp [g2], fun j hj => ?_⟩
    cases j with
    | zero => exact h1
    | succ j =>
      have := g3 j (by simpa using hj)
      simp only [nthK, nth, List.getD_cons_succ]
      rw [show i + (j + 1) = i + 1 + j from by omega]
      exact this
  | [], [], _ :: _, _, h => h.elim
  | [], _ :: _, _, _, h => h.elim
  | _ :: _, [], _, _, h => h.elim
  | _ :: _, _ :: _, [], _, h => h.elim

theorem UsOk_of {w : World} {F : Nat → Prop} {δ : List D} : ∀ (pm : List Kd) (ys : List Value) (i : Nat), ys.length = pm.length → (∀ (j : Nat), j < pm.length → isIo (nthK pm j) = true → nth δ (i + j) ≠ .bad ∧ ArgOk w F (fun _ => True) (nthK pm j) (nth δ (i + j)) (ys.getD j undef)) → UsOk w F pm (getAll δ (ioIdx i pm)) ys
  | [], ys, i, _, _ => by simp [ioIdx, getAll, UsOk]
  | k :: pm, [], i, hl, _ => by simp at hl
  | k :: pm, y :: ys, i, hl, h => by
    have ih := UsOk_of pm ys (i + 1) (by simpa using hl) (fun j hj hio => by
      have := h (j + 1) (by simpa using hj) (by simpa [nthK] using hio)
      rw [show i + 1 + j = i + (j + 1) from by omega]
      simpa [nthK] using this)
    cases hk : isIo k with
    | true =>
      have h0 := h 0 (by simp) (by simpa [nthK] using hk)
      simp only [ioIdx, hk, if_true, getAll, UsOk]
      exact ⟨by simpa using h0.1, by simpa [nthK] using h0.2, ih⟩
    | false => simpa only [ioIdx, hk, Bool.false_eq_true, if_false, UsOk] using ih

theorem ioIdx_mem : ∀ (pm : List Kd) (i j : Nat), j < pm.length → isIo (nthK pm j) = true → i + j ∈ ioIdx i pm
  | k :: pm, i, 0, _, h => by
    simp only [nthK] at h
    simp [ioIdx, h]
  | k :: pm, i, j + 1, hj, h => by
    have ih := ioIdx_mem pm (i + 1) j (by simpa using hj) (by simpa [nthK] using h)
    rw [show i + (j + 1) = i + 1 + j from by omega]
    simp only [ioIdx]
    split
    · exact List.mem_cons_of_mem _ ih
    · exact ih

theorem padTo_nth : ∀ (n : Nat) (l : List D) (s : Nat), l.length ≤ n → nth (padTo n l) s = nth l s
  | 0, l, s, h => by
    have : l = [] := List.eq_nil_of_length_eq_zero (by omega)
    subst this
    simp [padTo]
  | n + 1, [], s, _ => by
    cases s with
    | zero => simp [nth]
    | succ s => simp only [nth]; rw [padTo_nth n [] s (by simp)]
  | n + 1, d :: l, s, h => by
    cases s with
    | zero => simp [nth]
    | succ s => simp only [nth]; exact padTo_nth n l s (by simpa using h)
theorem padTo_len : ∀ (n : Nat) (l : List D), (padTo n l).length = n
  | 0, _ => rfl
  | n + 1, [] => by simp [padTo, padTo_len n []]
  | n + 1, _ :: l => by simp [padTo, padTo_len n l]

/-- What is checked of a function. -/
def okFn (c : Cx) (fn : Func) (pm rm : List Kd) : Bool :=
  (match fn.body with
    | some b => okCode c 0 b
    | none => false) && Nat.beq (lenN c.K) fn.ntmps && prefK pm c.K && okPm pm && okRes c c.res rm && decide (c.ios = ioIdx 0 pm)

theorem okPm_at : ∀ {pm : List Kd}, okPm pm = true → ∀ j, j < pm.length → (∃ lv, nthK pm j = .dat lv ∧ lv ≠ 1) ∨ (∃ z lv, nthK pm j = .own z lv true ∧ lv ≠ 1) ∨ ∃ n lv, nthK pm j = .box n lv true ∧ lv ≠ 1
  | m :: pm, h, j, hj => by
    obtain ⟨h1, h2, h3⟩ := okPm_tail h
    cases j with
    | succ j => exact okPm_at h1 j (by simpa using hj)
    | zero =>
      simp only [nthK]
      cases m with
      | dat lv =>
        refine .inl ⟨lv, rfl, ?_⟩
        simp only [okPm] at h
        split at h
        case h_2 => cases h
        rename_i e1 e2
        intro e; subst e; simp at e1
      | own z lv io =>
        cases io
        · simp [okPm] at h
        · exact .inr (.inl ⟨z, lv, rfl, h2 z lv rfl⟩)
      | box n lv io =>
        cases io
        · simp [okPm] at h
        · exact .inr (.inr ⟨n, lv, rfl, h3 n lv rfl⟩)
      | _ => simp [okPm] at h

theorem fn_calls (hT : okT P c.T = true) (hS : ∀ f S, look c.S f = some S → Meets c.G P f S) (hm : P.follows .mixedOrders = true) {f : FuncId} {fn : Func} (hf : P.funcs[f]? = some fn) {pm rm : List Kd} (hok : okFn c fn pm rm = true) (hres : c.res = fn.results.toList)
    {ds rs us : List D} (hd : denF c fn ds = some (.ret rs us)) {args : Array Value} {w : World} {F : Nat → Prop} {ow : Nat → Option Nat} (hgl : gOk c.G w F) (ha : ArgsOk w F ow 0 pm ds args.toList) (hF : ∀ b, F b → b < w.heap.size ∧ ow b = none) (hO : ∀ b i, ow b = some i → b < w.heap.size) :
    Calls P f args w fun e w' => ∃ v, e = .returned v ∧ ∃ F' R vs, v = resV vs ∧ CallPost { pm := pm, rm := rm, f := denF c fn } args rs us w F ow F' R vs w' := by
  unfold okFn at hok
  simp only [Bool.and_eq_true, decide_eq_true_eq] at hok
  obtain ⟨⟨⟨⟨⟨hcode, hlenK⟩, hpre⟩, hpm⟩, hokr⟩, hios⟩ := hok
  rw [beq_iff, lenN_eq] at hlenK
  obtain ⟨hpl, hpn⟩ := prefK_nth hpre
  obtain ⟨hdl, hal, hargs⟩ := ArgsOk_at pm ds args.toList 0 ha
  have hasz : args.size = pm.length := by simpa using hal
  unfold denF at hd
  cases hb : fn.body with
  | none => rw [hb] at hd; cases hd
  | some b =>
    rw [hb] at hd hcode
    simp only at hd hcode
    refine calls_of_wp hf hb ?_
    have hav : ∀ s, s < pm.length → av ({ tmps := args ++ Array.replicate (fn.ntmps - args.size) undef, defers := [] } : Act) s = args.toList.getD s undef := fun s hs => by
      have h1 : s < args.size := by omega
      simp only [av, Array.getD_eq_getD_getElem?, List.getD_eq_getElem?_getD, Array.getElem?_toList]
      rw [Array.getElem?_append_left h1]
    have hinit : Inv c w.heap.size (fun b => ow b ≠ none) w F F (fun b => (ow b).map fun i => (i, 0)) { tmps := args ++ Array.replicate (fn.ntmps - args.size) undef, defers := [] } w (padTo fn.ntmps ds) := by
      refine ⟨by simp; omega, by rw [padTo_len, hlenK], rfl, fun s => ?_, fun b hb => ⟨(hF b hb).1, by simp [(hF b hb).2]⟩, fun b p hp => ?_, fun _ h => h, fun _ h => .inl h, Nat.le_refl _, rfl, rfl, rfl, fun _ _ _ => rfl, hgl⟩
      · unfold SlotOk
        rw [padTo_nth _ _ _ (by rw [hdl]; omega)]
        by_cases hs : s < pm.length
        · rw [hpn s hs, hav s hs]
          rcases hargs s hs with hbad | harg
          · exact .inl hbad
          refine .inr ?_
          have hlv : ∀ lv, lv ≠ 1 → ∀ b, FB F 0 lv b → FB F w.heap.size lv b := fun lv h1 b hb => by
            match lv, h1 with
            | 0, _ => exact hb
            | _ + 2, _ => exact hb
          rcases okPm_at hpm s hs with ⟨lv, hk, h1⟩ | ⟨z, lv, hk, h1⟩ | ⟨n, lv, hk, h1⟩
          · rw [hk] at harg ⊢
            exact .inr (RepV_mono (hlv lv h1) (fun _ _ => rfl) harg)
          · rw [hk] at harg ⊢
            exact .inr (OwnV_mono' (hlv lv h1) (fun _ _ => rfl) (fun g _ hg => ⟨⟨by simp only [Nat.zero_add] at hg; simp [hg], fun h => by cases h⟩, rfl⟩) harg)
          · rw [hk] at harg ⊢
            exact .inr (BoxV_mono' (hlv lv h1) (fun _ _ => rfl) (fun g _ hg => ⟨⟨by simp only [Nat.zero_add] at hg; simp [hg], fun h => by cases h⟩, rfl⟩) harg)
        · refine .inl ?_
          rw [nth_eq, List.getD_eq_getElem?_getD, List.getElem?_eq_none (by omega)]
          rfl
      · obtain ⟨i, hi, rfl⟩ := Option.map_eq_some_iff.1 hp
        exact ⟨hO b i hi, .inr (by rw [hi]; simp)⟩
    refine den_sound hT hS hm b 0 hcode F _ _ w _ hinit (V := av { tmps := args ++ Array.replicate (fn.ntmps - args.size) undef, defers := [] }) (fun _ _ => rfl) _ _ hd _ (fun e a' w' hp => ?_)
    have fin : NextV c w.heap.size (fun b => ow b ≠ none) w F (av { tmps := args ++ Array.replicate (fn.ntmps - args.size) undef, defers := [] }) (fun δ => retK c δ some) (.ret rs us) a' w' → a'.defers = [] ∧ ∃ v, (results fn a'.tmps).run P w' = .ok v w' ∧ ∃ v', Ending.returned v = .returned v' ∧ ∃ F' R vs, v' = resV vs ∧ CallPost { pm := pm, rm := rm, f := denF c fn } args rs us w F ow F' R vs w' := by
      rintro ⟨⟨F', O', δ', hI', hk⟩, hV'⟩
      obtain ⟨rs', h1, h2, h3⟩ := retK_is hk
      simp only [Option.some.injEq, Out.ret.injEq] at h3
      obtain ⟨rfl, rfl⟩ := h3
      obtain ⟨vs, g1, g2, g3, g4⟩ := res_run (P := P) hT hI' c.res rm rs' hokr h1
      refine ⟨hI'.df, resV vs, ?_, _, rfl, F', fun b => if w.heap.size ≤ b then (match O' b with
        | some (t, 0) => resIx c.res t 0
        | _ => none) else none, vs, rfl, ?_⟩
      · have hrun : (fn.results.mapM (getRes a'.tmps)).run P w' = .ok vs.toArray w' := by
          rw [Array.mapM_eq_mapM_toList, ← hres]
          simp [g1]
        have hrw : results fn a'.tmps = (do
            let vs ← fn.results.mapM (getRes a'.tmps)
            pure (if h : vs.size = 1 then vs[0] else .tuple vs)) := by
          unfold results
          congr 1
        rw [hrw]
        simp only [Sem.run_bind, hrun, Result.andThen_ok, Sem.run_pure]
        congr 1
        rcases vs with _ | ⟨y, _ | ⟨y', vs⟩⟩
        · simp [resV]
        · simp [resV]
        · simp [resV]
      · refine ⟨hI'.os, hI'.tape, hI'.output, hI'.bb, fun b hb ho => hI'.keep b hb (by simp [ho]), hI'.f0, fun b hb => ⟨hI'.fn b hb, (hI'.fl b hb).1, by simp only [(hI'.fl b hb).2]; split <;> rfl⟩, fun b j hj => ?_, g2, g3, fun j => ?_, ?_⟩
        · split at hj
          case isFalse => cases hj
          rename_i hB
          refine ⟨hB, ?_⟩
          split at hj
          · rename_i t he; exact (hI'.ol b _ he).1
          · cases hj
        · refine ResOk_mono (fun hk g hg => ?_) (g4 j)
          obtain ⟨z, lv, hk⟩ := hk
          obtain ⟨e1, t, e2, e3⟩ := hg
          rw [if_pos e1]
          simp only [e3]
          have := (resIx_own c.res rm hokr j t 0 z lv hk e2).1
          simpa using this
        · rw [hios]
          refine UsOk_of pm args.toList 0 hal (fun j hj hio => ?_)
          rw [Nat.zero_add]
          have hkj := hpn j hj
          have hbj : nth δ' j ≠ .bad := by
            refine h2 _ ?_
            rw [hios, getAll_map]
            exact List.mem_map_of_mem (by simpa using ioIdx_mem pm 0 j hj hio)
          have havj : av a' j = args.toList.getD j undef := (hV' j (by rw [hkj]; exact hio)).trans (hav j hj)
          have hlv : ∀ lv, lv ≠ 1 → ∀ b, FB F' w.heap.size lv b → FB F' 0 lv b := fun lv h1 b hb => by
            match lv, h1 with
            | 0, _ => exact hb
            | _ + 2, _ => exact hb
          refine ⟨hbj, .inr ?_⟩
          rcases okPm_at hpm j hj with ⟨lv, hk, h1⟩ | ⟨z, lv, hk, h1⟩ | ⟨n, lv, hk, h1⟩
          · rw [hk] at hio; cases hio
          · have h5 := hI'.own (hkj.trans hk) hbj
            rw [havj] at h5
            rw [hk]
            exact OwnV_mono' (hlv lv h1) (fun _ _ => rfl) (fun _ _ _ => ⟨trivial, rfl⟩) h5
          · have h5 := hI'.box (hkj.trans hk) hbj
            rw [havj] at h5
            rw [hk]
            exact BoxV_mono' (hlv lv h1) (fun _ _ => rfl) (fun _ _ _ => ⟨trivial, rfl⟩) h5
    cases e with
    | normal => exact fin hp
    | exit i =>
      obtain ⟨⟨_, _, _, _, h⟩, _⟩ := hp
      cases h
    | ret =>
      refine fin (NextV_mono hp fun δ F O _ h => ?_)
      obtain ⟨rs', h1, h2, h3⟩ := retK_is h
      exact retK_of h1 h2 h3
    | _ => exact hp.elim

theorem meets_of (hT : okT P c.T = true) (hS : ∀ f S, look c.S f = some S → Meets c.G P f S) (hm : P.follows .mixedOrders = true) {f : FuncId} {fn : Func} (hf : P.funcs[f]? = some fn) (hname : (fn.name == "runtime.NumGoroutine") = false) {pm rm : List Kd} (hok : okFn c fn pm rm = true) (hres : c.res = fn.results.toList) :
    Meets c.G P f { pm := pm, rm := rm, f := denF c fn } := by
  intro ds rs us hd args w F ow hgl ha hF hO o a next Q hn
  have hbody : ∃ b, fn.body = some b := by
    have hd' : denF c fn ds = some (.ret rs us) := hd
    unfold denF at hd'
    cases hb : fn.body with
    | none => rw [hb] at hd'; cases hd'
    | some b => exact ⟨b, rfl⟩
  obtain ⟨b, hb⟩ := hbody
  have hrun : (callFunc f args).run P w = .ok (.enter f args) w := by
    have h1 : ¬ fn.name = "runtime.NumGoroutine" := by simpa using hname
    simp [callFunc, hf, h1, hb]
  rw [hrun, Oper.upon_enter]
  refine Calls.mono (fn_calls hT hS hm hf hok hres hd hgl ha hF hO) (fun e w' he => ?_)
  obtain ⟨v, rfl, F', R, vs, h1, h2⟩ := he
  exact hn v w' ⟨F', R, vs, h1, h2⟩

end
end Go.V
/-
  Contracts looked up.
-/
namespace Go.V

/-- A slot of a list (not unfolded). -/
def sl (s : List D) (i : Nat) : D := nth s i

/-- A choice (not unfolded). -/
def ifN (b : Bool) (t e : Option Out) : Option Out :=
  match b with
  | true => t
  | false => e

theorem lookNil {P : Program} {G : List (Nat × (Obj → Prop))} : ∀ (f : Nat) (S : FS), look ([] : List (Nat × FS)) f = some S → Meets G P f S := by
  intro f S h
  cases h
theorem lookCons {P : Program} {G : List (Nat × (Obj → Prop))} {g : Nat} {S0 : FS} {l : List (Nat × FS)} (h0 : Meets G P g S0) (h : ∀ (f : Nat) (S : FS), look l f = some S → Meets G P f S) : ∀ (f : Nat) (S : FS), look ((g, S0) :: l) f = some S → Meets G P f S := by
  intro f S hl
  simp only [look] at hl
  split at hl
  · rename_i hb
    have := beq_iff.1 hb
    subst this
    cases hl
    exact h0
  · exact h f S hl

/-- More facts of the world. -/
theorem meets_mono {P : Program} {G G' : List (Nat × (Obj → Prop))} {f : Nat} {S : FS} (h : ∀ p ∈ G, p ∈ G') (hm : Meets G P f S) : Meets G' P f S :=
  fun ds rs us hd args w F ow hg => hm ds rs us hd args w F ow fun p hp => hg p (h p hp)

/-! ### functions that call themselves -/
open Classical in
noncomputable def recF (R : Nat → List D → Option Out) (ds : List D) : Option Out :=
  if h : ∃ n, (R n ds).isSome = true then R (Classical.choose h) ds else none
theorem recF_some {R : Nat → List D → Option Out} {ds : List D} {r : Out} (h : recF R ds = some r) : ∃ n, R n ds = some r := by
  unfold recF at h
  split at h
  · exact ⟨_, h⟩
  · cases h
theorem recF_eq {R : Nat → List D → Option Out} {ds : List D} {r : Out} (h : ∀ n o, R n ds = some o → o = r) (n : Nat) (hn : R n ds = some r) : recF R ds = some r := by
  unfold recF
  have hx : ∃ n, (R n ds).isSome = true := ⟨n, by rw [hn]; rfl⟩
  rw [dif_pos hx]
  obtain ⟨o, ho⟩ := Option.isSome_iff_exists.1 (Classical.choose_spec hx)
  rw [ho, h _ _ ho]
theorem meets_none {P : Program} {G : List (Nat × (Obj → Prop))} {f : Nat} {S : FS} (h : ∀ ds, S.f ds = none) : Meets G P f S := by
  intro ds rs us hd
  rw [h] at hd
  cases hd
theorem meets_rec {P : Program} {G : List (Nat × (Obj → Prop))} {f : Nat} {pm rm : List Kd} {R : Nat → List D → Option Out} (h : ∀ n, Meets G P f { pm := pm, rm := rm, f := R n }) : Meets G P f { pm := pm, rm := rm, f := recF R } := by
  intro ds rs us hd args w F ow hg ha hF hO o a next Q hq
  obtain ⟨n, hn⟩ := recF_some hd
  refine h n ds rs us hn args w F ow hg ha hF hO o a next Q fun v w' hv => ?_
  obtain ⟨F', R', vs, h1, h2⟩ := hv
  exact hq v w' ⟨F', R', vs, h1, ⟨h2.os, h2.tape, h2.output, h2.size, h2.keep, h2.f0, h2.fn, h2.rn, h2.len, h2.lenD, h2.res, h2.us⟩⟩

end Go.V
/-
  A row's arguments as data, and the row from a contract.
-/
namespace Go.V
open Go.RowKit Go.WideShapes Go.ChangeShapes

/-! ### shapes of arguments -/
mutual
inductive Sh where
  | int (k : IntKind)
  | bool
  | str
  | sl (e : Sh)
  | st (l : ShL)
inductive ShL where
  | nil
  | cons (h : Sh) (t : ShL)
end
mutual
def Sh.size : Sh → Nat
  | .int _ => 1
  | .bool => 1
  | .str => 1
  | .sl _ => 1
  | .st l => l.size
def ShL.size : ShL → Nat
  | .nil => 0
  | .cons h t => h.size + t.size
end
def Sh.isSt : Sh → Bool
  | .st _ => true
  | _ => false

mutual
def Sh.flat : Sh → Bool
  | .int _ => true
  | .bool => true
  | .str => true
  | .sl _ => false
  | .st l => l.flat
def ShL.flat : ShL → Bool
  | .nil => true
  | .cons h t => h.flat && t.flat
end
def wrap (ag : Bool) (m : List D) : D := if ag then .agg m else nth m 0
mutual
def Sh.Is : Sh → List D → Prop
  | .int k, l => ∃ n, l = [.v (.int k n)] ∧ k.min ≤ n ∧ n ≤ k.max
  | .bool, l => ∃ b, l = [B b]
  | .str, l => ∃ s, l = [T s] ∧ s.size ≤ maxLen
  | .sl e, l => ∃ ds, l = [.arr e.size ds] ∧ ds.length ≤ maxLen ∧ ∀ d ∈ ds, ∃ m, e.Is m ∧ d = wrap e.isSt m
  | .st fs, l => fs.Is l
def ShL.Is : ShL → List D → Prop
  | .nil, l => l = []
  | .cons h t, l => ∃ a b, l = a ++ b ∧ h.Is a ∧ t.Is b
end
mutual
def Sh.ok (P : Program) : Sh → TypeId → Bool
  | .int k, t => match P.underlying t with
    | some (.int k') => decide (k' = k)
    | _ => false
  | .bool, t => match P.underlying t with
    | some .bool => true
    | _ => false
  | .str, t => match P.underlying t with
    | some .string => true
    | _ => false
  | .sl e, t => match P.underlying t with
    | some (.slice u) => e.ok P u && decide (P.cellsOf u = e.size) && decide (0 < e.size)
    | _ => false
  | .st l, t => match P.underlying t with
    | some (.struct fs) => l.ok P 0 fs.toList && decide (P.cellsOf t = l.size)
    | _ => false
def ShL.ok (P : Program) : ShL → Nat → List Field → Bool
  | .nil, _, [] => true
  | .cons h t, off, f :: fs => decide (f.offset = off) && h.ok P f.type && decide (P.cellsOf f.type = h.size) && t.ok P (off + h.size) fs
  | _, _, _ => false
end

section
variable {H : Type} {enc : TypeId × Value → H} {P : Program} {W : World}

theorem Sh.len_one {sh : Sh} (h : sh.isSt = false) : sh.size = 1 := by
  cases sh <;> simp_all [Sh.isSt, Sh.size]

theorem cells_is {a : Addr} {n : Nat} {vs : List Value} (h : W.cells? 0 a n = some vs) : vs.length = n ∧ ∀ i u, vs[i]? = some u → W.cell? (a.add i) = some u := by
  simp only [World.cells?, Nat.zero_le, if_true] at h
  have hl := mapM_some_length h
  rw [List.length_range] at hl
  refine ⟨hl, fun i u hu => ?_⟩
  have hi : i < n := by
    rw [← hl]
    exact (List.getElem?_eq_some_iff.1 hu).1
  rw [mapM_some_get h i i (by simp [hi]), hu]

theorem add_add (a : Addr) (i j : Nat) : (a.add i).add j = a.add (i + j) := by
  unfold Addr.add
  by_cases hi : i = 0 <;> by_cases hj : j = 0 <;> simp [hi, hj, Nat.add_assoc]

theorem cell_spot {a : Addr} {u : Value} (h : W.cell? a = some u) : a.spot = none ∧ a.block < W.heap.size := by
  unfold World.cell? at h
  split at h
  case h_2 => cases h
  rename_i hb
  split at h
  · cases h
  rename_i hs
  refine ⟨by simpa using hs, ?_⟩
  rcases Nat.lt_or_ge a.block W.heap.size with h' | h'
  · exact h'
  · rw [Array.getElem?_eq_none h'] at hb; cases hb

theorem RepL_uno {F : Nat → Prop} {d : D} {vs : List Value} : RepL W F [d] vs ↔ RepC W F d vs := by
  rw [RepL_cons]
  constructor
  · rintro ⟨v1, v2, rfl, h1, h2⟩
    rw [RepL_nil.1 h2, List.append_nil]
    exact h1
  · intro h
    exact ⟨vs, [], by simp, h, RepL_nil.2 rfl⟩

theorem RepC_wrap {F : Nat → Prop} {sh : Sh} {L : List D} {vs : List Value} (hr : RepL W F L vs) (hs : L.all D.single = true) (hl : L.length = sh.size) : RepC W F (wrap sh.isSt L) vs ∧ (wrap sh.isSt L).width = sh.size := by
  cases hb : sh.isSt
  · have h1 := Sh.len_one hb
    match L, hl.trans h1 with
    | [d], _ =>
      simp only [wrap, Bool.false_eq_true, if_false, nth]
      refine ⟨RepL_uno.1 hr, ?_⟩
      rw [h1]
      exact (width_single (by simpa using hs)).1
  · simp only [wrap, if_true]
    refine ⟨by rw [RepC]; exact ⟨hr, hs⟩, ?_⟩
    simpa [D.width, D.cells] using hl

mutual
theorem Sh.opened : ∀ (sh : Sh) (t : TypeId) (fuel : Nat) (cs : List Value) (x : DataW H × List MemPlace), sh.ok P t = true → DataW.trod enc P W 0 (fun _ => true) true fuel t cs = some x →
    ∃ L, sh.Is L ∧ RepL W (· < W.heap.size) L cs ∧ L.all D.single = true ∧ L.length = sh.size
  | .int k, t, fuel, cs, x, hok, h => by
    simp only [Sh.ok] at hok
    split at hok
    case h_2 => cases hok
    rename_i k' hu
    have hk := of_decide_eq_true hok
    subst hk
    obtain ⟨n, rfl, -, hw⟩ := DataW.trod_int hu h
    simp only [Lit.wf, Bool.and_eq_true, decide_eq_true_eq] at hw
    refine ⟨[.v (.int k' n)], ⟨n, rfl, hw⟩, RepL_uno.2 ?_, rfl, rfl⟩
    simp [RepC, V.flat]
  | .bool, t, fuel, cs, x, hok, h => by
    simp only [Sh.ok] at hok
    split at hok
    case h_2 => cases hok
    rename_i hu
    obtain ⟨n, rfl, -⟩ := DataW.trod_bool hu h
    refine ⟨[B n], ⟨n, rfl⟩, RepL_uno.2 ?_, rfl, rfl⟩
    simp [RepC, V.flat]
  | .str, t, fuel, cs, x, hok, h => by
    simp only [Sh.ok] at hok
    split at hok
    case h_2 => cases hok
    rename_i hu
    obtain ⟨s, rfl, -, hw⟩ := DataW.trod_string hu h
    refine ⟨[T s], ⟨s, rfl, hw⟩, RepL_uno.2 ?_, rfl, rfl⟩
    simp [RepC, V.flat]
  | .sl e, t, fuel, cs, x, hok, h => by
    simp only [Sh.ok] at hok
    split at hok
    case h_2 => cases hok
    rename_i u hu
    simp only [Bool.and_eq_true, decide_eq_true_eq] at hok
    obtain ⟨⟨hok, hz⟩, hpos⟩ := hok
    rcases DataW.trod_slice hu h with ⟨rfl, -⟩ | ⟨a, len, cap, elems, rest, n, rfl, rfl, -, -, hle, hcap, hlen, hel, -⟩
    · refine ⟨[.arr e.size []], ⟨[], rfl, by simp, by simp⟩, RepL_uno.2 ?_, rfl, rfl⟩
      rw [RepC]
      exact ⟨none, 0, [], rfl, Nat.le_refl _, RepL_nil.2 rfl, by simp, by simp⟩
    · have key : ∀ k, k ≤ len → ∃ ds us, ds.length = k ∧ us.length = k * e.size ∧ RepL W (· < W.heap.size) ds us ∧ (∀ d ∈ ds, d.width = e.size) ∧ (∀ d ∈ ds, ∃ m, e.Is m ∧ d = wrap e.isSt m) ∧ ∀ i v, us[i]? = some v → W.cell? (a.add i) = some v := by
        intro k
        induction k with
        | zero => exact fun _ => ⟨[], [], rfl, by simp, RepL_nil.2 rfl, by simp, by simp, by simp⟩
        | succ k ih =>
          intro hk
          obtain ⟨ds, us, h1, h2, h3, h4, h5, h6⟩ := ih (by omega)
          have hi := hel k (by omega)
          rw [List.getElem?_eq_getElem (by omega)] at hi
          obtain ⟨vs, hc, hd⟩ := Option.bind_eq_some_iff.1 hi
          obtain ⟨L, g1, g2, g3, g4⟩ := Sh.opened e u n vs _ hok hd
          obtain ⟨g5, g6⟩ := cells_is hc
          obtain ⟨g7, g8⟩ := RepC_wrap g2 g3 g4
          rw [hz] at g5 g6
          refine ⟨ds ++ [wrap e.isSt L], us ++ vs, by simp [h1], by simp [h2, g5, Nat.succ_mul], (RepL_append _ _ _).2 ⟨us, vs, rfl, h3, RepL_uno.2 g7⟩, ?_, ?_, fun i v hv => ?_⟩
          · intro d hd
            rcases List.mem_append.1 hd with hd | hd
            · exact h4 d hd
            · simp at hd; subst hd; exact g8
          · intro d hd
            rcases List.mem_append.1 hd with hd | hd
            · exact h5 d hd
            · simp at hd; subst hd; exact ⟨L, g1, rfl⟩
          · rcases Nat.lt_or_ge i us.length with hlt | hge
            · rw [List.getElem?_append_left hlt] at hv
              exact h6 i v hv
            · rw [List.getElem?_append_right hge] at hv
              have := g6 _ v hv
              rw [add_add, ← h2] at this
              rw [show us.length + (i - us.length) = i from by omega] at this
              exact this
      obtain ⟨ds, us, h1, h2, h3, h4, h5, h6⟩ := key len (Nat.le_refl _)
      refine ⟨[.arr e.size ds], ⟨ds, rfl, by omega, h5⟩, RepL_uno.2 ?_, rfl, rfl⟩
      rw [RepC]
      refine ⟨some a, cap, us, by rw [h1], by omega, h3, h4, fun hne => ?_⟩
      have hpl : 0 < us.length := by
        rw [h2, ← h1]
        exact Nat.mul_pos (List.length_pos_iff.2 hne) hpos
      have h0 := h6 0 _ (List.getElem?_eq_getElem hpl)
      have ha0 : a.add 0 = a := by simp [Addr.add]
      rw [ha0] at h0
      obtain ⟨hsp, hbl⟩ := cell_spot h0
      have ea : a = ⟨a.block, a.off, none⟩ := by
        rw [← hsp]
      refine ⟨a.block, a.off, by rw [← ea], hbl, fun i v hv => ?_⟩
      have := h6 i v hv
      unfold Addr.add at this
      split at this
      · rename_i hi0
        subst hi0
        rw [Nat.add_zero, ← ea]
        exact this
      · rw [← hsp]
        rw [hsp]
        exact this
  | .st l, t, fuel, cs, x, hok, h => by
    simp only [Sh.ok] at hok
    split at hok
    case h_2 => cases hok
    rename_i fs hu
    simp only [Bool.and_eq_true, decide_eq_true_eq] at hok
    obtain ⟨xs, n, rfl, -, hlen, hxl, hf⟩ := DataW.trod_struct hu h
    obtain ⟨L, g1, g2, g3, g4⟩ := ShL.opened l 0 fs.toList n cs hok.1 (fun f hf' => by
      obtain ⟨i, hi, he⟩ := List.mem_iff_getElem.1 hf'
      have := hf i f (by rw [← he]; simp at hi ⊢)
      rw [List.getElem?_eq_getElem (by simp at hi; omega)] at this
      exact ⟨_, this⟩)
    rw [List.drop_zero, ← hok.2, ← hlen, List.take_length] at g2
    exact ⟨L, g1, g2, g3, g4⟩
theorem ShL.opened : ∀ (l : ShL) (off : Nat) (fs : List Field) (fuel : Nat) (cs : List Value), l.ok P off fs = true → (∀ f ∈ fs, ∃ x, DataW.trod enc P W 0 (fun _ => true) true fuel f.type ((cs.drop f.offset).take (P.cellsOf f.type)) = some x) →
    ∃ L, l.Is L ∧ RepL W (· < W.heap.size) L ((cs.drop off).take l.size) ∧ L.all D.single = true ∧ L.length = l.size
  | .nil, off, [], fuel, cs, hok, h => ⟨[], rfl, by simp [ShL.size, RepL_nil], rfl, rfl⟩
  | .nil, off, _ :: _, fuel, cs, hok, h => by simp [ShL.ok] at hok
  | .cons a t, off, [], fuel, cs, hok, h => by simp [ShL.ok] at hok
  | .cons a t, off, f :: fs, fuel, cs, hok, h => by
    simp only [ShL.ok, Bool.and_eq_true, decide_eq_true_eq] at hok
    obtain ⟨⟨⟨h1, h2⟩, h3⟩, h4⟩ := hok
    obtain ⟨x, hx⟩ := h f (by simp)
    obtain ⟨L, g1, g2, g3, g4⟩ := Sh.opened a f.type fuel _ x h2 hx
    obtain ⟨M, k1, k2, k3, k4⟩ := ShL.opened t (off + a.size) fs fuel cs h4 (fun f hf => h f (by simp [hf]))
    refine ⟨L ++ M, ⟨L, M, rfl, g1, k1⟩, (RepL_append _ _ _).2 ⟨_, _, ?_, g2, k2⟩, by simp [g3, k3], by simp [ShL.size, g4, k4]⟩
    rw [h1, h3, ShL.size, ← List.drop_drop, ← List.take_add]
end

def isVs : D → Bool
  | .v _ => true
  | _ => false
theorem isV_agg {L : List D} (h : L.all isVs = true) : (D.agg L).isV = true := by
  simp only [D.isV]
  refine List.all_eq_true.2 fun d hd => ?_
  have := List.all_eq_true.1 h d hd
  cases d <;> simp_all [isVs]
mutual
theorem Sh.isV_of : ∀ (sh : Sh) (L : List D), sh.flat = true → sh.Is L → L.all isVs = true
  | .int k, L, _, h => by obtain ⟨n, rfl, _⟩ := h; rfl
  | .bool, L, _, h => by obtain ⟨n, rfl⟩ := h; rfl
  | .str, L, _, h => by obtain ⟨n, rfl, _⟩ := h; rfl
  | .sl _, L, h, _ => by simp [Sh.flat] at h
  | .st l, L, h, hl => ShL.isV_of l L (by simpa [Sh.flat] using h) hl
theorem ShL.isV_of : ∀ (sh : ShL) (L : List D), sh.flat = true → sh.Is L → L.all isVs = true
  | .nil, L, _, h => by cases h; rfl
  | .cons a t, L, h, hl => by
    obtain ⟨x, y, rfl, h1, h2⟩ := hl
    simp only [ShL.flat, Bool.and_eq_true] at h
    rw [List.all_append, Sh.isV_of a x h.1 h1, ShL.isV_of t y h.2 h2]
    rfl
end

/-- A whole argument. -/
def Sh.IsV (sh : Sh) (d : D) : Prop := ∃ m, sh.Is m ∧ d = wrap sh.isSt m

theorem Sh.arg {sh : Sh} {t : TypeId} {v : Value} {d : DataW H} {ps : List MemPlace} {base : Nat} (hok : sh.ok P t = true) (hv : Value.okWide P W .any base t v) (h : DataW.Trod enc P W 0 (fun _ => true) true t v d ps) :
    ∃ x, sh.IsV x ∧ RepV W (· < W.heap.size) x v ∧ (sh.flat = true → x.isV = true) := by
  obtain ⟨fuel, h⟩ := h
  obtain ⟨L, h1, h2, h3, h4⟩ := Sh.opened sh t fuel _ _ hok h
  refine ⟨_, ⟨L, h1, rfl⟩, ?_, fun hf => ?_⟩
  · cases hb : sh.isSt
    · have h1' := Sh.len_one hb
      have hone : v.cells.toList = [v] := by
        cases sh <;> simp only [Sh.isSt, Bool.true_eq_false] at hb <;> simp only [Sh.ok] at hok <;> split at hok <;> rename_i hu
        · obtain ⟨n, rfl⟩ := okWide_int hu hv; rfl
        · cases hok
        · obtain ⟨n, rfl⟩ := okWide_bool hu hv; rfl
        · cases hok
        · obtain ⟨n, rfl⟩ := okWide_string hu hv; rfl
        · cases hok
        · obtain ⟨_, _, _, rfl⟩ := okWide_slice hu hv; rfl
        · cases hok
      match L, h4.trans h1' with
      | [e], _ =>
        simp only [wrap, Bool.false_eq_true, if_false, nth]
        have hs : e.single = true := by simpa using h3
        rw [hone] at h2
        exact (RepV_single hs).2 (RepL_uno.1 h2)
    · simp only [wrap, if_true]
      have : ∃ cs, v = .agg cs := by
        cases sh <;> simp only [Sh.isSt, Bool.false_eq_true] at hb
        simp only [Sh.ok] at hok
        split at hok
        case h_2 => cases hok
        rename_i hu
        simp only [Value.okWide, hu] at hv
        obtain ⟨cs, h, _⟩ := hv
        exact ⟨cs, h⟩
      obtain ⟨cs, rfl⟩ := this
      refine ⟨cs.toList, by simp, ?_⟩
      rw [RepC]
      exact ⟨by simpa [Value.cells] using h2, h3⟩
  · have := Sh.isV_of sh L hf h1
    cases hb : sh.isSt
    · match L, h4.trans (Sh.len_one hb) with
      | [e], _ =>
        simp only [wrap, Bool.false_eq_true, if_false, nth]
        cases e <;> simp [isVs] at this
        rfl
    · simp only [wrap, if_true]
      exact isV_agg this

theorem int_is {k : IntKind} {x : D} (h : (Sh.int k).IsV x) : ∃ n, x = .v (.int k n) ∧ k.min ≤ n ∧ n ≤ k.max := by
  obtain ⟨_, ⟨n, rfl, h⟩, rfl⟩ := h
  exact ⟨n, rfl, h⟩
theorem bool_is {x : D} (h : Sh.bool.IsV x) : ∃ b, x = B b := by
  obtain ⟨_, ⟨n, rfl⟩, rfl⟩ := h
  exact ⟨n, rfl⟩
theorem str_is {x : D} (h : Sh.str.IsV x) : ∃ s, x = T s ∧ s.size ≤ maxLen := by
  obtain ⟨_, ⟨n, rfl, h⟩, rfl⟩ := h
  exact ⟨n, rfl, h⟩
theorem sl_is {e : Sh} {x : D} (h : (Sh.sl e).IsV x) : ∃ ds, x = .arr e.size ds ∧ ds.length ≤ maxLen ∧ ∀ d ∈ ds, e.IsV d := by
  obtain ⟨_, ⟨n, rfl, h, h'⟩, rfl⟩ := h
  exact ⟨n, rfl, h, h'⟩
/-- A slice whose elements are all of a form. -/
theorem sl_map {α : Type} {e : Sh} {f : α → D} (hf : ∀ d, e.IsV d → ∃ a, d = f a) {x : D} (h : (Sh.sl e).IsV x) : ∃ l : List α, x = .arr e.size (l.map f) ∧ l.length ≤ maxLen := by
  obtain ⟨ds, rfl, h1, h2⟩ := sl_is h
  have : ∃ l : List α, ds = l.map f := by
    clear h1 h
    induction ds with
    | nil => exact ⟨[], rfl⟩
    | cons d ds ih =>
      obtain ⟨a, rfl⟩ := hf d (h2 d (by simp))
      obtain ⟨l, rfl⟩ := ih (fun d hd => h2 d (by simp [hd]))
      exact ⟨a :: l, rfl⟩
  obtain ⟨l, rfl⟩ := this
  exact ⟨l, rfl, by simpa using h1⟩

def okShs (P : Program) : List Sh → List TypeId → List Kd → Bool
  | [], [], [] => true
  | sh :: shs, t :: ts, .dat lv :: ks => sh.ok P t && (Nat.beq lv 2 || (Nat.beq lv 0 && sh.flat)) && okShs P shs ts ks
  | _, _, _ => false
def IsShs : List Sh → List D → Prop
  | [], [] => True
  | sh :: shs, d :: ds => sh.IsV d ∧ IsShs shs ds
  | _, _ => False

theorem shs_one {a : Sh} {ds : List D} (h : IsShs [a] ds) : ∃ x, ds = [x] ∧ a.IsV x := by
  match ds, h with
  | [x], ⟨h1, _⟩ => exact ⟨x, rfl, h1⟩
theorem shs_two {a b : Sh} {ds : List D} (h : IsShs [a, b] ds) : ∃ x y, ds = [x, y] ∧ a.IsV x ∧ b.IsV y := by
  match ds, h with
  | [x, y], ⟨h1, h2, _⟩ => exact ⟨x, y, rfl, h1, h2⟩
theorem shs_three {a b c : Sh} {ds : List D} (h : IsShs [a, b, c] ds) : ∃ x y z, ds = [x, y, z] ∧ a.IsV x ∧ b.IsV y ∧ c.IsV z := by
  match ds, h with
  | [x, y, z], ⟨h1, h2, h3, _⟩ => exact ⟨x, y, z, rfl, h1, h2, h3⟩

theorem args_of {base : Nat} : ∀ (shs : List Sh) (ts : List TypeId) (ks : List Kd) (vs : List Value) (ds : List (DataW H)) (ps : List MemPlace) (i : Nat), okShs P shs ts ks = true → DataW.TrodAll enc P W 0 (fun _ => true) true ts vs ds ps →
    (∀ (j : Nat) t v, ts[j]? = some t → vs[j]? = some v → Value.okWide P W .any base t v) → ∃ xs, IsShs shs xs ∧ ArgsOk W (· < W.heap.size) (fun _ => none) i ks xs vs
  | [], [], [], [], _, _, _, _, _, _ => ⟨[], trivial, trivial⟩
  | [], [], [], _ :: _, [], _, _, _, h, _ => h.elim
  | [], [], [], _ :: _, _ :: _, _, _, _, h, _ => h.elim
  | sh :: shs, t :: ts, k :: ks, [], [], _, _, _, h, _ => h.elim
  | sh :: shs, t :: ts, k :: ks, [], _ :: _, _, _, _, h, _ => h.elim
  | sh :: shs, t :: ts, k :: ks, _ :: _, [], _, _, _, h, _ => h.elim
  | sh :: shs, t :: ts, k :: ks, v :: vs, d :: ds, ps, i, hok, h, hv => by
    cases k <;> simp only [okShs, Bool.false_eq_true] at hok
    rename_i lv
    simp only [Bool.and_eq_true, Bool.or_eq_true] at hok
    obtain ⟨⟨hok1, hlv⟩, hok2⟩ := hok
    obtain ⟨p, q, h1, h2, rfl⟩ := h
    obtain ⟨x, g1, g2, g3⟩ := Sh.arg hok1 (hv 0 t v rfl rfl) h1
    obtain ⟨xs, k1, k2⟩ := args_of shs ts ks vs ds q (i + 1) hok2 h2 (fun j t v ht hv' => hv (j + 1) t v ht hv')
    refine ⟨x :: xs, ⟨g1, k1⟩, .inr ?_, k2⟩
    rcases hlv with h' | ⟨h', hf⟩
    · rw [beq_iff] at h'
      subst h'
      exact g2
    · exact RepV_isV (g3 hf) g2
  | [], [], _ :: _, _, _, _, _, hok, _, _ => by simp [okShs] at hok
  | [], _ :: _, _, _, _, _, _, hok, _, _ => by simp [okShs] at hok
  | _ :: _, [], _, _, _, _, _, hok, _, _ => by simp [okShs] at hok
  | _ :: _, _ :: _, [], _, _, _, _, hok, _, _ => by simp [okShs] at hok

theorem trodAll_below {W' : World} (hl : laidOutB P = true) : ∀ (ts : List TypeId) (vs : List Value) (ds : List (DataW H)) (ps : List MemPlace), (ts.all fun t => P.readableRec t && decide (t < P.types.size)) = true →
    DataW.TrodAll enc P W 0 (fun _ => true) true ts vs ds ps → Below W.heap.size W W' → (∀ x ∈ ps, x.block < W.heap.size) → ∀ sp : Nat → Bool, (∀ x ∈ ps, sp x.block = true) → DataW.TrodAll enc P W' 0 sp true ts vs ds ps
  | [], [], [], _, _, h, _, _, _, _ => h
  | [], _ :: _, [], _, _, h, _, _, _, _ => h.elim
  | [], [], _ :: _, _, _, h, _, _, _, _ => h.elim
  | [], _ :: _, _ :: _, _, _, h, _, _, _, _ => h.elim
  | _ :: _, [], [], _, _, h, _, _, _, _ => h.elim
  | _ :: _, [], _ :: _, _, _, h, _, _, _, _ => h.elim
  | _ :: _, _ :: _, [], _, _, h, _, _, _, _ => h.elim
  | t :: ts, v :: vs, d :: ds, ps, hr, h, hb, hlt, sp, hsp => by
    obtain ⟨p, q, h1, h2, rfl⟩ := h
    simp only [List.all_cons, Bool.and_eq_true, decide_eq_true_eq] at hr
    refine ⟨p, q, ?_, trodAll_below hl ts vs ds q hr.2 h2 hb (fun x hx => hlt x (by simp [hx])) sp (fun x hx => hsp x (by simp [hx])), rfl⟩
    exact WideElems.Trod_stays hl hr.1.1 hr.1.2 h1 (fun x hx => hb.same (hlt x (by simp [hx]))) (fun x hx => hsp x (by simp [hx]))
end

section
variable {H : Type} {enc : TypeId × Value → H} {P : Program}
theorem post_of_below {f : Func} {s : ChangeSpec} {apart fresh handsOn again : Bool} {W W' : World} {args : Array Value} {v : Value} {ds gs : List (DataW H)} {before pa pv : List MemPlace}
    (hW : DataW.Whole enc P f.params.toList s.vars apart W args.toList ds gs before)
    (hres : ∀ (b : Nat) (sp : Nat → Bool) (hd : Bool), DataW.TrodAll enc P W' b sp hd f.resultTypes.toList (v.resultList f.resultTypes.size) (s.fn H (ds ++ gs)).results [])
    (hargs : ∀ sp : Nat → Bool, (∀ p ∈ before, sp p.block = true) → DataW.TrodAll enc P W' 0 sp true f.params.toList args.toList (s.fn H (ds ++ gs)).args pa)
    (hvars : ∀ sp : Nat → Bool, (∀ p ∈ before, sp p.block = true) → DataW.TrodVars enc P W' sp s.vars (s.fn H (ds ++ gs)).vars pv)
    (hps : before = pa ++ pv) (hb : Below W.heap.size W W')
    (hok : ∀ (j : Nat) (t : TypeId) (r : Value), f.resultTypes[j]? = some t → (v.resultList f.resultTypes.size)[j]? = some r → Value.okWide P W' .any 0 t r) :
    s.post enc P f apart fresh handsOn again W args v W' := by
  have hlt : ∀ p ∈ before, p.block < W.heap.size := fun p hp => hW.lt p hp
  have hold : ∀ p ∈ before, (fun b => decide (b < W.heap.size)) p.block = true := fun p hp => by simpa using hlt p hp
  refine ⟨ds, gs, before, [], pa, pv, hW, hres _ _ _, hargs _ hold, hvars _ hold, World.keptBut_mono (fun p hp => ⟨hp, ?_⟩) (hb.frame (· ∈ before)), fun _ => ?_⟩
  · rw [hps, List.mem_append] at hp
    exact Or.inr hp
  · obtain ⟨_, _, _, _, _, hz, hn⟩ := hW
    refine ⟨hok, _, _, ([] ++ pa) ++ pv, ⟨[] ++ pa, pv, trodAll_append (hargs _ (fun _ _ => rfl)) (hres _ _ _), hvars _ (fun _ _ => rfl), rfl, ?_, ?_⟩, ?_⟩
    · intro b off hp
      have hin : MemPlace.cell b off ∈ before := by rw [hps]; simpa using hp
      rw [hb.frozen (hlt _ hin)]
      exact hz b off hin
    · intro ha
      have := hn ha
      rw [hps] at this
      simpa using this
    · intro p hp _
      rw [hps]
      simpa using hp

theorem calls_of_meets {G : List (Nat × (Obj → Prop))} {f : FuncId} {S : FS} (hm : Meets G P f S) {fn : Func} (hf : P.funcs[f]? = some fn) (hname : (fn.name == "runtime.NumGoroutine") = false) (hb : fn.body.isSome = true) {ds rs us : List D} (hd : S.f ds = some (.ret rs us)) {args : Array Value} {w : World} {F : Nat → Prop} {ow : Nat → Option Nat}
    (hgl : gOk G w F) (ha : ArgsOk w F ow 0 S.pm ds args.toList) (hF : ∀ b, F b → b < w.heap.size ∧ ow b = none) (hO : ∀ b i, ow b = some i → b < w.heap.size) :
    Calls P f args w fun e w' => ∃ v, e = .returned v ∧ ∃ F' R vs, v = resV vs ∧ CallPost S args rs us w F ow F' R vs w' := by
  obtain ⟨b, hb⟩ := Option.isSome_iff_exists.1 hb
  have h1 : ¬ fn.name = "runtime.NumGoroutine" := by simpa using hname
  have hrun : (callFunc f args).run P w = .ok (.enter f args) w := by simp [callFunc, hf, h1, hb]
  have h2 := hm ds rs us hd args w F ow hgl ha hF hO { (default : Oper) with dst := some 0 } { tmps := #[undef], defers := [] } (fun a w' => ∃ F' R vs, a.tmps.getD 0 undef = resV vs ∧ CallPost S args rs us w F ow F' R vs w') (fun _ _ _ => False) (fun v w' h => by
    obtain ⟨F', R, vs, rfl, h⟩ := h
    exact ⟨F', R, vs, by simp [Act.put], h⟩)
  rw [hrun, Oper.upon_enter] at h2
  refine Calls.mono h2 fun e w' he => ?_
  cases e with
  | returned v =>
    obtain ⟨F', R, vs, h3, h4⟩ := he
    exact ⟨v, rfl, F', R, vs, by simpa [Act.put] using h3, h4⟩
  | panicked c => exact he.elim
  | outgrown => obtain ⟨_, _, h⟩ := he; exact h.elim

/-- A law's row: true whatever is given, and nothing of what was there is changed. -/
theorem law_post {G : List (Nat × (Obj → Prop))} {f : FuncId} {S : FS} (hm : Meets G P f S) {fn : Func} (hf : P.funcs[f]? = some fn) (hname : (fn.name == "runtime.NumGoroutine") = false) (hbd : fn.body.isSome = true) (shs : List Sh) {rt : TypeId}
    (hl : laidOutB P = true) (hsh : okShs P shs fn.params.toList S.pm = true) (hrd : (fn.params.toList.all fun t => P.readableRec t && decide (t < P.types.size)) = true)
    (hrm : S.rm = [.dat 0]) (hrt : fn.resultTypes = #[rt]) (hbool : P.underlying rt = some .bool)
    (hd : ∀ ds, IsShs shs ds → S.f ds = some (.ret [B true] [])) {s : ChangeSpec} (hvars : s.vars = [])
    (hs : ∀ ds : List (DataW H), ds.length = fn.params.size → s.fn H (ds ++ []) = { results := [.lit (.bool true)], args := ds })
    {W : World} {base : Nat} {args : Array Value} {ds gs : List (DataW H)} {before : List MemPlace}
    (hval : ∀ (j : Nat) t v, fn.params[j]? = some t → args[j]? = some v → Value.okWide P W .any base t v) (hW : DataW.Whole enc P fn.params.toList s.vars false W args.toList ds gs before) (hgl : gOk G W fun b => b < W.heap.size) {fresh handsOn again : Bool} :
    Calls P f args W fun e W' => ∃ v, e = .returned v ∧ s.post enc P fn false fresh handsOn again W args v W' := by
  have hW' := hW
  have hlt : ∀ p ∈ before, p.block < W.heap.size := fun p hp => hW.lt p hp
  obtain ⟨p, q, hA, hV, rfl, hfz, hnd⟩ := hW
  rw [hvars] at hV
  have hgs : gs = [] ∧ q = [] := by
    cases gs with
    | nil => exact ⟨rfl, hV⟩
    | cons _ _ => exact hV.elim
  obtain ⟨rfl, rfl⟩ := hgs
  obtain ⟨xs, h1, h2⟩ := args_of (base := base) shs fn.params.toList S.pm args.toList ds p 0 hsh hA (fun j t v ht hv => hval j t v (by simpa using ht) (by simpa using hv))
  refine Calls.mono (calls_of_meets hm hf hname hbd (hd xs h1) hgl h2 (fun b hb => ⟨hb, rfl⟩) (fun b i hi => by cases hi)) fun e W' he => ?_
  obtain ⟨v, rfl, F', R, vs, rfl, hp⟩ := he
  refine ⟨_, rfl, ?_⟩
  have hlen : ds.length = fn.params.size := by
    have : ∀ (ts : List TypeId) (vs : List Value) (ds : List (DataW H)) (ps : List MemPlace), DataW.TrodAll enc P W 0 (fun _ => true) true ts vs ds ps → ds.length = ts.length := by
      intro ts
      induction ts with
      | nil =>
        intro vs ds ps h
        cases ds with
        | nil => rfl
        | cons _ _ => cases vs <;> exact h.elim
      | cons t ts ih =>
        intro vs ds ps h
        cases vs with
        | nil => exact h.elim
        | cons v vs =>
          cases ds with
          | nil => exact h.elim
          | cons d ds =>
            obtain ⟨_, _, _, h2, _⟩ := h
            simp [ih _ _ _ h2]
    simpa using this _ _ _ _ hA
  have hB : Below W.heap.size W W' := ⟨hp.os, hp.tape, hp.output, hp.size, fun b hb => hp.keep b hb rfl⟩
  have hres : resV vs = .bool true := by
    have hl1 := hp.len
    rw [hrm] at hl1
    match vs, hl1 with
    | [y], _ =>
      have h0 := hp.res 0
      rw [hrm] at h0
      simp only [nthK, nth, List.getD_cons_zero] at h0
      rcases h0 with h0 | h0
      · cases h0
      · exact (RepV_v.1 h0).1
  rw [hres]
  have hsd := hs ds hlen
  refine post_of_below (pa := p) (pv := []) hW' (fun b sp hd' => ?_) (fun sp hsp => ?_) (fun sp _ => ?_) rfl hB ?_
  · rw [hsd, hrt]
    exact trodAll_mk1 (shut_bool hbool true)
  · rw [hsd]
    exact trodAll_below hl _ _ _ _ hrd hA hB (fun x hx => hlt x (by simp [hx])) sp (fun x hx => hsp x (by simp [hx]))
  · rw [hsd, hvars]
    rfl
  · exact ok_one hrt rfl (okWide_bool_mk hbool true)
end

end Go.V
/-
  How the evaluated texts are reckoned: plain laws of the operations on data, and of loops.
-/
namespace Go.V

section
variable {k : IntKind} {a b : Int} {bl : Bool} {eq : List Nat}
@[simp] theorem bin_add : bin .add bl eq (.v (.int k a)) (.v (.int k b)) = some (.v (.int k (k.wrap (a + b)))) := by simp [bin, intBin]
@[simp] theorem bin_sub : bin .sub bl eq (.v (.int k a)) (.v (.int k b)) = some (.v (.int k (k.wrap (a - b)))) := by simp [bin, intBin]
@[simp] theorem bin_mul : bin .mul bl eq (.v (.int k a)) (.v (.int k b)) = some (.v (.int k (k.wrap (a * b)))) := by simp [bin, intBin]
@[simp] theorem bin_quo : bin .quo bl eq (.v (.int k a)) (.v (.int k b)) = if b = 0 then none else some (.v (.int k (k.wrap (a.tdiv b)))) := by simp [bin, intBin]
@[simp] theorem bin_rem : bin .rem bl eq (.v (.int k a)) (.v (.int k b)) = if b = 0 then none else some (.v (.int k (a.tmod b))) := by simp [bin, intBin]
@[simp] theorem bin_lss : bin .lss bl eq (.v (.int k a)) (.v (.int k b)) = some (B (decide (a < b))) := by simp [bin, intBin]
@[simp] theorem bin_leq : bin .leq bl eq (.v (.int k a)) (.v (.int k b)) = some (B (decide (a ≤ b))) := by simp [bin, intBin]
@[simp] theorem bin_gtr : bin .gtr bl eq (.v (.int k a)) (.v (.int k b)) = some (B (decide (b < a))) := by simp [bin, intBin]
@[simp] theorem bin_geq : bin .geq bl eq (.v (.int k a)) (.v (.int k b)) = some (B (decide (b ≤ a))) := by simp [bin, intBin]
@[simp] theorem bin_eql : bin .eql bl eq (.v (.int k a)) (.v (.int k b)) = some (B (decide (a = b))) := by
  have : (a == b) = decide (a = b) := rfl
  simp [bin, intBin, this]
@[simp] theorem bin_neq : bin .neq bl eq (.v (.int k a)) (.v (.int k b)) = some (B (!decide (a = b))) := by
  have : (a != b) = !decide (a = b) := rfl
  simp [bin, intBin, this]
@[simp] theorem bin_eqlB {a b : Bool} : bin .eql true eq (B a) (B b) = some (B (a == b)) := by simp [bin]
@[simp] theorem bin_neqB {a b : Bool} : bin .neq true eq (B a) (B b) = some (B !(a == b)) := by simp [bin]
@[simp] theorem bin_addS {a b : ByteArray} : bin .add bl eq (T a) (T b) = if a.size + b.size ≤ 1152921504606846976 then some (T (a ++ b)) else none := by simp [bin, strBin]
@[simp] theorem bin_eqlS {a b : ByteArray} : bin .eql bl eq (T a) (T b) = some (B (decide (a = b))) := by
  have : (a.toList == b.toList) = decide (a = b) := by
    rw [Bool.eq_iff_iff, beq_iff_eq, decide_eq_true_eq]
    constructor
    · intro h
      have h1 : ∀ s : ByteArray, s.toList = s.data.toList := fun s => by simp [ByteArray.toList_eq]
      rw [h1, h1] at h
      cases a; cases b
      simp at h
      simp [h]
    · rintro rfl; rfl
  simp [bin, strBin, this]
@[simp] theorem bin_neqS {a b : ByteArray} : bin .neq bl eq (T a) (T b) = some (B (!decide (a = b))) := by
  have h := bin_eqlS (a := a) (b := b) (bl := bl) (eq := eq)
  simp only [bin, strBin, Option.some.injEq, D.v.injEq, Value.bool.injEq] at h ⊢
  rw [h]
@[simp] theorem un_not {b : Bool} : un .not (B b) = some (B !b) := rfl
@[simp] theorem un_neg : un .neg (.v (.int k a)) = some (.v (.int k (k.wrap (-a)))) := by simp [un]

theorem wrap_id (h1 : -9223372036854775808 ≤ a) (h2 : a < 9223372036854775808) : IntKind.i64.wrap a = a := by
  simp [IntKind.wrap, IntKind.bits, IntKind.signed]
  split <;> omega
end

@[simp] theorem ifD_B {c : Bool} {t e : Option Out} : ifD (B c) t e = if c = true then t else e := by cases c <;> rfl
@[simp] theorem ifN_B {c : Bool} {t e : Option Out} : ifN c t e = if c = true then t else e := by cases c <;> rfl
@[simp] theorem gate_t {v : D} {c : Bool} {r : Option D} : gate v (B c) true r = if c = true then r else some v := by cases c <;> rfl
@[simp] theorem gate_f {v : D} {c : Bool} {r : Option D} : gate v (B c) false r = if c = true then some v else r := by cases c <;> rfl
@[simp] theorem gate_s {v : D} {p : Bool} {l : List D} {r : Option D} : gate v (.tup l) p r = some v := rfl
@[simp] theorem gateC_s {p : Bool} {l : List D} {r : Option Out} {alt : List D} {k : List D → Option Out} : gateC (.tup l) p r alt k = k alt := rfl
def nrmK (r : Option Out) (k : List D → Option Out) : Option Out :=
  match r with
  | some (.nrm l) => k l
  | _ => none
@[simp] theorem nrmK_some {l : List D} {k : List D → Option Out} : nrmK (some (.nrm l)) k = k l := rfl
@[simp] theorem gateC_t {c : Bool} {r : Option Out} {alt : List D} {k : List D → Option Out} : gateC (B c) true r alt k = if c = true then nrmK r k else k alt := by cases c <;> rfl
@[simp] theorem gateC_f {c : Bool} {r : Option Out} {alt : List D} {k : List D → Option Out} : gateC (B c) false r alt k = if c = true then k alt else nrmK r k := by cases c <;> rfl
@[simp] theorem pickD_B {c : Bool} {a b : D} : pickD (B c) a b = some (if c = true then a else b) := by cases c <;> rfl
@[simp] theorem callK_ret {rs us : List D} {k : List D → List D → Option Out} : callK (some (.ret rs us)) k = k rs us := rfl
@[simp] theorem outK_ext {i : Nat} {s : List D} {x : Nat → List D → Option Out} {r : List D → List D → Option Out} : outK (.ext i s) x r = x i s := rfl
@[simp] theorem outK_ret {a b : List D} {x : Nat → List D → Option Out} {r : List D → List D → Option Out} : outK (.ret a b) x r = r a b := rfl
@[simp] theorem liveD_v {v : Value} {x : D} : liveD (.v v) x = some x := rfl
@[simp] theorem liveD_arr {z : Nat} {l : List D} {x : D} : liveD (.arr z l) x = some x := rfl
@[simp] theorem liveD_agg {l : List D} {x : D} : liveD (.agg l) x = some x := rfl
@[simp] theorem liveD_ref {i f : Nat} {x : D} : liveD (.ref i f) x = some x := rfl
@[simp] theorem liveD_tup {l : List D} {x : D} : liveD (.tup l) x = some x := rfl
@[simp] theorem lenD_arr {z : Nat} {l : List D} : lenD false (.arr z l) = some (I l.length) := rfl
@[simp] theorem lenD_str {s : ByteArray} : lenD true (T s) = some (I s.size) := rfl
@[simp] theorem sl_zero {a : D} {l : List D} : sl (a :: l) 0 = a := rfl
@[simp] theorem sl_succ {a : D} {l : List D} {n : Nat} : sl (a :: l) (n + 1) = sl l n := rfl
@[simp] theorem fldD_agg {ag : Bool} {n off : Nat} {l : List D} : fldD ag n off (.agg l) = takeD ag n (l.drop off) := rfl
@[simp] theorem ldD_ptr {ag : Bool} {n : Nat} {l : List D} : ldD ag n (.ptr l) = takeD ag n l := rfl
@[simp] theorem offD_ptr {off : Nat} {l : List D} : offD off (.ptr l) = some (.ptr (l.drop off)) := rfl
@[simp] theorem takeD_t {n : Nat} {l : List D} : takeD true n l = if n ≤ l.length then some (.agg (l.take n)) else none := rfl
@[simp] theorem takeD_f {n : Nat} {a : D} {l : List D} : takeD false n (a :: l) = some a := rfl
@[simp] theorem atD_agg {l : List D} {i f : Nat} : atD (.agg l) (.ref i f) = some (l.drop f) := rfl
@[simp] theorem atD_arr {z : Nat} {l : List D} {i f : Nat} : atD (.arr z l) (.ref i f) = (l[i]?).map fun d => d.cells.drop f := rfl
@[simp] theorem refAdd_ref {off i f : Nat} : refAdd off (.ref i f) = some (.ref i (f + off)) := rfl
@[simp] theorem elemD_nat {z : Nat} {l : List D} {k : IntKind} {i : Nat} : elemD z (.arr z l) (.v (.int k (i : Int))) = (l[i]?).map D.cells := by simp [elemD]
theorem elemD_int {z : Nat} {l : List D} {k : IntKind} {n : Int} (h : 0 ≤ n) : elemD z (.arr z l) (.v (.int k n)) = (l[n.toNat]?).map D.cells := by simp [elemD, h]
@[simp] theorem refI_nat {z : Nat} {l : List D} {k : IntKind} {i : Nat} : refI z (.arr z l) (.v (.int k (i : Int))) = if i < l.length then some (.ref i 0) else none := by simp [refI]
@[simp] theorem D_cells_agg {l : List D} : (D.agg l).cells = l := rfl
@[simp] theorem D_cells_v {v : Value} : (D.v v).cells = [.v v] := rfl
@[simp] theorem D_cells_arr {z : Nat} {l : List D} : (D.arr z l).cells = [.arr z l] := rfl
@[simp] theorem chkV_v {v : Value} : chkV (.v v) = some (.v v) := rfl
@[simp] theorem chkV_agg {l : List D} : chkV (.agg l) = if l.all isVs = true then some (.agg l) else none := by
  have : (D.agg l).isV = l.all isVs := by
    simp only [D.isV]
    congr 1
  simp [chkV, this]
@[simp] theorem isVs_v {v : Value} : isVs (.v v) = true := rfl
@[simp] theorem isVs_arr {z : Nat} {l : List D} : isVs (.arr z l) = false := rfl
@[simp] theorem single_v {v : Value} : (D.v v).single = true := rfl
@[simp] theorem single_arr {z : Nat} {l : List D} : (D.arr z l).single = true := rfl
@[simp] theorem width_agg {l : List D} : (D.agg l).width = l.length := rfl
@[simp] theorem width_v {v : Value} : (D.v v).width = 1 := rfl
@[simp] theorem width_arr {z : Nat} {l : List D} : (D.arr z l).width = 1 := rfl
@[simp] theorem boxD_eq {n : Nat} {x : D} : boxD n x = if x.cells.length = n ∧ x.cells.all D.single = true then some (.agg x.cells) else none := rfl
@[simp] theorem stD_agg {n i f : Nat} {l : List D} {x : D} : stD n (.agg l) (.ref i f) x = if x.cells.length = n ∧ f + n ≤ l.length ∧ x.cells.all D.single = true then some (.agg (putCells l f x.cells)) else none := rfl
@[simp] theorem putCells_eq {l : List D} {f : Nat} {vs : List D} : putCells l f vs = l.take f ++ vs ++ l.drop (f + vs.length) := rfl
@[simp] theorem tupAt_tup {l : List D} {i : Nat} : tupAt (.tup l) i = match l[i]? with
    | some .bad => none
    | some (.tup _) => none
    | r => r := rfl
@[simp] theorem tupCut_tup {l : List D} {i : Nat} : tupCut (.tup l) i = .tup (l.set i .bad) := rfl
@[simp] theorem ref0_eq {x : D} : ref0 (.ref 0 0) x = some x := rfl
@[simp] theorem appD_eq {z eb : Nat} {l m : List D} : appD z eb (.arr z l) (.arr z m) = if (l.length + m.length) * eb ≤ 140737488355328 ∧ l.length + m.length ≤ 1152921504606846976 then some (.arr z (l ++ m)) else none := by simp [appD]

@[simp] theorem elemD_nat1 {z : Nat} {l : List D} {k : IntKind} {i : Nat} : elemD z (.arr z l) (.v (.int k ((i : Int) + 1))) = (l[i + 1]?).map D.cells := elemD_nat (i := i + 1)
@[simp] theorem elemD_zero {z : Nat} {l : List D} {k : IntKind} : elemD z (.arr z l) (.v (.int k 0)) = (l[0]?).map D.cells := elemD_nat (i := 0)
@[simp] theorem makD_nat {z eb : Nat} {x : D} {k k' : IntKind} {n m : Nat} : makD z eb x (.v (.int k (n : Int))) (.v (.int k' (m : Int))) = if n ≤ m ∧ m * eb ≤ 140737488355328 ∧ m ≤ 140737488355328 then some (.arr z (List.replicate n x)) else none := by
  have h : ((n : Int) ≤ m ∧ (m : Int) * (eb : Int) ≤ 140737488355328 ∧ (m : Int) ≤ 140737488355328) ↔ (n ≤ m ∧ m * eb ≤ 140737488355328 ∧ m ≤ 140737488355328) := by
    rw [← Int.natCast_mul]
    omega
  simp only [makD, Int.natCast_nonneg, true_and, h, Int.toNat_natCast]

/-- An element of an owned slice that is written whole. -/
theorem stD_arr {n z i : Nat} {L c v : List D} (h : L[i]? = some (.agg c)) (hc : c.length = n) (hv : v.length = n) (hs : v.all D.single = true) : stD n (.arr z L) (.ref i 0) (.agg v) = some (.arr z (L.set i (.agg v))) := by
  have e : (D.agg c).ofCells (putCells c 0 v) = .agg v := by
    simp only [D.ofCells, putCells, List.take_zero, List.nil_append, Nat.zero_add, hv, ← hc, List.drop_length, List.append_nil]
  have h2 : (D.agg v).cells = v := rfl
  simp only [stD, h, h2, e, width_agg, hc, hv, hs, Nat.zero_add, Nat.le_refl, and_self, if_true, D_cells_agg]
theorem stD_arr1 {z i : Nat} {L : List D} {v w : Value} (h : L[i]? = some (.v w)) : stD 1 (.arr z L) (.ref i 0) (.v v) = some (.arr z (L.set i (.v v))) := by
  simp [stD, h, D.ofCells]

/-- A list that is filled from the left. -/
def fillL {β : Type} (f : β → D) (z : D) (l : List β) (i : Nat) : List D := (l.take i).map f ++ List.replicate (l.length - i) z
section
variable {β : Type} {f : β → D} {z : D} {l : List β} {i : Nat}
theorem fillL_zero : List.replicate l.length z = fillL f z l 0 := by simp [fillL]
theorem fillL_full : fillL f z l l.length = l.map f := by simp [fillL]
@[simp] theorem fillL_length (h : i ≤ l.length) : (fillL f z l i).length = l.length := by simp [fillL]; omega
theorem fillL_get (h : i < l.length) : (fillL f z l i)[i]? = some z := by
  rw [fillL, List.getElem?_append_right (by simp; omega)]
  simp [List.getElem?_replicate]
  omega
theorem fillL_set {x : β} (h : l[i]? = some x) : (fillL f z l i).set i (f x) = fillL f z l (i + 1) := by
  have hi : i < l.length := (List.getElem?_eq_some_iff.1 h).1
  have hx : l[i] = x := (List.getElem?_eq_some_iff.1 h).2
  obtain ⟨m, hm⟩ : ∃ m, l.length - i = m + 1 := ⟨l.length - i - 1, by omega⟩
  rw [fillL, fillL, hm, show l.length - (i + 1) = m from by omega, List.replicate_succ, List.set_append_right _ _ (by simp; omega)]
  have : i - (List.map f (l.take i)).length = 0 := by simp; omega
  rw [this, List.set_cons_zero, List.take_succ_eq_append_getElem hi, List.map_append, hx]
  simp
end

/-- Some cells of an element of an owned slice are written. -/
theorem stD_part {z i f : Nat} {L c : List D} {v : Value} (h : L[i]? = some (.agg c)) (hf : f < c.length) : stD 1 (.arr z L) (.ref i f) (.v v) = some (.arr z (L.set i (.agg (putCells c f [.v v])))) := by
  have h2 : (D.v v).cells = [.v v] := rfl
  have h3 : f + 1 ≤ c.length := hf
  simp [stD, h, h2, h3, D.ofCells]

/-- A list that is marked from the left. -/
def markL {β : Type} (g : Nat → D) (f : β → D) (l : List β) (i : Nat) : List D := (List.range i).map g ++ (l.drop i).map f
section
variable {β : Type} {g : Nat → D} {f : β → D} {l : List β} {i : Nat}
theorem markL_zero : l.map f = markL g f l 0 := by simp [markL]
theorem markL_full : markL g f l l.length = (List.range l.length).map g := by simp [markL]
@[simp] theorem markL_length (h : i ≤ l.length) : (markL g f l i).length = l.length := by simp [markL]; omega
theorem markL_get (h : i < l.length) : (markL g f l i)[i]? = some (f l[i]) := by
  rw [markL, List.getElem?_append_right (by simp)]
  simp [h]
theorem markL_set (h : i < l.length) : (markL g f l i).set i (g i) = markL g f l (i + 1) := by
  rw [markL, markL, List.drop_eq_getElem_cons h, List.set_append_right _ _ (by simp), List.map_cons, List.length_map, List.length_range, Nat.sub_self, List.set_cons_zero, List.range_succ, List.map_append]
  simp
end

theorem mkArr_nil {z : Nat} : mkArr z [] = some (.arr z []) := rfl
@[simp] theorem chkA_map {β : Type} {z : Nat} {l : List β} {f : β → D} (h : ∀ x, (f x).isV = true) : chkA (.arr z (l.map f)) = some (.arr z (l.map f)) := by
  have : (l.map f).all D.isV = true := by simp [h]
  simp only [chkA, this, if_true]
theorem sliceD_nat {z i j : Nat} {l : List D} {k k' : IntKind} (h1 : i ≤ j) (h2 : j ≤ l.length) : sliceD false z (.arr z l) (.v (.int k (i : Int))) (.v (.int k' (j : Int))) = some (.arr z ((l.take j).drop i)) := by
  simp only [sliceD, Int.toNat_natCast, true_and]
  rw [if_pos]
  omega
theorem sliceHi_nat {z i : Nat} {l : List D} {k : IntKind} (h : i ≤ l.length) : sliceHi false z (.arr z l) (.v (.int k (i : Int))) = some (.arr z (l.drop i)) := by
  simp only [sliceHi, Int.toNat_natCast, true_and]
  rw [if_pos]
  omega
theorem wrap_neg {a b : Int} : IntKind.i64.wrap (a + IntKind.i64.wrap (-b)) = IntKind.i64.wrap (a - b) := by
  simp only [IntKind.wrap_i64]
  omega
@[simp] theorem ite_B {p : Prop} [Decidable p] {a b : Bool} : (if p then D.v (.bool a) else D.v (.bool b)) = D.v (.bool (if p then a else b)) := by split <;> rfl

/-! ### loops -/
theorem iter_mono {body : List D → Option Out} : ∀ (n : Nat) (s : List D) (o : Out), iter body n s = some o → ∀ m, n ≤ m → iter body m s = some o
  | 0, _, _, h, _, _ => by simp [iter] at h
  | n + 1, s, o, h, m, hm => by
    obtain ⟨m, rfl⟩ : ∃ q, m = q + 1 := ⟨m - 1, by omega⟩
    simp only [iter] at h ⊢
    split at h
    · rename_i s' hb
      exact iter_mono n s' o h m (by omega)
    · exact h

theorem loopC_of {body : List D → Option Out} {s : List D} {o : Out} (n : Nat) (h : iter body n s = some o) : loopC body s = some o := by
  have hex : ∃ n, (iter body n s).isSome = true := ⟨n, by rw [h]; rfl⟩
  unfold loopC
  rw [dif_pos hex]
  obtain ⟨o', ho⟩ := Option.isSome_iff_exists.1 (Classical.choose_spec hex)
  rw [ho]
  have h1 := iter_mono _ _ _ ho (max n (Classical.choose hex)) (by omega)
  have h2 := iter_mono _ _ _ h (max n (Classical.choose hex)) (by omega)
  rw [h1] at h2
  exact h2

/-- A loop that comes to an end in some number of rounds. -/
inductive Runs (body : List D → Option Out) : List D → Out → Prop where
  | ext {s : List D} {i : Nat} {δ : List D} : body s = some (.ext i δ) → Runs body s (.ext i δ)
  | ret {s : List D} {rs us : List D} : body s = some (.ret rs us) → Runs body s (.ret rs us)
  | nrm {s s' : List D} {o : Out} : body s = some (.nrm s') → Runs body s' o → Runs body s o

theorem Runs.iter {body : List D → Option Out} {s : List D} {o : Out} (h : Runs body s o) : ∃ n, V.iter body n s = some o := by
  induction h with
  | ext h => exact ⟨1, by simp [V.iter, h]⟩
  | ret h => exact ⟨1, by simp [V.iter, h]⟩
  | nrm h _ ih =>
    obtain ⟨n, hn⟩ := ih
    exact ⟨n + 1, by simp [V.iter, h, hn]⟩
theorem Runs.loop {body : List D → Option Out} {s : List D} {o : Out} (h : Runs body s o) : loopC body s = some o := by
  obtain ⟨n, hn⟩ := h.iter
  exact loopC_of n hn

/-- A loop over a list; the state is a function of the place and of what is gathered. -/
def goL {α β : Type} (g : Nat → β → α → α ⊕ Out) (fin : α → Out) : Nat → List β → α → Out
  | _, [], a => fin a
  | i, x :: l, a => match g i x a with
    | .inl a' => goL g fin (i + 1) l a'
    | .inr o => o
def Out.ends : Out → Bool
  | .nrm _ => false
  | _ => true
theorem Runs.one {body : List D → Option Out} {s : List D} {o : Out} (h : body s = some o) (ho : o.ends = true) : Runs body s o := by
  cases o with
  | nrm _ => simp [Out.ends] at ho
  | ext _ _ => exact .ext h
  | ret _ _ => exact .ret h

theorem Runs.list {α β : Type} {body : List D → Option Out} (l : List β) (st : Nat → α → List D) (Inv : Nat → α → Prop) (g : Nat → β → α → α ⊕ Out) (fin : α → Out)
    (hs : ∀ i x a, l[i]? = some x → Inv i a → match g i x a with
      | .inl a' => body (st i a) = some (.nrm (st (i + 1) a')) ∧ Inv (i + 1) a'
      | .inr o => body (st i a) = some o ∧ o.ends = true)
    (he : ∀ a, Inv l.length a → body (st l.length a) = some (fin a) ∧ (fin a).ends = true) (a : α) (h0 : Inv 0 a) : Runs body (st 0 a) (goL g fin 0 l a) := by
  have key : ∀ (n i : Nat) (a : α), i + n = l.length → Inv i a → Runs body (st i a) (goL g fin i (l.drop i) a) := by
    intro n
    induction n with
    | zero =>
      intro i a hi hI
      have : i = l.length := by omega
      subst this
      rw [List.drop_length]
      exact Runs.one (he a hI).1 (he a hI).2
    | succ n ih =>
      intro i a hi hI
      have hlt : i < l.length := by omega
      rw [List.drop_eq_getElem_cons hlt]
      have h := hs i l[i] a (List.getElem?_eq_getElem hlt) hI
      simp only [goL]
      split at h
      · exact .nrm h.1 (ih (i + 1) _ (by omega) h.2)
      · exact Runs.one h.1 h.2
  simpa using key l.length 0 a (by omega) h0

theorem loop_list {α β : Type} {body : List D → Option Out} (l : List β) (st : Nat → α → List D) (Inv : Nat → α → Prop) (g : Nat → β → α → α ⊕ Out) (fin : α → Out)
    (hs : ∀ i x a, l[i]? = some x → Inv i a → match g i x a with
      | .inl a' => body (st i a) = some (.nrm (st (i + 1) a')) ∧ Inv (i + 1) a'
      | .inr o => body (st i a) = some o ∧ o.ends = true)
    (he : ∀ a, Inv l.length a → body (st l.length a) = some (fin a) ∧ (fin a).ends = true) (a : α) (h0 : Inv 0 a) {s0 : List D} (h : s0 = st 0 a) : loopC body s0 = some (goL g fin 0 l a) := by
  rw [h]
  exact (Runs.list l st Inv g fin hs he a h0).loop

/-- A loop whose state at each round is known: n rounds, then the end. -/
theorem loop_for {body : List D → Option Out} (n : Nat) (st : Nat → List D) (o : Out) (hs : ∀ i, i < n → body (st i) = some (.nrm (st (i + 1)))) (he : body (st n) = some o) (ho : o.ends = true) {s0 : List D} (h : s0 = st 0) : loopC body s0 = some o := by
  rw [h]
  have key : ∀ (m i : Nat), i + m = n → Runs body (st i) o := by
    intro m
    induction m with
    | zero =>
      intro i hi
      have : i = n := by omega
      subst this
      exact Runs.one he ho
    | succ m ih => exact fun i hi => .nrm (hs i (by omega)) (ih (i + 1) (by omega))
  exact (key n 0 (by omega)).loop

/-- A loop that goes over a list as long as all is well. -/
def allI {β : Type} (p : Nat → β → Bool) : Nat → List β → Bool
  | _, [] => true
  | i, x :: l => p i x && allI p (i + 1) l
theorem loop_all {β : Type} {body : List D → Option Out} (l : List β) (st : Nat → List D) (p : Nat → β → Bool) (o1 o2 : Out) (hs : ∀ (i : Nat) (hi : i < l.length), body (st i) = some (if p i l[i] = true then .nrm (st (i + 1)) else o1)) (he : body (st l.length) = some o2)
    (h1 : o1.ends = true) (h2 : o2.ends = true) {s0 : List D} (h : s0 = st 0) : loopC body s0 = some (if allI p 0 l = true then o2 else o1) := by
  have e : ∀ (m : List β) (i : Nat), goL (fun i x (_ : Unit) => if p i x = true then .inl () else .inr o1) (fun _ => o2) i m () = if allI p i m = true then o2 else o1 := by
    intro m
    induction m with
    | nil => intro i; simp [goL, allI]
    | cons x m ih =>
      intro i
      simp only [goL, allI]
      by_cases hp : p i x = true
      · simp [hp, ih]
      · simp [hp]
  rw [← e]
  refine loop_list l (fun i _ => st i) (fun _ _ => True) _ _ (fun i x a hx _ => ?_) (fun _ _ => ⟨he, h2⟩) () trivial h
  have hi : i < l.length := (List.getElem?_eq_some_iff.1 hx).1
  have hxe : l[i] = x := (List.getElem?_eq_some_iff.1 hx).2
  have := hs i hi
  rw [hxe] at this
  by_cases hp : p i x = true
  · simpa [hp] using this
  · simpa [hp, h1] using this

/-- A loop that gathers over a list. -/
theorem loop_foldl {α β : Type} {body : List D → Option Out} (l : List β) (st : Nat → α → List D) (f : α → β → α) (fin : α → Out) (a : α) (hs : ∀ (i : Nat) (a : α) (hi : i < l.length), body (st i a) = some (.nrm (st (i + 1) (f a l[i])))) (he : ∀ a, body (st l.length a) = some (fin a))
    (h1 : ∀ a, (fin a).ends = true) {s0 : List D} (h : s0 = st 0 a) : loopC body s0 = some (fin (l.foldl f a)) := by
  have e : ∀ (m : List β) (i : Nat) (a : α), goL (fun _ x a => .inl (f a x)) fin i m a = fin (m.foldl f a) := by
    intro m
    induction m with
    | nil => intro i a; rfl
    | cons x m ih => intro i a; simp only [goL, List.foldl_cons]; exact ih (i + 1) (f a x)
  rw [← e l 0 a]
  exact loop_list l st (fun _ _ => True) (fun _ x a => .inl (f a x)) _ (fun i x a hx _ => ⟨by
    have hi : i < l.length := (List.getElem?_eq_some_iff.1 hx).1
    have hxe : l[i] = x := (List.getElem?_eq_some_iff.1 hx).2
    rw [← hxe]
    exact hs i a hi, trivial⟩) (fun a _ => ⟨he a, h1 a⟩) a trivial h

/-- A loop that gathers over a list, and looks at the place too. -/
def foldI {α β : Type} (f : Nat → α → β → α) : Nat → List β → α → α
  | _, [], a => a
  | i, x :: l, a => foldI f (i + 1) l (f i a x)
theorem loop_foldi {α β : Type} {body : List D → Option Out} (l : List β) (st : Nat → α → List D) (Inv : Nat → α → Prop) (f : Nat → α → β → α) (fin : α → Out) (a : α) (hs : ∀ (i : Nat) (a : α) (hi : i < l.length), Inv i a → body (st i a) = some (.nrm (st (i + 1) (f i a l[i]))) ∧ Inv (i + 1) (f i a l[i]))
    (he : ∀ a, Inv l.length a → body (st l.length a) = some (fin a)) (h1 : ∀ a, (fin a).ends = true) (h0 : Inv 0 a) {s0 : List D} (h : s0 = st 0 a) : loopC body s0 = some (fin (foldI f 0 l a)) := by
  have e : ∀ (m : List β) (i : Nat) (a : α), goL (fun i x a => .inl (f i a x)) fin i m a = fin (foldI f i m a) := by
    intro m
    induction m with
    | nil => intro i a; rfl
    | cons x m ih => intro i a; simp only [goL, foldI]; exact ih (i + 1) (f i a x)
  rw [← e l 0 a]
  refine loop_list l st Inv (fun i x a => .inl (f i a x)) _ (fun i x a hx hI => ?_) (fun a hI => ⟨he a hI, h1 a⟩) a h0 h
  have hi : i < l.length := (List.getElem?_eq_some_iff.1 hx).1
  have hxe : l[i] = x := (List.getElem?_eq_some_iff.1 hx).2
  rw [← hxe]
  exact hs i a hi hI

theorem loop_bind {body : List D → Option Out} {s0 : List D} {K : Out → Option Out} {r : Option Out} (o : Out) (h : loopC body s0 = some o) (hk : K o = r) : (loopC body s0).bind K = r := by
  rw [h]
  exact hk

/-- A loop whose measure falls. -/
theorem loop_wf {α : Type} {body : List D → Option Out} (st : α → List D) (Inv : α → Prop) (μ : α → Nat) (Q : α → Out → Prop)
    (hs : ∀ a, Inv a → (∃ a', body (st a) = some (.nrm (st a')) ∧ Inv a' ∧ μ a' < μ a ∧ ∀ o, Q a' o → Q a o) ∨ ∃ o, body (st a) = some o ∧ o.ends = true ∧ Q a o) (a : α) (h : Inv a) {s0 : List D} (h0 : s0 = st a) : ∃ o, loopC body s0 = some o ∧ Q a o := by
  rw [h0]
  have key : ∀ (n : Nat) (a : α), μ a < n → Inv a → ∃ o, Runs body (st a) o ∧ Q a o := by
    intro n
    induction n with
    | zero => exact fun a h => by omega
    | succ n ih =>
      intro a hn hI
      rcases hs a hI with ⟨a', h1, h2, h3, h4⟩ | ⟨o, h1, h2, h3⟩
      · obtain ⟨o, h5, h6⟩ := ih a' (by omega) h2
        exact ⟨o, .nrm h1 h5, h4 o h6⟩
      · exact ⟨o, Runs.one h1 h2, h3⟩
  obtain ⟨o, h1, h2⟩ := key (μ a + 1) a (by omega) h
  exact ⟨o, h1.loop, h2⟩

theorem loop_wf_bind {α : Type} {body : List D → Option Out} {K : Out → Option Out} (R : Option Out → Prop) (st : α → List D) (Inv : α → Prop) (μ : α → Nat) (Q : Out → Prop)
    (hs : ∀ a, Inv a → (∃ a', body (st a) = some (.nrm (st a')) ∧ Inv a' ∧ μ a' < μ a) ∨ ∃ o, body (st a) = some o ∧ o.ends = true ∧ Q o) (a : α) (h : Inv a) {s0 : List D} (h0 : s0 = st a) (hk : ∀ o, Q o → R (K o)) : R ((loopC body s0).bind K) := by
  obtain ⟨o, h1, h2⟩ := loop_wf st Inv μ (fun _ o => Q o) (fun a ha => by
    rcases hs a ha with ⟨a', g1, g2, g3⟩ | h
    · exact .inl ⟨a', g1, g2, g3, fun _ h => h⟩
    · exact .inr h) a h h0
  rw [h1]
  exact hk o h2

end Go.V
/-
  The evaluator with joins: what stands behind a choice is evaluated once.
-/
namespace Go.V
open Go.RowKit

/-- What stands behind a choice, said once (not unfolded). -/
def joinC (f : (List D → Option Out) → Option Out) (k : List D → Option Out) : Option Out := f k

@[reducible] noncomputable def denJ (c : Cx) (J : List (Nat × List Nat)) : Nat → Nat → Code → List D → (Out → Option Out) → Option Out
  | _, _, .skip, δ, k => k (.nrm δ)
  | _, _, .region _ ops _, δ, k => runOps c ops.toList ops.toList δ fun δ' => k (.nrm δ')
  | p, bid, .seq a b, δ, k => match look J p with
    | none => denJ c J (Nat.mul 2 p) bid a δ fun o => seqK o (fun δ' => denJ c J (Nat.add (Nat.mul 2 p) 1) bid b δ' k) k
    | some hl => joinC (fun j => denJ c J (Nat.mul 2 p) bid a δ fun o => seqK o (fun δ' => getC δ' hl fun s => j s) k) (fun s => expandC (lenN c.K) hl s fun δ' => denJ c J (Nat.add (Nat.mul 2 p) 1) bid b δ' k)
  | p, bid, .cond x t e, δ, k => opC δ x fun q => ifD q (denJ c J (Nat.mul 2 p) bid t δ k) (denJ c J (Nat.add (Nat.mul 2 p) 1) bid e δ k)
  | p, _, .block id b, δ, k => denJ c J (Nat.mul 2 p) id b δ fun o => blkK id o k
  | p, bid, .loop b, δ, k => match look c.H bid with
    | none => none
    | some (hl, xl) =>
      getC δ hl fun s => (loopC (fun s => expandC (lenN c.K) hl s fun δ => denJ c J (Nat.mul 2 p) bid b δ (shrinkK hl xl)) s).bind fun o =>
        outK o (fun i s => expandC (lenN c.K) xl s fun δ => k (.ext i δ)) (fun a b => k (.ret a b))
  | _, _, .exit id, δ, k => k (.ext id δ)
  | _, _, .ret, δ, k => resC c δ c.res fun rs => getC δ c.ios fun us => usK us (k (.ret rs us))
  | _, _, _, _, _ => none

/-- A whole function. -/
@[reducible] noncomputable def denFJ (c : Cx) (J : List (Nat × List Nat)) (fn : Func) (ds : List D) : Option Out :=
  match fn.body with
  | none => none
  | some b => denJ c J 1 0 b (padTo fn.ntmps ds) fun o => match o with
    | .nrm δ => resC c δ c.res fun rs => getC δ c.ios fun us => usK us (some (.ret rs us))
    | .ext _ _ => none
    | .ret rs us => some (.ret rs us)

def okJ (c : Cx) (J : List (Nat × List Nat)) : Bool := J.all fun p => okLive c.K p.2
theorem okJ_at {c : Cx} : ∀ {J : List (Nat × List Nat)} {p : Nat} {hl : List Nat}, okJ c J = true → look J p = some hl → okLive c.K hl = true
  | [], _, _, _, h => by cases h
  | (q, l) :: J, p, hl, hJ, h => by
    unfold okJ at hJ
    rw [List.all_cons, Bool.and_eq_true] at hJ
    simp only [look] at h
    split at h
    · cases h
      exact hJ.1
    · exact okJ_at (J := J) hJ.2 h

section
variable {P : Program} {c : Cx} {B : Nat} {X : Nat → Prop} {w0 : World} {F0 F : Nat → Prop} {O : Nat → Option (Nat × Nat)} {a : Act} {w : World} {δ : List D}

theorem loop_roundsJ {V : Nat → Value} {J : List (Nat × List Nat)} {p : Nat} {b : Code} {bid : Nat} {hl xl : List Nat} (h1 : okLive c.K hl = true) (h2 : okLive c.K xl = true)
    (ih : ∀ (F : Nat → Prop) (O : Nat → Option (Nat × Nat)) (a : Act) (w : World) (δ : List D), Inv c B X w0 F0 F O a w δ → IoV c V a → ∀ (k : Out → Option Out) (r : Out), denJ c J p bid b δ k = some r → ∀ Q, (∀ e a w, Post c B X w0 F0 V k r e a w → Q e a w) → b.wp P Q a w)
    {k : Out → Option Out} {r : Out} {Q : Exit → Act → World → Prop} (hQ : ∀ e a w, Post c B X w0 F0 V k r e a w → Q e a w) {o : Out}
    (ho : outK o (fun i s => expandC (lenN c.K) xl s fun δ => k (.ext i δ)) (fun x y => k (.ret x y)) = some r) : ∀ (n : Nat) (F : Nat → Prop) (O : Nat → Option (Nat × Nat)) (a : Act) (w : World) (δ : List D), Inv c B X w0 F0 F O a w δ → IoV c V a →
    iter (fun s => expandC (lenN c.K) hl s fun δ => denJ c J p bid b δ (shrinkK hl xl)) n (getAll δ hl) = some o → Code.rounds P b Q n a w
  | 0, _, _, _, _, _, _, _, h => by cases h
  | n + 1, F, O, a, w, δ, hI, hV, h => by
    simp only [iter, expandC_eq] at h
    rw [rounds_succ]
    have hI' := hI.carry h1
    cases hb : denJ c J p bid b (carry (lenN c.K) hl δ) (shrinkK hl xl) with
    | none => rw [hb] at h; cases h
    | some ob =>
      rw [hb] at h
      refine ih F O a w _ hI' hV _ ob hb _ (fun e a' w' hp => ?_)
      cases ob with
      | nrm s' =>
        simp only at h
        cases e with
        | normal =>
          obtain ⟨⟨F', O', δ', g1, g2⟩, g3⟩ := hp
          simp only [shrinkK, getC_eq, Option.some.injEq, Out.nrm.injEq] at g2
          rw [← g2] at h
          exact loop_roundsJ h1 h2 ih hQ ho n F' O' a' w' δ' g1 g3 h
        | exit i =>
          obtain ⟨⟨F', O', δ', g1, g2⟩, g3⟩ := hp
          simp [shrinkK, getC_eq] at g2
        | ret =>
          obtain ⟨⟨F', O', δ', g1, g2⟩, g3⟩ := hp
          obtain ⟨rs, _, _, g4⟩ := retK_is g2
          simp [shrinkK] at g4
        | _ => exact hp.elim
      | ext i l =>
        simp only [Option.some.injEq] at h
        subst h
        cases e with
        | normal =>
          obtain ⟨⟨F', O', δ', g1, g2⟩, g3⟩ := hp
          simp [shrinkK, getC_eq] at g2
        | exit j =>
          obtain ⟨⟨F', O', δ', g1, g2⟩, g3⟩ := hp
          simp only [shrinkK, getC_eq, Option.some.injEq, Out.ext.injEq] at g2
          obtain ⟨rfl, rfl⟩ := g2
          simp only [outK, expandC_eq] at ho
          exact hQ (.exit j) _ _ ⟨⟨F', O', _, g1.carry h2, ho⟩, g3⟩
        | ret =>
          obtain ⟨⟨F', O', δ', g1, g2⟩, g3⟩ := hp
          obtain ⟨rs, _, _, g4⟩ := retK_is g2
          simp [shrinkK] at g4
        | _ => exact hp.elim
      | ret x y =>
        simp only [Option.some.injEq] at h
        subst h
        cases e with
        | normal =>
          obtain ⟨⟨F', O', δ', g1, g2⟩, g3⟩ := hp
          simp [shrinkK, getC_eq] at g2
        | exit j =>
          obtain ⟨⟨F', O', δ', g1, g2⟩, g3⟩ := hp
          simp [shrinkK, getC_eq] at g2
        | ret =>
          obtain ⟨⟨F', O', δ', g1, g2⟩, g3⟩ := hp
          obtain ⟨rs, g5, g6, g4⟩ := retK_is g2
          simp only [shrinkK, Option.some.injEq, Out.ret.injEq] at g4
          obtain ⟨rfl, rfl⟩ := g4
          exact hQ .ret _ _ ⟨⟨F', O', δ', g1, retK_of g5 g6 ho⟩, g3⟩
        | _ => exact hp.elim

theorem denJ_sound (hT : okT P c.T = true) (hS : ∀ f S, look c.S f = some S → Meets c.G P f S) (hm : P.follows .mixedOrders = true) {V : Nat → Value} {J : List (Nat × List Nat)} (hJ : okJ c J = true) : ∀ (b : Code) (p bid : Nat), okCode c bid b = true → ∀ (F : Nat → Prop) (O : Nat → Option (Nat × Nat)) (a : Act) (w : World) (δ : List D),
    Inv c B X w0 F0 F O a w δ → IoV c V a → ∀ (k : Out → Option Out) (r : Out), denJ c J p bid b δ k = some r → ∀ Q, (∀ e a w, Post c B X w0 F0 V k r e a w → Q e a w) → b.wp P Q a w
  | .skip, p, bid, _, F, O, a, w, δ, hI, hV, k, r, hg, Q, hQ => wp_skip (hQ _ _ _ ⟨⟨F, O, δ, hI, hg⟩, hV⟩)
  | .region id ops d, p, bid, hok, F, O, a, w, δ, hI, hV, k, r, hg, Q, hQ => by
    simp only [okCode, Bool.and_eq_true, List.all_eq_true] at hok
    have hq : ∀ a w, NextV c B X w0 F0 V (fun δ => k (.nrm δ)) r a w → Q .normal a w := fun a w h => hQ _ _ _ h
    cases d
    · exact wp_region_list (list_sound hT hS hq ops.toList hok.1 F O a w δ hI hV hg)
    · exact any_sound hT hS (by simpa using hok.2) hm hq hok.1 hI hV hg id
  | .seq x y, p, bid, hok, F, O, a, w, δ, hI, hV, k, r, hg, Q, hQ => by
    simp only [okCode, Bool.and_eq_true] at hok
    simp only [denJ] at hg
    cases hH : look J p with
    | none =>
      rw [hH] at hg
      refine wp_seq (denJ_sound hT hS hm hJ x _ bid hok.1 F O a w δ hI hV _ r hg _ (fun e a' w' hp => ?_))
      cases e with
      | normal =>
        obtain ⟨⟨F', O', δ', hI', hk'⟩, hV'⟩ := hp
        exact denJ_sound hT hS hm hJ y _ bid hok.2 F' O' a' w' δ' hI' hV' k r hk' Q hQ
      | exit id => exact hQ _ _ _ hp
      | ret => exact hQ _ _ _ hp
      | _ => exact hp.elim
    | some hl =>
      rw [hH] at hg
      simp only [joinC] at hg
      have hlive := okJ_at hJ hH
      refine wp_seq (denJ_sound hT hS hm hJ x _ bid hok.1 F O a w δ hI hV _ r hg _ (fun e a' w' hp => ?_))
      cases e with
      | normal =>
        obtain ⟨⟨F', O', δ', hI', hk'⟩, hV'⟩ := hp
        simp only [seqK, getC_eq, expandC_eq] at hk'
        exact denJ_sound hT hS hm hJ y _ bid hok.2 F' O' a' w' _ (hI'.carry hlive) hV' k r hk' Q hQ
      | exit id => exact hQ _ _ _ hp
      | ret => exact hQ _ _ _ hp
      | _ => exact hp.elim
  | .cond x t e, p, bid, hok, F, O, a, w, δ, hI, hV, k, r, hg, Q, hQ => by
    simp only [okCode, Bool.and_eq_true] at hok
    obtain ⟨⟨hlv, hok1⟩, hok2⟩ := hok
    have hop := hI.opd (ble_iff.1 hlv)
    have key : ifD (opD δ x) (denJ c J (Nat.mul 2 p) bid t δ k) (denJ c J (Nat.add (Nat.mul 2 p) 1) bid e δ k) = some r := by
      simp only [denJ] at hg
      cases x with
      | tmp s => simpa only [opC, nthC_eq, opD] using hg
      | const v => simpa only [opC, opD] using hg
      | func f => simpa only [opC, opD] using hg
      | global g => simp [opC] at hg
    unfold ifD at key
    split at key
    · rename_i hd
      rw [hd] at hop
      exact wp_cond_true (RepB_v hop).1 (denJ_sound hT hS hm hJ t _ bid hok1 F O a w δ hI hV k r key Q hQ)
    · rename_i hd
      rw [hd] at hop
      exact wp_cond_false (RepB_v hop).1 (denJ_sound hT hS hm hJ e _ bid hok2 F O a w δ hI hV k r key Q hQ)
    · cases key
  | .block id b, p, bid, hok, F, O, a, w, δ, hI, hV, k, r, hg, Q, hQ => by
    simp only [okCode] at hok
    refine wp_block (denJ_sound hT hS hm hJ b _ id hok F O a w δ hI hV _ r hg _ (fun e a' w' hp => ?_))
    cases e with
    | normal => exact hQ .normal _ _ hp
    | exit i =>
      simp only [Exit.inBlock]
      have hp' : NextV c B X w0 F0 V (fun δ => blkK id (.ext i δ) k) r a' w' := hp
      split
      · rename_i hi
        refine hQ .normal _ _ (NextV_mono hp' fun δ F O _ h => ?_)
        simp only [blkK] at h
        rw [beq_iff.2 (by simpa using hi)] at h
        exact h
      · rename_i hi
        refine hQ (.exit i) _ _ (NextV_mono hp' fun δ F O _ h => ?_)
        simp only [blkK] at h
        cases hb : Nat.beq i id
        · rw [hb] at h; exact h
        · exact absurd (by simpa using beq_iff.1 hb) hi
    | ret => exact hQ .ret _ _ hp
    | _ => exact hp.elim
  | .loop b, p, bid, hok, F, O, a, w, δ, hI, hV, k, r, hg, Q, hQ => by
    simp only [okCode, Bool.and_eq_true] at hok
    obtain ⟨hok1, hok2⟩ := hok
    simp only [denJ] at hg
    cases hH : look c.H bid with
    | none => rw [hH] at hg; cases hg
    | some hx =>
      obtain ⟨hl, xl⟩ := hx
      rw [hH] at hg hok2
      simp only [Bool.and_eq_true] at hok2
      simp only [getC_eq] at hg
      obtain ⟨o', h1, h2⟩ := Option.bind_eq_some_iff.1 hg
      unfold loopC at h1
      split at h1
      case isFalse => cases h1
      rename_i hex
      refine wp_loop_rounds (Classical.choose hex) ?_
      refine loop_roundsJ (hl := hl) (xl := xl) hok2.1 hok2.2 (fun F O a w δ hI hV k r hg Q hQ => denJ_sound hT hS hm hJ b _ bid hok1 F O a w δ hI hV k r hg Q hQ) hQ h2 _ F O a w δ hI hV h1
  | .exit id, p, bid, _, F, O, a, w, δ, hI, hV, k, r, hg, Q, hQ => wp_exit (hQ _ _ _ ⟨⟨F, O, δ, hI, hg⟩, hV⟩)
  | .ret, p, bid, _, F, O, a, w, δ, hI, hV, k, r, hg, Q, hQ => wp_ret (hQ _ _ _ ⟨⟨F, O, δ, hI, hg⟩, hV⟩)
  | .label _, _, _, hok, _, _, _, _, _, _, _, _, _, _, _, _ => by simp [okCode] at hok
  | .goto _, _, _, hok, _, _, _, _, _, _, _, _, _, _, _, _ => by simp [okCode] at hok
  | .scope _, _, _, hok, _, _, _, _, _, _, _, _, _, _, _, _ => by simp [okCode] at hok


theorem fn_callsJ (hT : okT P c.T = true) (hS : ∀ f S, look c.S f = some S → Meets c.G P f S) (hm : P.follows .mixedOrders = true) {J : List (Nat × List Nat)} (hJ : okJ c J = true) {f : FuncId} {fn : Func} (hf : P.funcs[f]? = some fn) {pm rm : List Kd} (hok : okFn c fn pm rm = true) (hres : c.res = fn.results.toList)
    {ds rs us : List D} (hd : denFJ c J fn ds = some (.ret rs us)) {args : Array Value} {w : World} {F : Nat → Prop} {ow : Nat → Option Nat} (hgl : gOk c.G w F) (ha : ArgsOk w F ow 0 pm ds args.toList) (hF : ∀ b, F b → b < w.heap.size ∧ ow b = none) (hO : ∀ b i, ow b = some i → b < w.heap.size) :
    Calls P f args w fun e w' => ∃ v, e = .returned v ∧ ∃ F' R vs, v = resV vs ∧ CallPost { pm := pm, rm := rm, f := denFJ c J fn } args rs us w F ow F' R vs w' := by
  unfold okFn at hok
  simp only [Bool.and_eq_true, decide_eq_true_eq] at hok
  obtain ⟨⟨⟨⟨⟨hcode, hlenK⟩, hpre⟩, hpm⟩, hokr⟩, hios⟩ := hok
  rw [beq_iff, lenN_eq] at hlenK
  obtain ⟨hpl, hpn⟩ := prefK_nth hpre
  obtain ⟨hdl, hal, hargs⟩ := ArgsOk_at pm ds args.toList 0 ha
  have hasz : args.size = pm.length := by simpa using hal
  unfold denFJ at hd
  cases hb : fn.body with
  | none => rw [hb] at hd; cases hd
  | some b =>
    rw [hb] at hd hcode
    simp only at hd hcode
    refine calls_of_wp hf hb ?_
    have hav : ∀ s, s < pm.length → av ({ tmps := args ++ Array.replicate (fn.ntmps - args.size) undef, defers := [] } : Act) s = args.toList.getD s undef := fun s hs => by
      have h1 : s < args.size := by omega
      simp only [av, Array.getD_eq_getD_getElem?, List.getD_eq_getElem?_getD, Array.getElem?_toList]
      rw [Array.getElem?_append_left h1]
    have hinit : Inv c w.heap.size (fun b => ow b ≠ none) w F F (fun b => (ow b).map fun i => (i, 0)) { tmps := args ++ Array.replicate (fn.ntmps - args.size) undef, defers := [] } w (padTo fn.ntmps ds) := by
      refine ⟨by simp; omega, by rw [padTo_len, hlenK], rfl, fun s => ?_, fun b hb => ⟨(hF b hb).1, by simp [(hF b hb).2]⟩, fun b p hp => ?_, fun _ h => h, fun _ h => .inl h, Nat.le_refl _, rfl, rfl, rfl, fun _ _ _ => rfl, hgl⟩
      · unfold SlotOk
        rw [padTo_nth _ _ _ (by rw [hdl]; omega)]
        by_cases hs : s < pm.length
        · rw [hpn s hs, hav s hs]
          rcases hargs s hs with hbad | harg
          · exact .inl hbad
          refine .inr ?_
          have hlv : ∀ lv, lv ≠ 1 → ∀ b, FB F 0 lv b → FB F w.heap.size lv b := fun lv h1 b hb => by
            match lv, h1 with
            | 0, _ => exact hb
            | _ + 2, _ => exact hb
          rcases okPm_at hpm s hs with ⟨lv, hk, h1⟩ | ⟨z, lv, hk, h1⟩ | ⟨n, lv, hk, h1⟩
          · rw [hk] at harg ⊢
            exact .inr (RepV_mono (hlv lv h1) (fun _ _ => rfl) harg)
          · rw [hk] at harg ⊢
            exact .inr (OwnV_mono' (hlv lv h1) (fun _ _ => rfl) (fun g _ hg => ⟨⟨by simp only [Nat.zero_add] at hg; simp [hg], fun h => by cases h⟩, rfl⟩) harg)
          · rw [hk] at harg ⊢
            exact .inr (BoxV_mono' (hlv lv h1) (fun _ _ => rfl) (fun g _ hg => ⟨⟨by simp only [Nat.zero_add] at hg; simp [hg], fun h => by cases h⟩, rfl⟩) harg)
        · refine .inl ?_
          rw [nth_eq, List.getD_eq_getElem?_getD, List.getElem?_eq_none (by omega)]
          rfl
      · obtain ⟨i, hi, rfl⟩ := Option.map_eq_some_iff.1 hp
        exact ⟨hO b i hi, .inr (by rw [hi]; simp)⟩
    refine denJ_sound hT hS hm hJ b 1 0 hcode F _ _ w _ hinit (V := av { tmps := args ++ Array.replicate (fn.ntmps - args.size) undef, defers := [] }) (fun _ _ => rfl) _ _ hd _ (fun e a' w' hp => ?_)
    have fin : NextV c w.heap.size (fun b => ow b ≠ none) w F (av { tmps := args ++ Array.replicate (fn.ntmps - args.size) undef, defers := [] }) (fun δ => retK c δ some) (.ret rs us) a' w' → a'.defers = [] ∧ ∃ v, (results fn a'.tmps).run P w' = .ok v w' ∧ ∃ v', Ending.returned v = .returned v' ∧ ∃ F' R vs, v' = resV vs ∧ CallPost { pm := pm, rm := rm, f := denFJ c J fn } args rs us w F ow F' R vs w' := by
      rintro ⟨⟨F', O', δ', hI', hk⟩, hV'⟩
      obtain ⟨rs', h1, h2, h3⟩ := retK_is hk
      simp only [Option.some.injEq, Out.ret.injEq] at h3
      obtain ⟨rfl, rfl⟩ := h3
      obtain ⟨vs, g1, g2, g3, g4⟩ := res_run (P := P) hT hI' c.res rm rs' hokr h1
      refine ⟨hI'.df, resV vs, ?_, _, rfl, F', fun b => if w.heap.size ≤ b then (match O' b with
        | some (t, 0) => resIx c.res t 0
        | _ => none) else none, vs, rfl, ?_⟩
      · have hrun : (fn.results.mapM (getRes a'.tmps)).run P w' = .ok vs.toArray w' := by
          rw [Array.mapM_eq_mapM_toList, ← hres]
          simp [g1]
        have hrw : results fn a'.tmps = (do
            let vs ← fn.results.mapM (getRes a'.tmps)
            pure (if h : vs.size = 1 then vs[0] else .tuple vs)) := by
          unfold results
          congr 1
        rw [hrw]
        simp only [Sem.run_bind, hrun, Result.andThen_ok, Sem.run_pure]
        congr 1
        rcases vs with _ | ⟨y, _ | ⟨y', vs⟩⟩
        · simp [resV]
        · simp [resV]
        · simp [resV]
      · refine ⟨hI'.os, hI'.tape, hI'.output, hI'.bb, fun b hb ho => hI'.keep b hb (by simp [ho]), hI'.f0, fun b hb => ⟨hI'.fn b hb, (hI'.fl b hb).1, by simp only [(hI'.fl b hb).2]; split <;> rfl⟩, fun b j hj => ?_, g2, g3, fun j => ?_, ?_⟩
        · split at hj
          case isFalse => cases hj
          rename_i hB
          refine ⟨hB, ?_⟩
          split at hj
          · rename_i t he; exact (hI'.ol b _ he).1
          · cases hj
        · refine ResOk_mono (fun hk g hg => ?_) (g4 j)
          obtain ⟨z, lv, hk⟩ := hk
          obtain ⟨e1, t, e2, e3⟩ := hg
          rw [if_pos e1]
          simp only [e3]
          have := (resIx_own c.res rm hokr j t 0 z lv hk e2).1
          simpa using this
        · rw [hios]
          refine UsOk_of pm args.toList 0 hal (fun j hj hio => ?_)
          rw [Nat.zero_add]
          have hkj := hpn j hj
          have hbj : nth δ' j ≠ .bad := by
            refine h2 _ ?_
            rw [hios, getAll_map]
            exact List.mem_map_of_mem (by simpa using ioIdx_mem pm 0 j hj hio)
          have havj : av a' j = args.toList.getD j undef := (hV' j (by rw [hkj]; exact hio)).trans (hav j hj)
          have hlv : ∀ lv, lv ≠ 1 → ∀ b, FB F' w.heap.size lv b → FB F' 0 lv b := fun lv h1 b hb => by
            match lv, h1 with
            | 0, _ => exact hb
            | _ + 2, _ => exact hb
          refine ⟨hbj, .inr ?_⟩
          rcases okPm_at hpm j hj with ⟨lv, hk, h1⟩ | ⟨z, lv, hk, h1⟩ | ⟨n, lv, hk, h1⟩
          · rw [hk] at hio; cases hio
          · have h5 := hI'.own (hkj.trans hk) hbj
            rw [havj] at h5
            rw [hk]
            exact OwnV_mono' (hlv lv h1) (fun _ _ => rfl) (fun _ _ _ => ⟨trivial, rfl⟩) h5
          · have h5 := hI'.box (hkj.trans hk) hbj
            rw [havj] at h5
            rw [hk]
            exact BoxV_mono' (hlv lv h1) (fun _ _ => rfl) (fun _ _ _ => ⟨trivial, rfl⟩) h5
    cases e with
    | normal => exact fin hp
    | exit i =>
      obtain ⟨⟨_, _, _, _, h⟩, _⟩ := hp
      cases h
    | ret =>
      refine fin (NextV_mono hp fun δ F O _ h => ?_)
      obtain ⟨rs', h1, h2, h3⟩ := retK_is h
      exact retK_of h1 h2 h3
    | _ => exact hp.elim

theorem meets_ofJ (hT : okT P c.T = true) (hS : ∀ f S, look c.S f = some S → Meets c.G P f S) (hm : P.follows .mixedOrders = true) {J : List (Nat × List Nat)} (hJ : okJ c J = true) {f : FuncId} {fn : Func} (hf : P.funcs[f]? = some fn) (hname : (fn.name == "runtime.NumGoroutine") = false) {pm rm : List Kd} (hok : okFn c fn pm rm = true) (hres : c.res = fn.results.toList) :
    Meets c.G P f { pm := pm, rm := rm, f := denFJ c J fn } := by
  intro ds rs us hd args w F ow hgl ha hF hO o a next Q hn
  have hbody : ∃ b, fn.body = some b := by
    have hd' : denFJ c J fn ds = some (.ret rs us) := hd
    unfold denFJ at hd'
    cases hb : fn.body with
    | none => rw [hb] at hd'; cases hd'
    | some b => exact ⟨b, rfl⟩
  obtain ⟨b, hb⟩ := hbody
  have hrun : (callFunc f args).run P w = .ok (.enter f args) w := by
    have h1 : ¬ fn.name = "runtime.NumGoroutine" := by simpa using hname
    simp [callFunc, hf, h1, hb]
  rw [hrun, Oper.upon_enter]
  refine Calls.mono (fn_callsJ hT hS hm hJ hf hok hres hd hgl ha hF hO) (fun e w' he => ?_)
  obtain ⟨v, rfl, F', R, vs, h1, h2⟩ := he
  exact hn v w' ⟨F', R, vs, h1, h2⟩


end

/-- A join: what is so of all that comes to it is so of the whole. -/
theorem joinC_of {f : (List D → Option Out) → Option Out} {k : List D → Option Out} {r : Option Out} (p : List D → Prop) (hk : ∀ s, p s → k s = r) (hf : ∀ j : List D → Option Out, (∀ s, p s → j s = r) → f j = r) : joinC f k = r := hf k hk
end Go.V
/-
  No facts of the world are asked at a seat whose rows list no variable.
-/
namespace Go.Proofs.YtaphcpfkgpaefaaGreat
open Go Go.V
abbrev gl0 : List (Nat × (Obj → Prop)) := []
end Go.Proofs.YtaphcpfkgpaefaaGreat
/-
  Contexts and contracts of functions, printed by gen.py.
-/
namespace Go.Proofs.YtaphcpfkgpaefaaGreat
open Go.V
set_option maxRecDepth 100000
theorem follows_mixed : Tryz.prog.follows .mixedOrders = true := by kernel_rfl
@[reducible] def ty3 : TI := { n := 1, zero := [.v (.int .i64 0)], ik := some .i64 }
/-- loop.example/g01054/impl.within -/
@[reducible] noncomputable def c_impl_within : Cx := { K := [.dat 0, .dat 0, .dat 0, .no, .no, .no, .dat 0, .dat 0, .dat 0, .dat 0, .dat 0, .dat 0, .dat 0, .dat 0, .dat 0], T := [(3, ty3)], S := [], H := [], res := [.tmp 6], ios := [], G := gl0 }
noncomputable def F_impl_within : List D → Option Out := denF c_impl_within Tryz.f60
@[reducible] noncomputable def S_impl_within : FS := { pm := [.dat 0, .dat 0, .dat 0], rm := [.dat 0], f := F_impl_within }
theorem M_impl_within : Meets gl0 Tryz.prog 60 S_impl_within := meets_of (P := Tryz.prog) (c := c_impl_within) (fn := Tryz.f60) (pm := S_impl_within.pm) (rm := S_impl_within.rm) (by kernel_rfl) lookNil follows_mixed Tryz.func60 (by kernel_rfl) (by kernel_rfl) rfl
end Go.Proofs.YtaphcpfkgpaefaaGreat
/-
  What the functions compute: their evaluated texts, printed.
-/
namespace Go.Proofs.YtaphcpfkgpaefaaGreat
open Go Go.V
theorem t_impl_within (x0 x1 x2 : D) : F_impl_within [x0, x1, x2] =
  ((bin BinOp.geq false [] x0 x1).bind fun z => (gate (D.tup []) z true (some x0)).bind fun z_1 => (gate (D.tup []) z true (some x2)).bind fun z_2 => (gate (D.tup []) z true (bin BinOp.leq false [] z_1 z_2)).bind fun z_3 =>
 (pickD z z_3 (D.v (Value.bool false))).bind fun z => some (Out.ret [z] [])) := by kernel_rfl
end Go.Proofs.YtaphcpfkgpaefaaGreat
/-
  From contracts of the kit (what a call with given values comes to) to contracts said of data.
-/
namespace Go.V
open Go.RowKit

section
variable {P : Program} {G : List (Nat × (Obj → Prop))}

theorem meets_of_calls {f : FuncId} {S : FS} (he : ∀ args w, (callFunc f args).run P w = .ok (.enter f args) w)
    (h : ∀ ds rs us, S.f ds = some (.ret rs us) → ∀ (args : Array Value) (w : World) (F : Nat → Prop) (ow : Nat → Option Nat), gOk G w F → ArgsOk w F ow 0 S.pm ds args.toList → (∀ b, F b → b < w.heap.size ∧ ow b = none) → (∀ b i, ow b = some i → b < w.heap.size) →
      Calls P f args w fun e w' => ∃ v, e = .returned v ∧ ∃ F' R vs, v = resV vs ∧ CallPost S args rs us w F ow F' R vs w') : Meets G P f S := by
  intro ds rs us hd args w F ow hg ha hF hO o a next Q hn
  rw [he, Oper.upon_enter]
  refine Calls.mono (h ds rs us hd args w F ow hg ha hF hO) (fun e w' hv => ?_)
  obtain ⟨v, rfl, F', R, vs, h1, h2⟩ := hv
  exact hn v w' ⟨F', R, vs, h1, h2⟩

theorem usOk_none {w : World} {F : Nat → Prop} : ∀ (ks : List Kd) (ys : List Value), (ks.all fun k => !isIo k) = true → ks.length = ys.length → UsOk w F ks [] ys
  | [], [], _, _ => trivial
  | k :: ks, y :: ys, h, hl => by
    simp only [List.all_cons, Bool.and_eq_true, Bool.not_eq_true'] at h
    simp only [UsOk, h.1]
    exact usOk_none ks ys h.2 (by simpa using hl)
  | [], _ :: _, _, hl => by cases hl
  | _ :: _, [], _, hl => by cases hl

theorem argsOk_len {w : World} {F : Nat → Prop} {ow : Nat → Option Nat} : ∀ (ks : List Kd) (ds : List D) (ys : List Value) (i : Nat), ArgsOk w F ow i ks ds ys → ds.length = ks.length ∧ ys.length = ks.length
  | [], [], [], _, _ => ⟨rfl, rfl⟩
  | k :: ks, d :: ds, y :: ys, i, h => by
    obtain ⟨h1, h2⟩ := argsOk_len ks ds ys (i + 1) h.2
    exact ⟨by simp [h1], by simp [h2]⟩
  | [], _ :: _, _, _, h => h.elim
  | [], [], _ :: _, _, h => h.elim
  | _ :: _, [], _, _, h => by cases ‹List Value› <;> exact h.elim
  | _ :: _, _ :: _, [], _, h => h.elim

theorem args_one {w : World} {F : Nat → Prop} {ow : Nat → Option Nat} {k : Kd} {ds : List D} {l : List Value} (h : ArgsOk w F ow 0 [k] ds l) : ∃ d y, ds = [d] ∧ l = [y] ∧ ArgOk w F (fun g => ow g = some 0) k d y := by
  match ds, l, h with
  | [d], [y], h => exact ⟨d, y, rfl, rfl, h.1⟩
  | [], l, h => cases l <;> exact h.elim
  | d :: d' :: ds, l, h =>
    match l, h with
    | [], h => exact h.elim
    | [y], h => exact h.2.elim
    | y :: y' :: ys, h => exact h.2.elim
  | [d], [], h => exact h.elim
  | [d], y :: y' :: ys, h => exact h.2.elim

theorem args_two {w : World} {F : Nat → Prop} {ow : Nat → Option Nat} {k k' : Kd} {ds : List D} {l : List Value} (h : ArgsOk w F ow 0 [k, k'] ds l) :
    ∃ d y d' y', ds = [d, d'] ∧ l = [y, y'] ∧ ArgOk w F (fun g => ow g = some 0) k d y ∧ ArgOk w F (fun g => ow g = some 1) k' d' y' := by
  obtain ⟨h1, h2⟩ := argsOk_len _ _ _ _ h
  match ds, l, h1, h2, h with
  | [d, d'], [y, y'], _, _, h => exact ⟨d, y, d', y', rfl, rfl, h.1, h.2.1⟩

theorem argD {w : World} {F own : Nat → Prop} {lv : Nat} {x y : Value} (h : ArgOk w F own (.dat lv) (.v x) y) : y = x ∧ flat x = true := by
  rcases h with h | h
  · cases h
  · exact RepV_v.1 h

/-- What a call leaves that writes nothing that was there. -/
theorem post_own {S : FS} {args : Array Value} {rs : List D} {vs : List Value} {w w' : World} {F : Nat → Prop} {ow : Nat → Option Nat} (R : Nat → Option Nat) (hB : Below w.heap.size w w') (hF : ∀ b, F b → b < w.heap.size ∧ ow b = none)
    (hR : ∀ b j, R b = some j → w.heap.size ≤ b ∧ b < w'.heap.size) (hio : (S.pm.all fun k => !isIo k) = true) (hl : S.pm.length = args.size) (h1 : vs.length = S.rm.length) (h2 : rs.length = S.rm.length)
    (hres : ∀ j, ResOk w' F w.heap.size (fun g => R g = some j) (nthK S.rm j) (nth rs j) (vs.getD j undef)) : CallPost S args rs [] w F ow F R vs w' :=
  ⟨hB.os, hB.tape, hB.output, hB.size, fun b hb _ => hB.block b hb, fun _ h => h, fun b hb => ⟨.inl hb, Nat.lt_of_lt_of_le (hF b hb).1 hB.size, by
    cases h : R b with
    | none => rfl
    | some j => exact absurd (hR b j h).1 (Nat.not_le.2 (hF b hb).1)⟩, hR, h1, h2, hres, usOk_none _ _ hio (by simpa using hl)⟩

/-- Scalars handed back. -/
theorem post_flat {S : FS} {args : Array Value} {w w' : World} {F : Nat → Prop} {ow : Nat → Option Nat} (hB : Below w.heap.size w w') (hF : ∀ b, F b → b < w.heap.size ∧ ow b = none) (hio : (S.pm.all fun k => !isIo k) = true) (hl : S.pm.length = args.size)
    (rs : List D) (vs : List Value) (hrm : S.rm = rs.map fun _ => .dat 0) (hv : vs.length = rs.length) (h : ∀ (j : Nat) (d : D), rs[j]? = some d → ∃ y : Value, vs[j]? = some y ∧ RepV w' (fun _ => False) d y) : CallPost S args rs [] w F ow F (fun _ => none) vs w' := by
  refine post_own _ hB hF (fun b j h => by cases h) hio hl (by rw [hrm, hv]; simp) (by rw [hrm]; simp) (fun j => ?_)
  rw [nth_eq, List.getD_eq_getElem?_getD]
  cases hj : rs[j]? with
  | none => exact .inl rfl
  | some d =>
    obtain ⟨y, h1, h2⟩ := h j d hj
    have hk : nthK S.rm j = .dat 0 := by
      rw [hrm]
      clear hrm h hv h1 h2
      induction rs generalizing j with
      | nil => simp at hj
      | cons r rs ih =>
        cases j with
        | zero => rfl
        | succ j => exact ih j (by simpa using hj)
    refine .inr ?_
    rw [hk, List.getD_eq_getElem?_getD, h1]
    exact RepV_mono (fun b hb => hb.elim) (fun _ _ => rfl) h2

theorem RepL_texts {w : World} {F : Nat → Prop} : ∀ (l : List ByteArray), RepL w F (l.map T) (l.map Value.string)
  | [] => RepL_nil.2 rfl
  | s :: l => RepL_cons.2 ⟨[.string s], l.map Value.string, rfl, by simp only [RepC]; exact ⟨trivial, rfl⟩, RepL_texts l⟩

/-- A new slice of texts handed back. -/
theorem ownV_texts {w' : World} {F own : Nat → Prop} {A c e : Nat} {cur : Array Value} {l : List ByteArray} (hb : w'.heap[A]? = some (.cells cur e (0, 0))) (hc : l.length ≤ c) (hs : c ≤ cur.size) (hl : ∀ (i : Nat) (u : Value), (l.map Value.string)[i]? = some u → cur[i]? = some u) (ho : own A) :
    OwnV w' F own 1 (.arr 1 (l.map T)) (.slice (some ⟨A, 0, none⟩) l.length c) := by
  refine ⟨l.map T, rfl, fun x hx => ?_, .inr ⟨A, 0, c, l.map Value.string, cur, e, by simp, by simpa using hc, hb, by omega, RepL_texts l, fun i u hu => by simpa using hl i u hu, ho⟩⟩
  obtain ⟨s, _, rfl⟩ := List.mem_map.1 hx
  rfl

end
end Go.V
