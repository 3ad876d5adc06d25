/-
  Code keeps the invariant.
-/
import Derived.Test.YtfjkapnonljdeaaDoorVu
namespace Go.V
open Go.RowKit

def apartL (x y : List Nat) : Bool := x.all fun s => !memN s y
/-- Two operations that may change places. -/
def indep0 (c : Cx) (ops : List Oper) (x y : Oper) : Bool := apartL (rdS c ops x) (wrS c y) && apartL (wrS c x) (rdS c ops y) && apartL (wrS c x) (wrS c y)
/-- A copy of an owner beside a store into what is owned. -/
def lvPair (c : Cx) (x y : Oper) : Bool :=
  match x.guard, y.guard, x.op, x.dst, y.op, y.dst with
  | none, none, .move (.tmp t), some d, .store _ (.tmp q) (.tmp s), none =>
    (match nthK c.K t, nthK c.K d, nthK c.K q, nthK c.K s with
      | .own _ _ _, .via r, .ref r', .dat _ => Nat.beq r t && Nat.beq r' t && !Nat.beq q t && apartL (d :: deps d c.K 0) [q, t, s]
      | _, _, _, _ => false)
  | _, _, _, _, _, _ => false
def indep (c : Cx) (ops : List Oper) (x y : Oper) : Bool := indep0 c ops x y || lvPair c x y || lvPair c y x
/-- Is operation j behind o by a chain of edges? -/
def bef (ops : List Oper) (j : Nat) : Nat → Oper → Bool
  | 0, _ => false
  | n + 1, o => o.after.toList.any fun e => Region.binds .any e && (Nat.beq e.on j || match nthO ops e.on with
    | some q => bef ops j n q
    | none => false)
/-- May the operations of a region be taken in any order that their edges allow? -/
def okAny (c : Cx) (ops : List Oper) : Bool :=
  ops.zipIdx.all fun p => (p.1.after.toList.all fun e => !Region.binds .any e || decide (e.on < p.2)) && (ops.take p.2).zipIdx.all fun q => indep c ops q.1 p.1 || bef ops q.2 3 p.1

/-- Slots that are kept round a loop: a copy or a place only with its owner. -/
def okLive (K : List Kd) (hl : List Nat) : Bool :=
  hl.all fun s => match nthK K s with
    | .via r => memN r hl
    | .ref r => memN r hl
    | _ => true

def okCode (c : Cx) : Nat → Code → Bool
  | _, .skip => true
  | _, .region _ ops d => ops.toList.all (okOp c ops.toList) && (!d || okAny c ops.toList)
  | b, .seq x y => okCode c b x && okCode c b y
  | b, .cond x t e => Nat.ble (lvOf c.K x) 2 && okCode c b t && okCode c b e
  | _, .block id x => okCode c id x
  | b, .loop x => okCode c b x && (match look c.H b with
    | some (hl, xl) => okLive c.K hl && okLive c.K xl
    | none => false)
  | _, .exit _ => true
  | _, .ret => true
  | _, _ => false

section
variable {P : Program} {c : Cx} {B : Nat} {X : Nat → Prop} {w0 : World} {F0 F : Nat → Prop} {O : Nat → Option (Nat × Nat)} {a : Act} {w : World} {δ : List D}

/-- What is known where a piece of code ends. -/
def retK (c : Cx) (δ : List D) (k : Out → Option Out) : Option Out := resC c δ c.res fun rs => getC δ c.ios fun us => usK us (k (.ret rs us))
def Post (c : Cx) (B : Nat) (X : Nat → Prop) (w0 : World) (F0 : Nat → Prop) (V : Nat → Value) (k : Out → Option Out) (r : Out) : Exit → Act → World → Prop
  | .normal, a, w => NextV c B X w0 F0 V (fun δ => k (.nrm δ)) r a w
  | .exit id, a, w => NextV c B X w0 F0 V (fun δ => k (.ext id δ)) r a w
  | .ret, a, w => NextV c B X w0 F0 V (fun δ => retK c δ k) r a w
  | _, _, _ => False

theorem apartL_ok {x y : List Nat} (h : apartL x y = true) : ∀ s ∈ x, s ∉ y := by
  intro s hs
  unfold apartL at h
  rw [List.all_eq_true] at h
  simpa [memN_eq] using h s hs

theorem nth_ext {δ δ' : List D} (h : δ.length = δ'.length) (hn : ∀ s, nth δ s = nth δ' s) : δ = δ' := by
  refine List.ext_getElem h fun i h1 h2 => ?_
  have := hn i
  rw [nth_eq, nth_eq, List.getD_eq_getElem?_getD, List.getD_eq_getElem?_getD, List.getElem?_eq_getElem h1, List.getElem?_eq_getElem h2] at this
  exact this

theorem setMany_same : ∀ (ss : List Nat) (l δ δ' : List D), δ.length = δ'.length → ∀ s ∈ ss, nth (setMany δ ss l) s = nth (setMany δ' ss l) s
  | t :: ss, l, δ, δ', hl, s, hs => by
    cases l with
    | nil => rw [nth_kill _ _ _ hs, nth_kill _ _ _ hs]
    | cons d l =>
      simp only [setMany]
      by_cases hm : s ∈ ss
      · exact setMany_same ss l _ _ (by rw [len_setAt, len_setAt, hl]) s hm
      · have : s = t := by simpa [hm] using hs
        subst this
        rw [nth_setMany_notin _ _ _ _ hm, nth_setMany_notin _ _ _ _ hm, nth_setAt_eq, nth_setAt_eq, hl]

theorem setMany_swap {A C : List Nat} {l m δ : List D} (h : ∀ s ∈ A, s ∉ C) : setMany (setMany δ A l) C m = setMany (setMany δ C m) A l := by
  refine nth_ext (by simp only [len_setMany]) fun s => ?_
  by_cases hA : s ∈ A
  · rw [nth_setMany_notin _ _ _ _ (h s hA)]
    exact setMany_same A l _ _ (by rw [len_setMany]) s hA
  · by_cases hC : s ∈ C
    · rw [nth_setMany_notin A _ _ _ hA]
      exact (setMany_same C m _ _ (by rw [len_setMany]) s hC)
    · rw [nth_setMany_notin _ _ _ _ hC, nth_setMany_notin _ _ _ _ hA, nth_setMany_notin _ _ _ _ hA, nth_setMany_notin _ _ _ _ hC]

theorem stD_live {n : Nat} {o p x z : D} (h : stD n o p x = some z) : o ≠ .bad ∧ z ≠ .bad := by
  unfold stD at h
  split at h
  · split at h
    · split at h
      · cases h; exact ⟨by simp, by simp⟩
      · cases h
    · cases h
  · split at h
    · cases h; exact ⟨by simp, by simp⟩
    · cases h
  · cases h
theorem stK_live (chk : Bool) (n : Nat) (b p y : D) : ∃ E : Option D, (∀ k : D → Option Out, stK chk n b p y k = E.bind k) ∧ ∀ z, E = some z → b ≠ .bad ∧ z ≠ .bad := by
  cases chk
  · exact ⟨stD n b p y, fun _ => rfl, fun z hz => stD_live hz⟩
  · refine ⟨(chkV y).bind fun y => stD n b p y, fun k => by simp only [stK, Option.bind_assoc], fun z hz => ?_⟩
    obtain ⟨y', _, h⟩ := Option.bind_eq_some_iff.1 hz
    exact stD_live h
theorem lv_swap {ops : List Oper} {x y : Oper} (h : lvPair c x y = true) (δ : List D) (k : List D → Option Out) : stepK c ops x δ (fun δ => stepK c ops y δ k) = stepK c ops y δ (fun δ => stepK c ops x δ k) := by
  unfold lvPair at h
  split at h
  case h_2 => cases h
  rename_i t d ty q s hxg hyg hxo hxd hyo hyd
  split at h
  case h_2 => cases h
  rename_i z lv io r0 r lv' hkt hkd hkq hks
  simp only [Bool.and_eq_true, Bool.not_eq_true'] at h
  obtain ⟨⟨⟨h1, h2⟩, h3⟩, h4⟩ := h
  have e1 := beq_iff.1 h1
  have e2 := beq_iff.1 h2
  subst e1
  subst e2
  have hx : ∀ (δ : List D) (k : List D → Option Out), stepK c ops x δ k = (liveD (nth δ r) (.ref 0 0)).bind fun z => k (setMany δ (d :: deps d c.K 0) [z]) := by
    intro δ k
    have hA : actOf c x = some (.one [r] d fun is => (arg1 fun x => liveD x (.ref 0 0)) is) := by
      simp only [actOf, hxo, hxd, mvOf, hkt, hkd, Nat.beq_refl]
    simp only [stepK, hA, hxg]
    rw [getC_eq]
    show (liveD (nth δ r) (.ref 0 0)).bind (fun z => setManyC δ (d :: deps d c.K 0) [z] k) = _
    exact congrArg _ (funext fun z => setManyC_eq _ _ _ _)
  have hy : ∃ E : D → D → D → Option D, (∀ (δ : List D) (k : List D → Option Out), stepK c ops y δ k = (E (nth δ r) (nth δ q) (nth δ s)).bind fun b => k (setMany δ [r] [b])) ∧ ∀ a b e z, E a b e = some z → a ≠ .bad ∧ z ≠ .bad := by
    cases hT : look c.T ty with
    | none =>
      refine ⟨fun _ _ _ => none, fun δ k => ?_, fun _ _ _ _ h => by cases h⟩
      have hA : actOf c y = none := by simp only [actOf, hyo, hyd, withT, hT]
      simp only [stepK, hA]
      rfl
    | some i =>
      have act : ∀ chk : Bool, actOf c y = some (.many [q, r, s] [] [r] fun is k => goP q r is fun b p is => nthC is 0 fun y => stK chk i.n b p y fun b => k [b]) →
          ∃ E : D → D → D → Option D, (∀ (δ : List D) (k : List D → Option Out), stepK c ops y δ k = (E (nth δ r) (nth δ q) (nth δ s)).bind fun b => k (setMany δ [r] [b])) ∧ ∀ a b e z, E a b e = some z → a ≠ .bad ∧ z ≠ .bad := by
        intro chk hA
        refine ⟨fun a b e => Classical.choose (stK_live chk i.n a b e), fun δ k => ?_, fun a b e z h => (Classical.choose_spec (stK_live chk i.n a b e)).2 z h⟩
        simp only [stepK, hA, hyg]
        rw [getC_eq]
        simp only [goP, h3, getAll]
        show stK chk i.n (nth δ r) (nth δ q) (nth δ s) (fun b => setManyC δ [r] [b] k) = _
        rw [(Classical.choose_spec (stK_live chk i.n (nth δ r) (nth δ q) (nth δ s))).1]
        exact congrArg _ (funext fun b => setManyC_eq _ _ _ _)
      have hst : actOf c y = stTo c i q r (rootLv c.K r) (.tmp s) := by
        simp only [actOf, hyo, hyd, withT, hT, stOf, hkq]
      unfold stTo at hst
      simp only [hks] at hst
      split at hst
      · exact act false (by rw [hst]; simp only [rdP, h3])
      · exact act true (by rw [hst]; simp only [rdP, h3])
      · refine ⟨fun _ _ _ => none, fun δ k => ?_, fun _ _ _ _ h => by cases h⟩
        simp only [stepK, hst]
        rfl
  obtain ⟨E, hE, hEl⟩ := hy
  have ap := fun s hs => apartL_ok h4 s hs
  have hnq : ∀ m : List D, ∀ v ∈ [q, r, s], nth (setMany δ (d :: deps d c.K 0) m) v = nth δ v := fun m v hv => nth_setMany_notin _ _ _ _ fun hm => ap v hm hv
  simp only [hx, hE, hnq _ q (by simp), hnq _ r (by simp), hnq _ s (by simp)]
  cases hb : E (nth δ r) (nth δ q) (nth δ s) with
  | none => cases liveD (nth δ r) (.ref 0 0) <;> rfl
  | some b =>
    obtain ⟨g1, g2⟩ := hEl _ _ _ _ hb
    have hlive : ∀ a : D, a ≠ .bad → liveD a (.ref 0 0) = some (.ref 0 0) := fun a ha => by cases a <;> first | exact absurd rfl ha | rfl
    have hr : nth (setMany δ [r] [b]) r = b := by
      simp only [setMany]
      rw [nth_setAt_eq, if_pos]
      by_cases hl : r < δ.length
      · exact hl
      · exfalso
        rw [nth_eq, List.getD_eq_getElem?_getD, List.getElem?_eq_none (by omega)] at g1
        exact g1 rfl
    simp only [hlive _ g1, hr, hlive _ g2, Option.bind_some]
    rw [setMany_swap (A := d :: deps d c.K 0) (C := [r])]
    intro v hv hv'
    exact ap v hv (by simp at hv'; simp [hv'])

theorem step_swap0 {ops : List Oper} {x y : Oper} (h : indep0 c ops x y = true) (δ : List D) (k : List D → Option Out) : stepK c ops x δ (fun δ => stepK c ops y δ k) = stepK c ops y δ (fun δ => stepK c ops x δ k) := by
  unfold indep0 at h
  simp only [Bool.and_eq_true] at h
  obtain ⟨⟨h1, h2⟩, h3⟩ := h
  obtain ⟨φ, hφ, hφr⟩ := step_form c ops x
  obtain ⟨ψ, hψ, hψr⟩ := step_form c ops y
  have e1 : ∀ l, ψ (setMany δ (wrS c x) l) = ψ δ := fun l => hψr _ _ (getAll_congr fun s hs => nth_setMany_notin _ _ _ _ fun hm => apartL_ok h2 s hm hs)
  have e2 : ∀ l, φ (setMany δ (wrS c y) l) = φ δ := fun l => hφr _ _ (getAll_congr fun s hs => nth_setMany_notin _ _ _ _ (apartL_ok h1 s hs))
  simp only [hφ, hψ, e1, e2]
  cases φ δ with
  | none => cases ψ δ <;> rfl
  | some l =>
    cases ψ δ with
    | none => rfl
    | some m =>
      simp only [Option.bind_some]
      rw [setMany_swap (apartL_ok h3)]

theorem step_swap {ops : List Oper} {x y : Oper} (h : indep c ops x y = true) (δ : List D) (k : List D → Option Out) : stepK c ops x δ (fun δ => stepK c ops y δ k) = stepK c ops y δ (fun δ => stepK c ops x δ k) := by
  unfold indep at h
  simp only [Bool.or_eq_true] at h
  rcases h with (h | h) | h
  · exact step_swap0 h δ k
  · exact lv_swap h δ k
  · exact (lv_swap h δ k).symm

theorem runOps_front {ops : List Oper} {o : Oper} {k : List D → Option Out} : ∀ (pre post : List Oper) (δ : List D), (∀ q ∈ pre, indep c ops q o = true) → runOps c ops (pre ++ o :: post) δ k = stepK c ops o δ fun δ => runOps c ops (pre ++ post) δ k
  | [], post, δ, _ => rfl
  | q :: pre, post, δ, h => by
    simp only [List.cons_append, runOps]
    rw [show (fun δ' => runOps c ops (pre ++ o :: post) δ' k) = (fun δ' => stepK c ops o δ' fun δ => runOps c ops (pre ++ post) δ k) from funext fun δ' => runOps_front pre post δ' fun q' hq' => h q' (by simp [hq'])]
    exact step_swap (h q (by simp)) δ _

/-- The operations that are not yet listed, in the order of the text. -/
def left (ops : List Oper) (listed : Array Bool) : List Oper := (ops.zipIdx.filter fun p => !listed.getD p.2 true).map (·.1)

theorem Inv.drawn (h : Inv c B X w0 F0 F O a w δ) (n : Nat) : Inv c B X w0 F0 F O a { w with drawn := n } δ :=
  h.step (w' := { w with drawn := n }) (fun _ => False) rfl rfl rfl (fun _ _ => ⟨rfl, .inl rfl⟩) (fun _ hb => hb) (fun _ _ => rfl) (fun _ _ hp _ => ⟨hp, rfl⟩) (fun _ _ _ hv hb => ⟨rfl, (h.root hv hb).2⟩) (fun _ hf => hf.elim) h.fl h.ol (fun _ hb => .inl hb) (Nat.le_refl _) rfl rfl rfl (fun _ _ _ => rfl)

theorem split_at {l : List Oper} {i : Nat} {o : Oper} (h : l[i]? = some o) : l.zipIdx = (l.take i).zipIdx ++ (o, i) :: (l.drop (i + 1)).zipIdx (i + 1) := by
  have hi : i < l.length := (List.getElem?_eq_some_iff.1 h).1
  have e : l = l.take i ++ (o :: l.drop (i + 1)) := by
    have h1 : l[i] = o := (List.getElem?_eq_some_iff.1 h).2
    conv => lhs; rw [← List.take_append_drop i l, List.drop_eq_getElem_cons hi, h1]
  conv => lhs; rw [e]
  rw [List.zipIdx_append, List.zipIdx_cons]
  have : (l.take i).length = i := by rw [List.length_take]; omega
  simp [this]

theorem left_split {l : List Oper} {listed : Array Bool} {i : Nat} {o : Oper} (h : l[i]? = some o) (hn : listed.getD i true = false) (hsz : i < listed.size) :
    left l listed = (((l.take i).zipIdx.filter fun p => !listed.getD p.2 true).map (·.1)) ++ o :: ((((l.drop (i + 1)).zipIdx (i + 1)).filter fun p => !listed.getD p.2 true).map (·.1)) ∧
    left l (listed.setIfInBounds i true) = (((l.take i).zipIdx.filter fun p => !listed.getD p.2 true).map (·.1)) ++ ((((l.drop (i + 1)).zipIdx (i + 1)).filter fun p => !listed.getD p.2 true).map (·.1)) := by
  have hne : ∀ j, j ≠ i → (listed.setIfInBounds i true).getD j true = listed.getD j true := fun j hj => by
    simp only [Array.getD_eq_getD_getElem?, Array.getElem?_setIfInBounds, Ne.symm hj, if_false]
  have hi : (listed.setIfInBounds i true).getD i true = true := by
    simp [Array.getD_eq_getD_getElem?, hsz]
  unfold left
  rw [split_at h]
  simp only [List.filter_append, List.map_append, List.filter_cons, hn, hi, Bool.not_false, Bool.not_true, if_true, Bool.false_eq_true, if_false, List.map_cons]
  refine ⟨trivial, ?_⟩
  congr 2
  · refine List.filter_congr fun p hp => ?_
    have := List.snd_lt_of_mem_zipIdx hp
    rw [List.length_take] at this
    rw [hne p.2 (by omega)]
  · refine List.filter_congr fun p hp => ?_
    have := List.le_snd_of_mem_zipIdx hp
    rw [hne p.2 (by omega)]

/-- What is listed is listed with all that comes before it. -/
def Cl (ops : Array Oper) (listed : Array Bool) : Prop := ∀ (m : Nat) (q : Oper), ops[m]? = some q → listed.getD m false = true → ∀ e ∈ q.after, Region.binds .any e = true → listed.getD e.on false = true
theorem bef_listed {ops : Array Oper} {listed : Array Bool} (hc : Cl ops listed) {j : Nat} : ∀ (n : Nat) (o : Oper), (∀ e ∈ o.after, Region.binds .any e = true → listed.getD e.on false = true) → bef ops.toList j n o = true → listed.getD j false = true
  | 0, _, _, h => by simp [bef] at h
  | n + 1, o, ho, h => by
    simp only [bef, List.any_eq_true, Bool.and_eq_true, Bool.or_eq_true] at h
    obtain ⟨e, he, hb, h⟩ := h
    have hl := ho e (by simpa using he) hb
    rcases h with h | h
    · rw [← beq_iff.1 h]
      exact hl
    · split at h
      · rename_i q hq
        rw [nthO_eq, Array.getElem?_toList] at hq
        exact bef_listed hc n q (hc e.on q hq hl) h
      · cases h
theorem listed_set {listed : Array Bool} {i x : Nat} (h : listed.getD x false = true) : (listed.setIfInBounds i true).getD x false = true := by
  rw [Array.getD_eq_getD_getElem?] at h ⊢
  rw [Array.getElem?_setIfInBounds]
  split
  · split <;> rename_i h1 h2
    · rfl
    · subst h1
      rw [Array.getElem?_eq_none (by omega)] at h
      cases h
  · exact h
theorem Cl_set {ops : Array Oper} {listed : Array Bool} (hc : Cl ops listed) {i : Nat} {o : Oper} (ho : ops[i]? = some o) (hed : ∀ e ∈ o.after, Region.binds .any e = true → listed.getD e.on false = true) : Cl ops (listed.setIfInBounds i true) := by
  intro m q hq hm e he hb
  by_cases hmi : m = i
  · subst hmi
    rw [ho] at hq
    cases hq
    exact listed_set (hed e he hb)
  · refine listed_set (hc m q hq ?_ e he hb)
    rw [Array.getD_eq_getD_getElem?, Array.getElem?_setIfInBounds, if_neg (fun e => hmi e.symm)] at hm
    rw [Array.getD_eq_getD_getElem?]
    exact hm
theorem any_sound (hT : okT P c.T = true) (hS : ∀ f S, look c.S f = some S → Meets c.G P f S) {ops : Array Oper} (hany : okAny c ops.toList = true) (hm : P.follows .mixedOrders = true) {V : Nat → Value} {Q : Exit → Act → World → Prop} {k : List D → Option Out} {r : Out} (hQ : ∀ a w, NextV c B X w0 F0 V k r a w → Q .normal a w)
    (hok : ∀ o ∈ ops.toList, okOp c ops.toList o = true) (hI : Inv c B X w0 F0 F O a w δ) (hV : IoV c V a) (hg : runOps c ops.toList ops.toList δ k = some r) (id : Nat) : (Code.region id ops true).wp P Q a w := by
  refine wp_region_any hm ?_
  have hedge : ∀ (i : Nat) (o : Oper), ops[i]? = some o → (∀ e ∈ o.after, Region.binds .any e = true → e.on < i) ∧ ∀ (j : Nat) (q : Oper), j < i → ops[j]? = some q → bef ops.toList j 3 o = true ∨ indep c ops.toList q o = true := by
    intro i o ho
    have h0 := hany
    unfold okAny at h0
    rw [List.all_eq_true] at h0
    have hl : ops.toList[i]? = some o := by simpa using ho
    have h1 := h0 (o, i) (by rw [split_at hl]; simp)
    simp only [Bool.and_eq_true, Bool.or_eq_true, Bool.not_eq_true', decide_eq_true_eq, List.all_eq_true] at h1
    refine ⟨fun e he hb => (h1.1 e (by simpa using he)).resolve_left (by rw [hb]; simp), fun j q hj hq => ?_⟩
    have hq' : (ops.toList.take i)[j]? = some q := by
      rw [List.getElem?_take_of_lt hj]; simpa using hq
    exact (h1.2 (q, j) (by rw [split_at hq']; simp)).symm
  have main : ∀ (fuel : Nat) (listed : Array Bool) (F : Nat → Prop) (O : Nat → Option (Nat × Nat)) (a : Act) (w : World) (δ : List D), listed.size = ops.size → Cl ops listed → (left ops.toList listed).length ≤ fuel → Inv c B X w0 F0 F O a w δ → IoV c V a →
      runOps c ops.toList (left ops.toList listed) δ k = some r → wpAny P .any ops Q fuel listed a w := by
    intro fuel
    have ready_mem : ∀ (listed : Array Bool) (i : Nat), i ∈ Region.ready .any ops listed → ∃ o, ops[i]? = some o ∧ listed.getD i true = false ∧ ∀ e ∈ o.after, Region.binds .any e = true → listed.getD e.on false = true := by
      intro listed i hi
      unfold Region.ready at hi
      rw [List.mem_filter] at hi
      obtain ⟨hr, hi⟩ := hi
      simp only [Bool.and_eq_true, Bool.not_eq_true'] at hi
      cases ho : ops[i]? with
      | none => rw [ho] at hi; simp at hi
      | some o =>
        rw [ho] at hi
        simp only [Option.map_some, Option.getD_some, Array.all_eq_true_iff_forall_mem, Bool.or_eq_true, Bool.not_eq_true'] at hi
        exact ⟨o, rfl, hi.1, fun e he hb => (hi.2 e he).resolve_left (by rw [hb]; simp)⟩
    have empty : ∀ (listed : Array Bool), listed.size = ops.size → Region.ready .any ops listed = [] → left ops.toList listed = [] := by
      intro listed hsz hr
      have all : ∀ i, i < ops.size → listed.getD i true = true := by
        intro i
        induction i using Nat.strongRecOn with
        | _ i ih =>
          intro hi
          cases hl : listed.getD i true with
          | true => rfl
          | false =>
            exfalso
            have ho : ops[i]? = some ops[i] := Array.getElem?_eq_getElem hi
            have hmem : i ∈ Region.ready .any ops listed := by
              unfold Region.ready
              rw [List.mem_filter]
              refine ⟨List.mem_range.2 hi, ?_⟩
              rw [hl, ho]
              simp only [Bool.not_false, Bool.true_and, Option.map_some, Option.getD_some, Array.all_eq_true_iff_forall_mem, Bool.or_eq_true]
              intro e he
              cases hb : Region.binds .any e
              · exact .inl rfl
              right
              have h1 := (hedge i _ ho).1 e he hb
              have h2 := ih e.on h1 (by omega)
              have h3 : e.on < listed.size := by omega
              rw [Array.getD_eq_getD_getElem?, Array.getElem?_eq_getElem h3] at h2 ⊢
              exact h2
            rw [hr] at hmem
            cases hmem
      unfold left
      rw [List.map_eq_nil_iff, List.filter_eq_nil_iff]
      rintro ⟨o, i⟩ hp
      have hi := List.snd_lt_of_mem_zipIdx hp
      simp only [Bool.not_eq_true', Bool.not_eq_false]
      exact all i (by simpa using hi)
    induction fuel with
    | zero =>
      intro listed F O a w δ hsz hcl hl hI hV hg
      have h0 : left ops.toList listed = [] := List.eq_nil_of_length_eq_zero (by omega)
      rw [h0] at hg
      refine ⟨?_, hQ a w ⟨⟨F, O, δ, hI, hg⟩, hV⟩⟩
      cases hr : Region.ready .any ops listed with
      | nil => rfl
      | cons i rest =>
        exfalso
        obtain ⟨o, ho, hn, _⟩ := ready_mem listed i (by rw [hr]; simp)
        have hi : i < ops.size := (Array.getElem?_eq_some_iff.1 ho).1
        have := (left_split (l := ops.toList) (by simpa using ho) hn (by omega)).1
        rw [h0] at this
        simp at this
    | succ fuel ihf =>
      intro listed F O a w δ hsz hcl hl hI hV hg
      refine ⟨fun hr => ?_, fun i hi => ?_⟩
      · rw [empty listed hsz hr] at hg
        exact hQ a w ⟨⟨F, O, δ, hI, hg⟩, hV⟩
      · obtain ⟨o, ho, hn, hed⟩ := ready_mem listed i hi
        have hilt : i < ops.size := (Array.getElem?_eq_some_iff.1 ho).1
        obtain ⟨e1, e2⟩ := left_split (l := ops.toList) (by simpa using ho) hn (by omega)
        rw [e1] at hg hl
        rw [runOps_front _ _ _ (fun q hq => ?_)] at hg
        · rw [← e2] at hg
          have h := step_sound hT hS (ops := ops) (hok o (by simpa using Array.mem_of_getElem? ho)) hI hV hg Q
          have ih : ∀ a w, NextV c B X w0 F0 V (fun δ' => runOps c ops.toList (left ops.toList (listed.setIfInBounds i true)) δ' k) r a w → wpAny P .any ops Q fuel (listed.setIfInBounds i true) a w := by
            rintro a w ⟨⟨F', O', δ', hI', hk'⟩, hV'⟩
            exact ihf _ F' O' a w δ' (by simpa using hsz) (Cl_set hcl ho hed) (by rw [e2]; simp only [List.length_append, List.length_cons] at hl ⊢; omega) hI' hV' hk'
          unfold wpOp
          rw [ho]
          simp only
          split
          · rename_i hw
            rw [if_pos hw] at h
            exact .inl (Oper.wp_mono ih h)
          · rename_i hw
            rw [if_neg hw] at h
            exact ih _ _ h
        · simp only [List.mem_map, List.mem_filter] at hq
          obtain ⟨⟨q', j⟩, ⟨hm1, hm2⟩, rfl⟩ := hq
          have hj := List.snd_lt_of_mem_zipIdx hm1
          rw [List.length_take] at hj
          have hget : ops[j]? = some q' := by
            have := List.mem_zipIdx_iff_getElem?.1 hm1
            simp only at this
            rw [List.getElem?_take_of_lt (by omega)] at this
            simpa using this
          rcases (hedge i o ho).2 j q' (by omega) hget with hbf | h
          · exfalso
            have h3 := bef_listed hcl 3 o hed hbf
            simp only [Bool.not_eq_true'] at hm2
            have hjlt : j < listed.size := by omega
            rw [Array.getD_eq_getD_getElem?, Array.getElem?_eq_getElem hjlt] at h3 hm2
            simp only [Option.getD_some] at h3 hm2
            rw [h3] at hm2
            cases hm2
          · exact h
  have hleft : left ops.toList (Array.replicate ops.size false) = ops.toList := by
    unfold left
    rw [List.filter_eq_self.2]
    · simp
    · rintro ⟨o, i⟩ hp
      have hi := List.snd_lt_of_mem_zipIdx hp
      have hi' : i < ops.size := by simpa using hi
      simp [Array.getD_eq_getD_getElem?, hi']
  refine main ops.size _ F O a _ δ (by simp) (fun m q _ hm => ?_) ?_ (hI.drawn _) hV ?_
  · rw [Array.getD_eq_getD_getElem?, Array.getElem?_replicate] at hm
    split at hm <;> cases hm
  · rw [hleft]; simp
  · rw [hleft]; exact hg

theorem resC_nat : ∀ (l : List ResultVar) (δ : List D) (k : List D → Option Out), resC c δ l k = (resC c δ l fun rs => some (.nrm rs)).bind fun o => match o with
    | .nrm rs => k rs
    | _ => none
  | [], δ, k => rfl
  | .tmp t :: l, δ, k => by
    simp only [resC, nthC_eq]
    rw [resC_nat l δ fun rs => k (nth δ t :: rs), resC_nat l δ fun rs => some (.nrm (nth δ t :: rs))]
    cases h : resC c δ l fun rs => some (.nrm rs) with
    | none => rfl
    | some o => cases o <;> rfl
  | .cell s t :: l, δ, k => by
    simp only [resC]
    split
    · rename_i i _
      simp only [nthC_eq]
      cases fldD i.agg i.n 0 (nth δ s) with
      | none => rfl
      | some y =>
        simp only [Option.bind_some]
        rw [resC_nat l δ fun rs => k (y :: rs), resC_nat l δ fun rs => some (.nrm (y :: rs))]
        cases h : resC c δ l fun rs => some (.nrm rs) with
        | none => rfl
        | some o => cases o <;> rfl
    · rfl

theorem usK_some : ∀ {us : List D} {o : Option Out} {r : Out}, usK us o = some r ↔ (∀ u ∈ us, u ≠ .bad) ∧ o = some r
  | [], o, r => by simp [usK]
  | u :: us, o, r => by
    simp only [usK, Option.bind_eq_some_iff, List.mem_cons, forall_eq_or_imp]
    constructor
    · rintro ⟨y, h1, h2⟩
      obtain ⟨h3, h4⟩ := usK_some.1 h2
      exact ⟨⟨(liveD_some h1).1, h3⟩, h4⟩
    · rintro ⟨⟨h1, h2⟩, h3⟩
      refine ⟨u, ?_, usK_some.2 ⟨h2, h3⟩⟩
      cases u <;> first | rfl | exact absurd rfl h1

theorem retK_is {δ : List D} {k : Out → Option Out} {r : Out} (h : retK c δ k = some r) : ∃ rs, resC c δ c.res (fun rs => some (.nrm rs)) = some (.nrm rs) ∧ (∀ u ∈ getAll δ c.ios, u ≠ .bad) ∧ k (.ret rs (getAll δ c.ios)) = some r := by
  unfold retK at h
  simp only [getC_eq] at h
  rw [resC_nat] at h
  cases hh : resC c δ c.res fun rs => some (.nrm rs) with
  | none => rw [hh] at h; cases h
  | some o =>
    rw [hh] at h
    cases o with
    | nrm rs =>
      simp only [Option.bind_some] at h
      obtain ⟨h1, h2⟩ := usK_some.1 h
      exact ⟨rs, rfl, h1, h2⟩
    | ext i δ => cases h
    | ret x y => cases h

theorem retK_of {δ : List D} {k : Out → Option Out} {r : Out} {rs : List D} (h1 : resC c δ c.res (fun rs => some (.nrm rs)) = some (.nrm rs)) (h2 : ∀ u ∈ getAll δ c.ios, u ≠ .bad) (hk : k (.ret rs (getAll δ c.ios)) = some r) : retK c δ k = some r := by
  unfold retK
  simp only [getC_eq]
  rw [resC_nat, h1]
  simp only [Option.bind_some]
  exact usK_some.2 ⟨h2, hk⟩

/-- What a list of slots carries over. -/
def carry (n : Nat) (hl : List Nat) (δ : List D) : List D := setMany (voidL n) hl (getAll δ hl)
theorem voidL_eq : ∀ n, voidL n = List.replicate n .bad
  | 0 => rfl
  | n + 1 => by simp [voidL, voidL_eq n, List.replicate_succ]
theorem nth_void (n s : Nat) : nth (voidL n) s = .bad := by
  rw [nth_eq, voidL_eq, List.getD_eq_getElem?_getD, List.getElem?_replicate]
  split <;> rfl
theorem expandC_eq (n : Nat) (hl : List Nat) (δ : List D) (k : List D → Option Out) : expandC n hl (getAll δ hl) k = k (carry n hl δ) := by
  unfold expandC carry
  rw [setManyC_eq, fit_eq _ _ 0 (by rw [getAll_len]; omega), List.drop_zero]
theorem getAll_map (δ : List D) : ∀ (l : List Nat), getAll δ l = l.map (nth δ)
  | [] => rfl
  | _ :: l => by simp [getAll, getAll_map δ l]
theorem carry_nth {hl : List Nat} {δ : List D} (s : Nat) : nth (carry δ.length hl δ) s = if s ∈ hl then nth δ s else .bad := by
  unfold carry
  rw [getAll_map, setMany_map]
  have hlen : (voidL δ.length).length = δ.length := by rw [voidL_eq]; simp
  rw [hlen, nth_void]
  split
  · split
    · rfl
    · rename_i h
      by_cases hb : nth δ s = .bad
      · exact hb.symm
      · exact absurd (nth_lt hb) h
  · rfl
theorem Inv.carry (h : Inv c B X w0 F0 F O a w δ) {hl : List Nat} (hk : okLive c.K hl = true) : Inv c B X w0 F0 F O a w (carry (lenN c.K) hl δ) := by
  have e : lenN c.K = δ.length := by rw [lenN_eq, h.ld]
  rw [e]
  refine h.forget ?_ (fun s => ?_) (fun s r hv hb => ?_)
  · unfold V.carry; rw [len_setMany, voidL_eq]; simp
  · rw [carry_nth]
    split
    · exact .inl rfl
    · exact .inr rfl
  · rw [carry_nth] at hb
    split at hb
    case isFalse => exact absurd rfl hb
    rename_i hs
    unfold okLive at hk
    rw [List.all_eq_true] at hk
    have hks := hk s hs
    have hr : r ∈ hl := by
      rcases hv with e | e <;> rw [e] at hks <;> simpa [memN_eq] using hks
    rw [carry_nth, if_pos hr]
    exact (h.root hv hb).2

theorem NextV_mono {V : Nat → Value} {k k' : List D → Option Out} {r r' : Out} (h : NextV c B X w0 F0 V k r a w) (hk : ∀ δ F O, Inv c B X w0 F0 F O a w δ → k δ = some r → k' δ = some r') : NextV c B X w0 F0 V k' r' a w := by
  obtain ⟨⟨F, O, δ, h1, h2⟩, h3⟩ := h
  exact ⟨⟨F, O, δ, h1, hk δ F O h1 h2⟩, h3⟩

theorem loop_rounds {V : Nat → Value} {b : Code} {bid : Nat} {hl xl : List Nat} (h1 : okLive c.K hl = true) (h2 : okLive c.K xl = true)
    (ih : ∀ (F : Nat → Prop) (O : Nat → Option (Nat × Nat)) (a : Act) (w : World) (δ : List D), Inv c B X w0 F0 F O a w δ → IoV c V a → ∀ (k : Out → Option Out) (r : Out), den c bid b δ k = some r → ∀ Q, (∀ e a w, Post c B X w0 F0 V k r e a w → Q e a w) → b.wp P Q a w)
    {k : Out → Option Out} {r : Out} {Q : Exit → Act → World → Prop} (hQ : ∀ e a w, Post c B X w0 F0 V k r e a w → Q e a w) {o : Out}
    (ho : outK o (fun i s => expandC (lenN c.K) xl s fun δ => k (.ext i δ)) (fun x y => k (.ret x y)) = some r) : ∀ (n : Nat) (F : Nat → Prop) (O : Nat → Option (Nat × Nat)) (a : Act) (w : World) (δ : List D), Inv c B X w0 F0 F O a w δ → IoV c V a →
    iter (fun s => expandC (lenN c.K) hl s fun δ => den c bid b δ (shrinkK hl xl)) n (getAll δ hl) = some o → Code.rounds P b Q n a w
  | 0, _, _, _, _, _, _, _, h => by cases h
  | n + 1, F, O, a, w, δ, hI, hV, h => by
    simp only [iter, expandC_eq] at h
    rw [rounds_succ]
    have hI' := hI.carry h1
    cases hb : den c bid b (carry (lenN c.K) hl δ) (shrinkK hl xl) with
    | none => rw [hb] at h; cases h
    | some ob =>
      rw [hb] at h
      refine ih F O a w _ hI' hV _ ob hb _ (fun e a' w' hp => ?_)
      cases ob with
      | nrm s' =>
        simp only at h
        cases e with
        | normal =>
          obtain ⟨⟨F', O', δ', g1, g2⟩, g3⟩ := hp
          simp only [shrinkK, getC_eq, Option.some.injEq, Out.nrm.injEq] at g2
          rw [← g2] at h
          exact loop_rounds h1 h2 ih hQ ho n F' O' a' w' δ' g1 g3 h
        | exit i =>
          obtain ⟨⟨F', O', δ', g1, g2⟩, g3⟩ := hp
          simp [shrinkK, getC_eq] at g2
        | ret =>
          obtain ⟨⟨F', O', δ', g1, g2⟩, g3⟩ := hp
          obtain ⟨rs, _, _, g4⟩ := retK_is g2
          simp [shrinkK] at g4
        | _ => exact hp.elim
      | ext i l =>
        simp only [Option.some.injEq] at h
        subst h
        cases e with
        | normal =>
          obtain ⟨⟨F', O', δ', g1, g2⟩, g3⟩ := hp
          simp [shrinkK, getC_eq] at g2
        | exit j =>
          obtain ⟨⟨F', O', δ', g1, g2⟩, g3⟩ := hp
          simp only [shrinkK, getC_eq, Option.some.injEq, Out.ext.injEq] at g2
          obtain ⟨rfl, rfl⟩ := g2
          simp only [outK, expandC_eq] at ho
          exact hQ (.exit j) _ _ ⟨⟨F', O', _, g1.carry h2, ho⟩, g3⟩
        | ret =>
          obtain ⟨⟨F', O', δ', g1, g2⟩, g3⟩ := hp
          obtain ⟨rs, _, _, g4⟩ := retK_is g2
          simp [shrinkK] at g4
        | _ => exact hp.elim
      | ret x y =>
        simp only [Option.some.injEq] at h
        subst h
        cases e with
        | normal =>
          obtain ⟨⟨F', O', δ', g1, g2⟩, g3⟩ := hp
          simp [shrinkK, getC_eq] at g2
        | exit j =>
          obtain ⟨⟨F', O', δ', g1, g2⟩, g3⟩ := hp
          simp [shrinkK, getC_eq] at g2
        | ret =>
          obtain ⟨⟨F', O', δ', g1, g2⟩, g3⟩ := hp
          obtain ⟨rs, g5, g6, g4⟩ := retK_is g2
          simp only [shrinkK, Option.some.injEq, Out.ret.injEq] at g4
          obtain ⟨rfl, rfl⟩ := g4
          exact hQ .ret _ _ ⟨⟨F', O', δ', g1, retK_of g5 g6 ho⟩, g3⟩
        | _ => exact hp.elim

theorem den_sound (hT : okT P c.T = true) (hS : ∀ f S, look c.S f = some S → Meets c.G P f S) (hm : P.follows .mixedOrders = true) {V : Nat → Value} : ∀ (b : Code) (bid : Nat), okCode c bid b = true → ∀ (F : Nat → Prop) (O : Nat → Option (Nat × Nat)) (a : Act) (w : World) (δ : List D),
    Inv c B X w0 F0 F O a w δ → IoV c V a → ∀ (k : Out → Option Out) (r : Out), den c bid b δ k = some r → ∀ Q, (∀ e a w, Post c B X w0 F0 V k r e a w → Q e a w) → b.wp P Q a w
  | .skip, bid, _, F, O, a, w, δ, hI, hV, k, r, hg, Q, hQ => wp_skip (hQ _ _ _ ⟨⟨F, O, δ, hI, hg⟩, hV⟩)
  | .region id ops d, bid, hok, F, O, a, w, δ, hI, hV, k, r, hg, Q, hQ => by
    simp only [okCode, Bool.and_eq_true, List.all_eq_true] at hok
    have hq : ∀ a w, NextV c B X w0 F0 V (fun δ => k (.nrm δ)) r a w → Q .normal a w := fun a w h => hQ _ _ _ h
    cases d
    · exact wp_region_list (list_sound hT hS hq ops.toList hok.1 F O a w δ hI hV hg)
    · exact any_sound hT hS (by simpa using hok.2) hm hq hok.1 hI hV hg id
  | .seq x y, bid, hok, F, O, a, w, δ, hI, hV, k, r, hg, Q, hQ => by
    simp only [okCode, Bool.and_eq_true] at hok
    refine wp_seq (den_sound hT hS hm x bid hok.1 F O a w δ hI hV _ r hg _ (fun e a' w' hp => ?_))
    cases e with
    | normal =>
      obtain ⟨⟨F', O', δ', hI', hk'⟩, hV'⟩ := hp
      exact den_sound hT hS hm y bid hok.2 F' O' a' w' δ' hI' hV' k r hk' Q hQ
    | exit id => exact hQ _ _ _ hp
    | ret => exact hQ _ _ _ hp
    | _ => exact hp.elim
  | .cond x t e, bid, hok, F, O, a, w, δ, hI, hV, k, r, hg, Q, hQ => by
    simp only [okCode, Bool.and_eq_true] at hok
    obtain ⟨⟨hlv, hok1⟩, hok2⟩ := hok
    have hop := hI.opd (ble_iff.1 hlv)
    have key : ifD (opD δ x) (den c bid t δ k) (den c bid e δ k) = some r := by
      simp only [den] at hg
      cases x with
      | tmp s => simpa only [opC, nthC_eq, opD] using hg
      | const v => simpa only [opC, opD] using hg
      | func f => simpa only [opC, opD] using hg
      | global g => simp [opC] at hg
    unfold ifD at key
    split at key
    · rename_i hd
      rw [hd] at hop
      exact wp_cond_true (RepB_v hop).1 (den_sound hT hS hm t bid hok1 F O a w δ hI hV k r key Q hQ)
    · rename_i hd
      rw [hd] at hop
      exact wp_cond_false (RepB_v hop).1 (den_sound hT hS hm e bid hok2 F O a w δ hI hV k r key Q hQ)
    · cases key
  | .block id b, bid, hok, F, O, a, w, δ, hI, hV, k, r, hg, Q, hQ => by
    simp only [okCode] at hok
    refine wp_block (den_sound hT hS hm b id hok F O a w δ hI hV _ r hg _ (fun e a' w' hp => ?_))
    cases e with
    | normal => exact hQ .normal _ _ hp
    | exit i =>
      simp only [Exit.inBlock]
      have hp' : NextV c B X w0 F0 V (fun δ => blkK id (.ext i δ) k) r a' w' := hp
      split
      · rename_i hi
        refine hQ .normal _ _ (NextV_mono hp' fun δ F O _ h => ?_)
        simp only [blkK] at h
        rw [beq_iff.2 (by simpa using hi)] at h
        exact h
      · rename_i hi
        refine hQ (.exit i) _ _ (NextV_mono hp' fun δ F O _ h => ?_)
        simp only [blkK] at h
        cases hb : Nat.beq i id
        · rw [hb] at h; exact h
        · exact absurd (by simpa using beq_iff.1 hb) hi
    | ret => exact hQ .ret _ _ hp
    | _ => exact hp.elim
  | .loop b, bid, hok, F, O, a, w, δ, hI, hV, k, r, hg, Q, hQ => by
    simp only [okCode, Bool.and_eq_true] at hok
    obtain ⟨hok1, hok2⟩ := hok
    simp only [den] at hg
    cases hH : look c.H bid with
    | none => rw [hH] at hg; cases hg
    | some hx =>
      obtain ⟨hl, xl⟩ := hx
      rw [hH] at hg hok2
      simp only [Bool.and_eq_true] at hok2
      simp only [getC_eq] at hg
      obtain ⟨o', h1, h2⟩ := Option.bind_eq_some_iff.1 hg
      unfold loopC at h1
      split at h1
      case isFalse => cases h1
      rename_i hex
      refine wp_loop_rounds (Classical.choose hex) ?_
      refine loop_rounds (hl := hl) (xl := xl) hok2.1 hok2.2 (fun F O a w δ hI hV k r hg Q hQ => den_sound hT hS hm b bid hok1 F O a w δ hI hV k r hg Q hQ) hQ h2 _ F O a w δ hI hV h1
  | .exit id, bid, _, F, O, a, w, δ, hI, hV, k, r, hg, Q, hQ => wp_exit (hQ _ _ _ ⟨⟨F, O, δ, hI, hg⟩, hV⟩)
  | .ret, bid, _, F, O, a, w, δ, hI, hV, k, r, hg, Q, hQ => wp_ret (hQ _ _ _ ⟨⟨F, O, δ, hI, hg⟩, hV⟩)
  | .label _, _, hok, _, _, _, _, _, _, _, _, _, _, _, _ => by simp [okCode] at hok
  | .goto _, _, hok, _, _, _, _, _, _, _, _, _, _, _, _ => by simp [okCode] at hok
  | .scope _, _, hok, _, _, _, _, _, _, _, _, _, _, _, _ => by simp [okCode] at hok

end
end Go.V
