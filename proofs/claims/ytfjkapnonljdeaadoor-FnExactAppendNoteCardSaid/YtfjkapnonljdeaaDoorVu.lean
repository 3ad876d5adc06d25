/-
  One step of a region, with its guard; regions in the order of the text.
-/
import Derived.Test.YtfjkapnonljdeaaDoorVt
namespace Go.V
open Go.RowKit

def noRefK : Kd → Bool
  | .via _ => false
  | .ref _ => false
  | _ => true
/-- What is checked of an operation. -/
def okOp (c : Cx) (ops : List Oper) (o : Oper) : Bool :=
  (match o.dst with
    | some d => !isIo (nthK c.K d)
    | none => true) &&
  (match o.guard with
    | none => true
    | some (j, _) => (match gslot ops j with
        | some g => (match nthK c.K g with
          | .dat _ => true
          | _ => false)
        | none => false) &&
      (match actOf c o with
        | some (.one _ d _) => (match o.dst with
          | some d' => Nat.beq d' d
          | none => false)
        | some (.many _ hw cw _) => (hw ++ cw).all (fun s => noRefK (nthK c.K s)) && (match o.dst with
          | some d => memN d hw
          | none => true)
        | none => true))

/-- The roots that belong to the caller keep their values. -/
def IoV (c : Cx) (V : Nat → Value) (a : Act) : Prop := ∀ s, isIo (nthK c.K s) = true → av a s = V s

theorem upon_dst {P : Program} {o : Oper} {a : Act} {next : Act → World → Prop} {Q : Exit → Act → World → Prop} : ∀ {res : Result Go.Next}, o.upon P a next Q res → o.upon P a (fun a' w' => next a' w' ∧ ∀ s, o.dst ≠ some s → av a' s = av a s) Q res := by
  have key : ∀ (df : List Deferred) (v : Value) (s : Nat), o.dst ≠ some s → av (({ a with defers := df } : Act).put o.dst v) s = av a s := by
    intro df v s hs
    cases hd : o.dst with
    | none => rfl
    | some d =>
      have : s ≠ d := fun e => hs (by rw [hd, e])
      exact (av_put_ne this).trans rfl
  have key0 : ∀ (v : Value) (s : Nat), o.dst ≠ some s → av (a.put o.dst v) s = av a s := fun v s hs => key a.defers v s hs
  intro res h
  cases res with
  | ok n w' =>
    cases n <;> simp only [Oper.upon] at h ⊢ <;>
      first
        | exact ⟨h, key0 _⟩
        | exact ⟨h, key _ _⟩
        | exact Calls.mono h (fun e w'' he => by cases e <;> first | exact ⟨he, key0 _⟩ | exact he)
        | exact Rows.mono h (fun _ _ he => ⟨he, key0 _⟩)
  | halt x w' => cases x <;> simp only [Oper.upon] at h ⊢ <;> exact h

section
variable {P : Program} {c : Cx} {B : Nat} {X : Nat → Prop} {w0 : World} {F0 F : Nat → Prop} {O : Nat → Option (Nat × Nat)} {a : Act} {w : World} {δ : List D}

theorem fit_eq : ∀ (ss : List Nat) (l : List D) (j : Nat), j + ss.length = l.length → fit l j ss = l.drop j
  | [], l, j, h => by simp [fit, List.drop_eq_nil_of_le (show l.length ≤ j by simp at h; omega)]
  | s :: ss, l, j, h => by
    simp only [List.length_cons] at h
    have hj : j < l.length := by omega
    simp only [fit]
    rw [fit_eq ss l (j + 1) (by omega), List.drop_eq_getElem_cons hj, nth_eq, List.getD_eq_getElem?_getD, List.getElem?_eq_getElem hj]
    rfl

/-- What an operation that is passed over leaves in the slots that it would have written. -/
def altV (K : List Kd) (dst : Option Nat) (δ : List D) (s : Nat) : D :=
  match dst with
  | some d => if memN s (d :: deps d K 0) then skipD (nthK K s) else nth δ s
  | none => nth δ s
theorem altC_eq (K : List Kd) (dst : Option Nat) (δ : List D) : ∀ (ss : List Nat) (k : List D → Option Out), altC K δ dst ss k = k (ss.map (altV K dst δ))
  | [], k => by simp [altC]
  | s :: ss, k => by
    cases dst with
    | none => simp only [altC, altV, nthC_eq, List.map_cons]; exact altC_eq K none δ ss _
    | some d =>
      simp only [altC, List.map_cons]
      cases h : memN s (d :: deps d K 0)
      · simp only [nthC_eq]
        rw [altC_eq K (some d) δ ss]
        simp only [altV, h, Bool.false_eq_true, if_false]
      · simp only
        rw [altC_eq K (some d) δ ss]
        simp only [altV, h, if_true]

theorem setMany_map (f : Nat → D) : ∀ (ss : List Nat) (δ : List D) (s : Nat), nth (setMany δ ss (ss.map f)) s = if s ∈ ss then (if s < δ.length then f s else .bad) else nth δ s
  | [], δ, s => by simp [setMany]
  | t :: ss, δ, s => by
    simp only [List.map_cons, setMany]
    rw [setMany_map f ss (setAt δ t (f t)) s, len_setAt]
    by_cases hs : s ∈ ss
    · simp [hs]
    · by_cases ht : s = t
      · subst ht
        simp only [hs, if_false, List.mem_cons, true_or, if_true]
        exact nth_setAt_eq _ _ _
      · simp only [hs, if_false, List.mem_cons, ht, or_self]
        exact nth_setAt_ne _ _ _ _ ht

theorem nth_lt {δ : List D} {s : Nat} (h : nth δ s ≠ .bad) : s < δ.length := by
  by_cases hl : s < δ.length
  · exact hl
  · exfalso
    rw [nth_eq, List.getD_eq_getElem?_getD, List.getElem?_eq_none (by omega)] at h
    exact h rfl

/-- What a slot holds behind an operation that is passed over. -/
theorem skip_ok {s : Nat} (hs : s < a.tmps.size) : SlotU c.K B F O (a.put (some s) undef) w s (skipD (nthK c.K s)) := by
  have hav : av (a.put (some s) undef) s = undef := by
    simp [av, Act.put, hs]
  unfold skipD
  split
  · rename_i lv hk
    refine .inr ?_
    simp only [hk]
    refine .inr ?_
    rw [hav]
    exact ⟨rfl, rfl⟩
  · exact .inl rfl

/-- An operation is passed over. -/
theorem Inv.pass_over (h : Inv c B X w0 F0 F O a w δ) {dst : Option Nat} {hw cw : List Nat} (hk : ∀ s ∈ hw ++ cw, noRefK (nthK c.K s) = true) (hd : ∀ d, dst = some d → d ∈ hw) :
    Inv c B X w0 F0 F O (a.put dst undef) w (setMany δ (hw ++ (cw ++ depsAll c.K hw)) ((hw ++ cw).map (altV c.K dst δ))) := by
  have hav : ∀ s, dst ≠ some s → av (a.put dst undef) s = av a s := by
    intro s hs
    cases dst with
    | none => rfl
    | some d => exact av_put_ne fun e => hs (by rw [e])
  have hnd : ∀ s, noRefK (nthK c.K s) = true → ∀ d, s ∉ deps d c.K 0 := fun s hs d hm => by
    rcases deps_kind hm with e | e <;> rw [e] at hs <;> cases hs
  refine h.many (by simp) (by cases dst <;> simp [Act.put]) (by cases dst <;> rfl) (fun s hs => hav s fun e => hs (hd s e)) (fun r hr hn hb => ?_) (fun s hs => ?_) (fun _ hb => hb) (fun _ _ => rfl) (fun _ _ hp _ => ⟨hp, rfl⟩) h.fl h.ol (fun _ hb => .inl hb) (Nat.le_refl _) rfl rfl rfl (fun _ _ _ => rfl)
  · rw [setMany_map, if_pos (List.mem_append_right _ hr), if_pos (nth_lt hb)]
    unfold altV
    split
    · rename_i d
      rw [if_neg]
      · exact hb
      · rw [memN_eq]
        simp only [decide_eq_true_eq, List.mem_cons, not_or]
        exact ⟨fun e => hn (e ▸ hd d rfl), hnd r (hk r (List.mem_append_right _ hr)) d⟩
    · exact hb
  · rw [setMany_map, if_pos hs]
    split
    case isFalse => exact .inl rfl
    rename_i hsl
    have keep : dst ≠ some s → SlotU c.K B F O (a.put dst undef) w s (nth δ s) := by
      intro hne
      rcases h.slot s with hb | hb
      · exact .inl hb
      · refine .inr ?_
        have hks := hk s hs
        rw [hav s hne]
        generalize nthK c.K s = kk at hks hb
        cases kk <;> first | exact hb | cases hks
    unfold altV
    split
    · rename_i d
      split
      · rename_i hm
        rw [memN_eq] at hm
        simp only [decide_eq_true_eq, List.mem_cons] at hm
        rcases hm with rfl | hm
        · exact skip_ok (by rw [h.la, ← h.ld]; exact hsl)
        · rcases deps_kind hm with e | e <;> (rw [e]; exact .inl rfl)
      · rename_i hm
        rw [memN_eq] at hm
        simp only [decide_eq_true_eq, List.mem_cons, not_or] at hm
        exact keep fun e => hm.1 (by cases e; rfl)
    · exact keep (by simp)

/-- What an operation reads; what it writes. -/
def rdS (c : Cx) (ops : List Oper) (o : Oper) : List Nat :=
  match actOf c o with
  | none => []
  | some A => match o.guard with
    | none => rdAc A
    | some (j, _) => match gslot ops j with
      | none => []
      | some g => match A with
        | .one rd _ _ => g :: rd
        | .many rd hw cw _ => g :: (rd ++ (hw ++ cw))
def wrS (c : Cx) (o : Oper) : List Nat :=
  match actOf c o with
  | none => []
  | some (.one _ d _) => d :: deps d c.K 0
  | some (.many _ hw cw _) => hw ++ (cw ++ depsAll c.K hw)

theorem getAll_congr {δ δ' : List D} : ∀ {ss : List Nat}, (∀ s ∈ ss, nth δ s = nth δ' s) → getAll δ ss = getAll δ' ss
  | [], _ => rfl
  | s :: ss, h => by
    simp only [getAll]
    rw [h s (by simp), getAll_congr fun t ht => h t (by simp [ht])]

theorem getAll_at {δ δ' : List D} : ∀ {ss : List Nat}, getAll δ ss = getAll δ' ss → ∀ s ∈ ss, nth δ s = nth δ' s
  | t :: ss, h, s, hs => by
    simp only [getAll, List.cons.injEq] at h
    rcases List.mem_cons.1 hs with rfl | hs
    · exact h.1
    · exact getAll_at h.2 s hs

/-- A step: what it writes is a function of what it reads. -/
theorem step_form (c : Cx) (ops : List Oper) (o : Oper) : ∃ φ : List D → Option (List D), (∀ δ k, stepK c ops o δ k = (φ δ).bind fun l => k (setMany δ (wrS c o) l)) ∧ ∀ δ δ', getAll δ (rdS c ops o) = getAll δ' (rdS c ops o) → φ δ = φ δ' := by
  unfold stepK rdS wrS
  cases hA : actOf c o with
  | none => exact ⟨fun _ => none, fun _ _ => rfl, fun _ _ _ => rfl⟩
  | some A =>
    have hn := actOf_nat hA
    cases hgd : o.guard with
    | none =>
      cases A with
      | one rd d h =>
        refine ⟨fun δ => (h (getAll δ rd)).map fun z => [z], fun δ k => ?_, fun δ δ' e => by simp only [rdAc] at e; simp only [e]⟩
        simp only [getC_eq]
        cases h (getAll δ rd) with
        | none => rfl
        | some z => exact setManyC_eq _ _ _ _
      | many rd hw cw fn =>
        refine ⟨fun δ => Classical.choose (hn (getAll δ rd)), fun δ k => ?_, fun δ δ' e => by simp only [rdAc] at e; simp only [e]⟩
        simp only [getC_eq, setManyC_eq, app_eq]
        exact (Classical.choose_spec (hn (getAll δ rd))).1 _
    | some jp =>
      obtain ⟨j, pol⟩ := jp
      simp only
      cases hg : gslot ops j with
      | none => exact ⟨fun _ => none, fun _ _ => rfl, fun _ _ _ => rfl⟩
      | some g =>
        cases A with
        | one rd d h =>
          refine ⟨fun δ => (gate (skipD (nthK c.K d)) (nth δ g) pol (h (getAll δ rd))).map fun z => [z], fun δ k => ?_, fun δ δ' e => by simp only [getAll, List.cons.injEq] at e; simp only [e.1, e.2]⟩
          simp only [getC_eq, nthC_eq]
          cases gate (skipD (nthK c.K d)) (nth δ g) pol (h (getAll δ rd)) with
          | none => rfl
          | some z => exact setManyC_eq _ _ _ _
        | many rd hw cw fn =>
          refine ⟨fun δ => match nth δ g with
            | .v (.bool b) => if b = pol then Classical.choose (hn (getAll δ rd)) else some ((hw ++ cw).map (altV c.K o.dst δ))
            | .tup _ => some ((hw ++ cw).map (altV c.K o.dst δ))
            | _ => none, fun δ k => ?_, fun δ δ' e => ?_⟩
          · simp only [getC_eq, setManyC_eq, nthC_eq, app_eq, altC_eq]
            unfold gateC
            split
            · rename_i b hb
              rw [hb]
              simp only
              split
              · obtain ⟨h1, h2⟩ := Classical.choose_spec (hn (getAll δ rd))
                rw [h1]
                cases hc : Classical.choose (hn (getAll δ rd)) with
                | none => rfl
                | some l =>
                  have hl := h2 l hc
                  simp only [Option.bind_some]
                  rw [fit_eq _ l 0 (by omega), List.drop_zero, fit_eq _ l 0 (by omega), List.drop_zero]
              · simp only [Option.bind_some]
                rw [fit_eq _ _ 0 (by simp), List.drop_zero]
            · rename_i l hb
              rw [hb]
              simp only [Option.bind_some]
              rw [fit_eq _ _ 0 (by simp), List.drop_zero]
            · rename_i hb hb'
              split
              · rename_i b hb2; exact absurd hb2 (hb b)
              · rename_i l hb2; exact absurd hb2 (hb' l)
              · rfl
          · simp only [getAll, List.cons.injEq, getAll_append] at e
            have e2 := List.append_inj e.2 (by rw [getAll_len, getAll_len])
            have e3 : ∀ s ∈ hw ++ cw, nth δ s = nth δ' s := getAll_at (by rw [getAll_append, getAll_append]; exact e2.2)
            have e4 : (hw ++ cw).map (altV c.K o.dst δ) = (hw ++ cw).map (altV c.K o.dst δ') := by
              refine List.map_congr_left fun s hs => ?_
              unfold altV
              rw [e3 s hs]
            simp only [e.1, e2.1, e4]

/-- A step of a region. -/
def NextV (c : Cx) (B : Nat) (X : Nat → Prop) (w0 : World) (F0 : Nat → Prop) (V : Nat → Value) (k : List D → Option Out) (r : Out) (a : Act) (w : World) : Prop :=
  Next c B X w0 F0 k r a w ∧ IoV c V a

theorem step_sound (hT : okT P c.T = true) (hS : ∀ f S, look c.S f = some S → Meets c.G P f S) {ops : Array Oper} {o : Oper} (hok : okOp c ops.toList o = true) {V : Nat → Value} (hI : Inv c B X w0 F0 F O a w δ) (hV : IoV c V a) {k : List D → Option Out} {r : Out}
    (hg : stepK c ops.toList o δ k = some r) (Q : Exit → Act → World → Prop) :
    if Region.wanted o (yielded ops a.tmps) then o.wp P a w (NextV c B X w0 F0 V k r) Q else NextV c B X w0 F0 V k r (a.put o.dst undef) w := by
  unfold okOp at hok
  simp only [Bool.and_eq_true] at hok
  obtain ⟨hdst, hgd⟩ := hok
  have hio : ∀ s, isIo (nthK c.K s) = true → o.dst ≠ some s := fun s hs e => by
    rw [e] at hdst
    simp only at hdst
    rw [hs] at hdst
    cases hdst
  have lift : ∀ (A : Ac), actOf c o = some A → goAc c A δ k = some r → o.wp P a w (NextV c B X w0 F0 V k r) Q := by
    intro A hA hgo
    have h := sound_all hT hS o A hA B X w0 F0 F O a w δ hI k r hgo Q
    unfold Oper.wp at h ⊢
    refine Oper.wp_mono (P := P) (o := o) (a := a) (w := w) (K := fun a' w' => Next c B X w0 F0 k r a' w' ∧ ∀ s, o.dst ≠ some s → av a' s = av a s) (fun a' w' hn => ⟨hn.1, fun s hs => (hn.2 s (hio s hs)).trans (hV s hs)⟩) ?_
    exact upon_dst h
  have skipV : IoV c V (a.put o.dst undef) := by
    intro s hs
    cases hd : o.dst with
    | none => exact hV s hs
    | some d => exact (av_put_ne (fun e => hio s hs (by rw [hd, e]))).trans (hV s hs)
  unfold stepK at hg
  cases hA : actOf c o with
  | none => rw [hA] at hg; cases hg
  | some A =>
    rw [hA] at hg
    simp only at hg
    cases hgu : o.guard with
    | none =>
      rw [hgu] at hg
      rw [if_pos (by simp [Region.wanted, hgu])]
      refine lift A hA ?_
      cases A with
      | one rd d h =>
        simp only [getC_eq] at hg
        obtain ⟨z, h1, h2⟩ := Option.bind_eq_some_iff.1 hg
        rw [setManyC_eq] at h2
        simp only [goAc, h1, Option.bind_some]
        exact h2
      | many rd hw cw fn =>
        simp only [getC_eq, setManyC_eq, app_eq] at hg
        exact hg
    | some jp =>
      obtain ⟨j, pol⟩ := jp
      rw [hgu] at hg
      rw [hgu, hA] at hgd
      simp only [Bool.and_eq_true] at hgd
      simp only at hg
      cases hgs : gslot ops.toList j with
      | none => rw [hgs] at hg; cases hg
      | some g =>
        rw [hgs] at hg hgd
        simp only at hgd
        obtain ⟨hkd, hck⟩ := hgd
        have hyield : ∀ b, nth δ g = .v (.bool b) → yielded ops a.tmps j = some b := by
          intro b hb
          obtain ⟨lv, hk⟩ : ∃ lv, nthK c.K g = .dat lv := by
            split at hkd
            · exact ⟨_, ‹_›⟩
            · cases hkd
          have hr := hI.dat hk
          rw [hb] at hr
          obtain ⟨hv, _⟩ := RepB_v hr
          have hlt : g < a.tmps.size := by
            rw [hI.la, ← hI.ld]
            exact nth_lt (by rw [hb]; simp)
          have hg1 : a.tmps[g]? = some (.bool b) := by
            rw [av, Array.getD_eq_getD_getElem?, Array.getElem?_eq_getElem hlt] at hv
            rw [Array.getElem?_eq_getElem hlt]
            simpa using hv
          unfold gslot at hgs
          rw [nthO_eq, Array.getElem?_toList] at hgs
          unfold yielded
          cases ho : ops[j]? with
          | none => rw [ho] at hgs; cases hgs
          | some oj =>
            rw [ho] at hgs
            simp only at hgs
            simp [hgs, hg1]
        have hyT : ∀ l, nth δ g = .tup l → yielded ops a.tmps j = none := by
          intro l hb
          obtain ⟨lv, hk⟩ : ∃ lv, nthK c.K g = .dat lv := by
            split at hkd
            · exact ⟨_, ‹_›⟩
            · cases hkd
          have hr := hI.dat hk
          rw [hb] at hr
          have hv : av a g = .tuple #[] := (hr.rep (by simp)).2
          unfold yielded
          rw [gslot, nthO_eq, Array.getElem?_toList] at hgs
          cases ho : ops[j]? with
          | none => simp
          | some oj =>
            rw [ho] at hgs
            simp only at hgs
            simp only [Option.bind_some, hgs]
            cases hx : a.tmps[g]? with
            | none => rfl
            | some x =>
              have : x = .tuple #[] := by
                rw [← hv, av, Array.getD_eq_getD_getElem?, hx]
                rfl
              subst this
              rfl
        cases A with
        | one rd d h =>
          simp only [nthC_eq, getC_eq] at hg
          obtain ⟨z, h1, h2⟩ := Option.bind_eq_some_iff.1 hg
          rw [setManyC_eq] at h2
          unfold gate at h1
          have skip : z = skipD (nthK c.K d) → NextV c B X w0 F0 V k r (a.put o.dst undef) w := by
            rintro rfl
            refine ⟨⟨F, O, _, ?_, h2⟩, skipV⟩
            simp only at hck
            split at hck
            · rename_i d' hd'
              rw [beq_iff] at hck
              subst hck
              rw [hd']
              refine hI.put ?_
              unfold skipD PutOk
              split
              · rename_i hkk
                refine .inr ?_
                rw [hkk]
                exact ⟨rfl, rfl⟩
              · exact .inl rfl
            · cases hck
          split at h1
          case h_3 => cases h1
          case h_2 =>
            rename_i l hb
            have hy := hyT l hb
            rw [if_neg (by simp [Region.wanted, hgu, hy])]
            exact skip (by cases h1; rfl)
          rename_i b hb
          have hy := hyield b hb
          split at h1
          · rename_i hbp
            rw [if_pos (by simp [Region.wanted, hgu, hy, hbp])]
            exact lift _ hA (by simp only [goAc, h1, Option.bind_some]; exact h2)
          · rename_i hbp
            rw [if_neg (by simp [Region.wanted, hgu, hy, hbp])]
            exact skip (by cases h1; rfl)
        | many rd hw cw fn =>
          simp only [nthC_eq, getC_eq, altC_eq, app_eq, setManyC_eq] at hg
          unfold gateC at hg
          have skip : k (setMany δ (hw ++ (cw ++ depsAll c.K hw)) (fit ((hw ++ cw).map (altV c.K o.dst δ)) 0 (hw ++ cw))) = some r → NextV c B X w0 F0 V k r (a.put o.dst undef) w := by
            intro hg
            rw [fit_eq _ _ 0 (by simp), List.drop_zero] at hg
            simp only [Bool.and_eq_true, List.all_eq_true] at hck
            refine ⟨⟨F, O, _, hI.pass_over hck.1 (fun d hd => ?_), hg⟩, skipV⟩
            have h3 := hck.2
            rw [hd] at h3
            simp only [memN_eq, decide_eq_true_eq] at h3
            exact h3
          split at hg
          case h_3 => cases hg
          case h_2 =>
            rename_i l hb
            have hy := hyT l hb
            rw [if_neg (by simp [Region.wanted, hgu, hy])]
            exact skip hg
          rename_i b hb
          have hy := hyield b hb
          obtain ⟨φ, hφ, hlen⟩ := actOf_nat hA (getAll δ rd)
          split at hg
          · rename_i hbp
            rw [if_pos (by simp [Region.wanted, hgu, hy, hbp])]
            refine lift _ hA ?_
            simp only [goAc]
            rw [hφ] at hg ⊢
            cases hp : φ with
            | none => rw [hp] at hg; cases hg
            | some l =>
              rw [hp] at hg
              have hl := hlen l hp
              simp only [Option.bind_some] at hg ⊢
              rw [fit_eq _ l 0 (by omega), List.drop_zero, fit_eq _ l 0 (by omega), List.drop_zero] at hg
              exact hg
          · rename_i hbp
            rw [if_neg (by simp [Region.wanted, hgu, hy, hbp])]
            exact skip hg

/-- A region in the order of its text. -/
theorem list_sound (hT : okT P c.T = true) (hS : ∀ f S, look c.S f = some S → Meets c.G P f S) {ops : Array Oper} {V : Nat → Value} {Q : Exit → Act → World → Prop} {k : List D → Option Out} {r : Out} (hQ : ∀ a w, NextV c B X w0 F0 V k r a w → Q .normal a w) :
    ∀ (l : List Oper), (∀ o ∈ l, okOp c ops.toList o = true) → ∀ (F : Nat → Prop) (O : Nat → Option (Nat × Nat)) (a : Act) (w : World) (δ : List D), Inv c B X w0 F0 F O a w δ → IoV c V a → runOps c ops.toList l δ k = some r → wpList P ops Q l a w
  | [], _, F, O, a, w, δ, hI, hV, hg => hQ a w ⟨⟨F, O, δ, hI, hg⟩, hV⟩
  | o :: l, hok, F, O, a, w, δ, hI, hV, hg => by
    simp only [runOps] at hg
    have h := step_sound hT hS (hok o (by simp)) hI hV hg Q
    have ih : ∀ a w, NextV c B X w0 F0 V (fun δ' => runOps c ops.toList l δ' k) r a w → wpList P ops Q l a w := by
      rintro a w ⟨⟨F', O', δ', hI', hk'⟩, hV'⟩
      exact list_sound hT hS hQ l (fun o' ho' => hok o' (by simp [ho'])) F' O' a w δ' hI' hV' hk'
    unfold wpList
    split
    · rename_i hw
      rw [if_pos hw] at h
      exact .inl (Oper.wp_mono ih h)
    · rename_i hw
      rw [if_neg hw] at h
      exact ih _ _ h

end
end Go.V
