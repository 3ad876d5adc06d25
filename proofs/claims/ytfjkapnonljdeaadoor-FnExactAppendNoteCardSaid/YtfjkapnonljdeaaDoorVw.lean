/-
  A whole function: its contract.
-/
import Derived.Test.YtfjkapnonljdeaaDoorVv
namespace Go.V
open Go.RowKit

def tmpsOf : List ResultVar → List Nat
  | [] => []
  | .tmp t :: l => t :: tmpsOf l
  | .cell _ _ :: l => tmpsOf l
def okRes (c : Cx) : List ResultVar → List Kd → Bool
  | [], [] => true
  | .tmp t :: l, .dat lv :: m => (match nthK c.K t with
    | .dat l' => Nat.ble l' lv
    | _ => false) && okRes c l m
  | .tmp t :: l, .own z lv false :: m => (match nthK c.K t with
    | .own z' l' false => Nat.beq z' z && Nat.ble l' lv
    | _ => false) && !memN t (tmpsOf l) && okRes c l m
  | .cell s t :: l, .dat lv :: m => (match nthK c.K s with
    | .box _ l' _ => Nat.ble l' lv
    | _ => false) && (look c.T t).isSome && okRes c l m
  | _, _ => false
def ioIdx : Nat → List Kd → List Nat
  | _, [] => []
  | i, k :: ks => if isIo k then i :: ioIdx (i + 1) ks else ioIdx (i + 1) ks
def eqK : Kd → Kd → Bool
  | .dat a, .dat b => Nat.beq a b
  | .own a b io, .own a' b' io' => Nat.beq a a' && Nat.beq b b' && io == io'
  | .box a b io, .box a' b' io' => Nat.beq a a' && Nat.beq b b' && io == io'
  | _, _ => false
def prefK : List Kd → List Kd → Bool
  | [], _ => true
  | k :: ks, l :: ls => eqK k l && prefK ks ls
  | _, _ => false

section
variable {P : Program} {c : Cx} {B : Nat} {X : Nat → Prop} {w0 : World} {F0 F : Nat → Prop} {O : Nat → Option (Nat × Nat)} {a : Act} {w : World} {δ : List D}

def getRes (tmps : Array Value) : ResultVar → Sem Value
  | .tmp t => pure (tmps.getD t undef)
  | .cell a t => do loadVar t (← asAddr (tmps.getD a undef))

theorem eqK_eq {k l : Kd} (h : eqK k l = true) : k = l := by
  unfold eqK at h
  split at h
  · rw [beq_iff] at h; rw [h]
  · simp only [Bool.and_eq_true, beq_iff, beq_iff_eq] at h
    obtain ⟨⟨rfl, rfl⟩, rfl⟩ := h; rfl
  · simp only [Bool.and_eq_true, beq_iff, beq_iff_eq] at h
    obtain ⟨⟨rfl, rfl⟩, rfl⟩ := h; rfl
  · cases h
theorem prefK_nth : ∀ {ks ls : List Kd}, prefK ks ls = true → ks.length ≤ ls.length ∧ ∀ (i : Nat), i < ks.length → nthK ls i = nthK ks i
  | [], _, _ => ⟨by simp, by simp⟩
  | k :: ks, l :: ls, h => by
    simp only [prefK, Bool.and_eq_true] at h
    obtain ⟨h1, h2⟩ := prefK_nth h.2
    refine ⟨by simp; exact h1, fun i hi => ?_⟩
    cases i with
    | zero => simp only [nthK]; exact (eqK_eq h.1).symm
    | succ i => simp only [nthK]; exact h2 i (by simpa using hi)
  | _ :: _, [], h => by simp [prefK] at h

def resOwn (B : Nat) (O : Nat → Option (Nat × Nat)) (res : List ResultVar) (j : Nat) (g : Nat) : Prop := B ≤ g ∧ ∃ t, res[j]? = some (.tmp t) ∧ O g = some (t, 0)

theorem ResOk_mono {w : World} {F : Nat → Prop} {B : Nat} {own own' : Nat → Prop} {k : Kd} {d : D} {y : Value} (ho : (∃ z lv, k = .own z lv false) → ∀ g, own g → own' g) (h : ResOk w F B own k d y) : ResOk w F B own' k d y := by
  rcases h with h | h
  · exact .inl h
  · refine .inr ?_
    cases k with
    | own z lv io =>
      cases io
      · exact h.own fun _ _ hg => ⟨ho ⟨z, lv, rfl⟩ _ hg.1, hg.2⟩
      · exact h
    | _ => exact h

theorem res_run (hT : okT P c.T = true) (hI : Inv c B X w0 F0 F O a w δ) : ∀ (res : List ResultVar) (rm : List Kd) (rs : List D), okRes c res rm = true → resC c δ res (fun rs => some (.nrm rs)) = some (.nrm rs) →
    ∃ vs : List Value, (res.mapM (getRes a.tmps)).run P w = .ok vs w ∧ vs.length = rm.length ∧ rs.length = rm.length ∧ ∀ j, ResOk w F B (resOwn B O res j) (nthK rm j) (nth rs j) (vs.getD j undef)
  | [], [], rs, _, h => by
    simp only [resC, Option.some.injEq, Out.nrm.injEq] at h
    subst h
    exact ⟨[], by simp, rfl, rfl, fun j => .inl (by simp [nth])⟩
  | .tmp t :: l, .dat lv :: m, rs, hok, h => by
    simp only [okRes, Bool.and_eq_true] at hok
    simp only [resC, nthC_eq] at h
    rw [resC_nat] at h
    obtain ⟨o, h1, h2⟩ := Option.bind_eq_some_iff.1 h
    split at h2
    case h_2 => cases h2
    rename_i rs'
    simp only [Option.some.injEq, Out.nrm.injEq] at h2
    subst h2
    obtain ⟨vs, g1, g2, g3, g4⟩ := res_run hT hI l m rs' hok.2 h1
    refine ⟨a.tmps.getD t undef :: vs, by simp [List.mapM_cons, getRes, g1], by simp [g2], by simp [g3], fun j => ?_⟩
    cases j with
    | zero =>
      simp only [nthK, nth, List.getD_cons_zero]
      have hk := hok.1
      split at hk
      case h_2 => cases hk
      rename_i l' hkt
      exact (RepB_le (ble_iff.1 hk) (hI.dat hkt))
    | succ j =>
      refine ResOk_mono (fun _ g hg => ?_) (g4 j)
      obtain ⟨e1, t', e2, e3⟩ := hg
      exact ⟨e1, t', by simpa using e2, e3⟩
  | .tmp t :: l, .own z lv false :: m, rs, hok, h => by
    simp only [okRes, Bool.and_eq_true] at hok
    simp only [resC, nthC_eq] at h
    rw [resC_nat] at h
    obtain ⟨o, h1, h2⟩ := Option.bind_eq_some_iff.1 h
    split at h2
    case h_2 => cases h2
    rename_i rs'
    simp only [Option.some.injEq, Out.nrm.injEq] at h2
    subst h2
    obtain ⟨vs, g1, g2, g3, g4⟩ := res_run hT hI l m rs' hok.2 h1
    refine ⟨a.tmps.getD t undef :: vs, by simp [List.mapM_cons, getRes, g1], by simp [g2], by simp [g3], fun j => ?_⟩
    cases j with
    | zero =>
      simp only [nthK, nth, List.getD_cons_zero]
      have hk := hok.1.1
      split at hk
      case h_2 => cases hk
      rename_i z' l' hkt
      simp only [Bool.and_eq_true, beq_iff, ble_iff] at hk
      obtain ⟨rfl, hle⟩ := hk
      by_cases hb : nth δ t = .bad
      · exact .inl hb
      · exact .inr (OwnV_mono' (FB_le hle) (fun _ _ => rfl) (fun g _ hg => ⟨⟨⟨hg.2 rfl, t, rfl, hg.1⟩, hg.2 rfl⟩, rfl⟩) (hI.own hkt hb))
    | succ j =>
      refine ResOk_mono (fun _ g hg => ?_) (g4 j)
      obtain ⟨e1, t', e2, e3⟩ := hg
      exact ⟨e1, t', by simpa using e2, e3⟩
  | .cell s t :: l, .dat lv :: m, rs, hok, h => by
    simp only [okRes, Bool.and_eq_true] at hok
    simp only [resC] at h
    split at h
    case h_2 => cases h
    rename_i i hi
    simp only [nthC_eq] at h
    obtain ⟨y, hy, h⟩ := Option.bind_eq_some_iff.1 h
    rw [resC_nat] at h
    obtain ⟨o, h1, h2⟩ := Option.bind_eq_some_iff.1 h
    split at h2
    case h_2 => cases h2
    rename_i rs'
    simp only [Option.some.injEq, Out.nrm.injEq] at h2
    subst h2
    obtain ⟨vs, g1, g2, g3, g4⟩ := res_run hT hI l m rs' hok.2 h1
    have hk := hok.1.1
    split at hk
    case h_2 => cases hk
    rename_i n l' io hks
    rw [ble_iff] at hk
    have hb : nth δ s ≠ .bad := by
      intro e
      rw [e] at hy
      simp [fldD] at hy
    obtain ⟨mm, us, g, e, hd', a1, a2, a3, a4, a5, a6⟩ := hI.box hks hb
    rw [hd'] at hy
    simp only [fldD, List.drop_zero] at hy
    have hcell : CellsAt w g 0 us := cells_at a2 (fun i u hu => by simpa using hu)
    obtain ⟨v, hv, hr⟩ := load_run (P := P) (tok hT hi) a3 a4 hcell hy
    have hv' : (getRes a.tmps (.cell s t)).run P w = .ok v w := by
      have e1 : a.tmps.getD s undef = .pointer (some ⟨g, 0, none⟩) := a1
      simp only [getRes, e1]
      simpa [Instr.loadAt, Instr.sureAddr, asAddr] using hv
    refine ⟨v :: vs, by simp [List.mapM_cons, hv', g1], by simp [g2], by simp [g3], fun j => ?_⟩
    cases j with
    | zero =>
      simp only [nthK, nth, List.getD_cons_zero]
      exact .inr (RepV_mono (FB_le hk) (fun _ _ => rfl) hr)
    | succ j =>
      refine ResOk_mono (fun _ g hg => ?_) (g4 j)
      obtain ⟨e1, t', e2, e3⟩ := hg
      exact ⟨e1, t', by simpa using e2, e3⟩
  | [], _ :: _, _, hok, _ => by simp [okRes] at hok
  | .tmp _ :: _, [], _, hok, _ => by simp [okRes] at hok
  | .cell _ _ :: _, [], _, hok, _ => by simp [okRes] at hok
  | .tmp _ :: _, .own _ _ true :: _, _, hok, _ => by simp [okRes] at hok
  | .tmp _ :: _, .box _ _ _ :: _, _, hok, _ => by simp [okRes] at hok
  | .tmp _ :: _, .via _ :: _, _, hok, _ => by simp [okRes] at hok
  | .tmp _ :: _, .ref _ :: _, _, hok, _ => by simp [okRes] at hok
  | .tmp _ :: _, .tup _ :: _, _, hok, _ => by simp [okRes] at hok
  | .tmp _ :: _, .no :: _, _, hok, _ => by simp [okRes] at hok
  | .cell _ _ :: _, .own _ _ _ :: _, _, hok, _ => by simp [okRes] at hok
  | .cell _ _ :: _, .box _ _ _ :: _, _, hok, _ => by simp [okRes] at hok
  | .cell _ _ :: _, .via _ :: _, _, hok, _ => by simp [okRes] at hok
  | .cell _ _ :: _, .ref _ :: _, _, hok, _ => by simp [okRes] at hok
  | .cell _ _ :: _, .tup _ :: _, _, hok, _ => by simp [okRes] at hok
  | .cell _ _ :: _, .no :: _, _, hok, _ => by simp [okRes] at hok

/-! ### a whole function -/
def resIx : List ResultVar → Nat → Nat → Option Nat
  | [], _, _ => none
  | .tmp t :: l, s, j => if t = s then some j else resIx l s (j + 1)
  | .cell _ _ :: l, s, j => resIx l s (j + 1)

theorem tmpsOf_mem : ∀ {res : List ResultVar} {j t : Nat}, res[j]? = some (.tmp t) → t ∈ tmpsOf res
  | .tmp s :: l, 0, t, h => by simp at h; simp [tmpsOf, h]
  | .cell _ _ :: l, 0, t, h => by simp at h
  | .tmp s :: l, j + 1, t, h => by simp only [tmpsOf, List.mem_cons]; exact .inr (tmpsOf_mem (by simpa using h))
  | .cell _ _ :: l, j + 1, t, h => by simp only [tmpsOf]; exact tmpsOf_mem (by simpa using h)

theorem resIx_own : ∀ (res : List ResultVar) (rm : List Kd), okRes c res rm = true → ∀ (j t i : Nat) (z lv : Nat), nthK rm j = .own z lv false → res[j]? = some (.tmp t) → resIx res t i = some (i + j) ∧ ∃ z' l', nthK c.K t = .own z' l' false
  | [], [], _, j, t, i, z, lv, h, _ => by simp [nthK] at h
  | .tmp s :: l, .dat lv' :: m, hok, j, t, i, z, lv, h, hj => by
    simp only [okRes, Bool.and_eq_true] at hok
    cases j with
    | zero => simp [nthK] at h
    | succ j =>
      obtain ⟨h1, h2⟩ := resIx_own l m hok.2 j t (i + 1) z lv (by simpa [nthK] using h) (by simpa using hj)
      refine ⟨?_, h2⟩
      simp only [resIx]
      rw [if_neg, h1]
      · congr 1; omega
      · rintro rfl
        obtain ⟨z', l', hk⟩ := h2
        rw [hk] at hok
        cases hok.1
  | .tmp s :: l, .own z0 lv0 false :: m, hok, j, t, i, z, lv, h, hj => by
    simp only [okRes, Bool.and_eq_true] at hok
    cases j with
    | zero =>
      simp at hj
      subst hj
      refine ⟨by simp [resIx], ?_⟩
      have hk := hok.1.1
      split at hk
      · exact ⟨_, _, ‹_›⟩
      · cases hk
    | succ j =>
      obtain ⟨h1, h2⟩ := resIx_own l m hok.2 j t (i + 1) z lv (by simpa [nthK] using h) (by simpa using hj)
      refine ⟨?_, h2⟩
      simp only [resIx]
      rw [if_neg, h1]
      · congr 1; omega
      · rintro rfl
        have hm := hok.1.2
        rw [memN_eq] at hm
        simp only [Bool.not_eq_true', decide_eq_false_iff_not] at hm
        exact hm (tmpsOf_mem (by simpa using hj))
  | .cell s s' :: l, .dat lv' :: m, hok, j, t, i, z, lv, h, hj => by
    simp only [okRes, Bool.and_eq_true] at hok
    cases j with
    | zero => simp [nthK] at h
    | succ j =>
      obtain ⟨h1, h2⟩ := resIx_own l m hok.2 j t (i + 1) z lv (by simpa [nthK] using h) (by simpa using hj)
      refine ⟨?_, h2⟩
      simp only [resIx]
      rw [h1]
      congr 1; omega
  | [], _ :: _, hok, _, _, _, _, _, _, _ => by simp [okRes] at hok
  | .tmp _ :: _, [], hok, _, _, _, _, _, _, _ => by simp [okRes] at hok
  | .cell _ _ :: _, [], hok, _, _, _, _, _, _, _ => by simp [okRes] at hok
  | .tmp _ :: _, .own _ _ true :: _, hok, _, _, _, _, _, _, _ => by simp [okRes] at hok
  | .tmp _ :: _, .box _ _ _ :: _, hok, _, _, _, _, _, _, _ => by simp [okRes] at hok
  | .tmp _ :: _, .via _ :: _, hok, _, _, _, _, _, _, _ => by simp [okRes] at hok
  | .tmp _ :: _, .ref _ :: _, hok, _, _, _, _, _, _, _ => by simp [okRes] at hok
  | .tmp _ :: _, .tup _ :: _, hok, _, _, _, _, _, _, _ => by simp [okRes] at hok
  | .tmp _ :: _, .no :: _, hok, _, _, _, _, _, _, _ => by simp [okRes] at hok
  | .cell _ _ :: _, .own _ _ _ :: _, hok, _, _, _, _, _, _, _ => by simp [okRes] at hok
  | .cell _ _ :: _, .box _ _ _ :: _, hok, _, _, _, _, _, _, _ => by simp [okRes] at hok
  | .cell _ _ :: _, .via _ :: _, hok, _, _, _, _, _, _, _ => by simp [okRes] at hok
  | .cell _ _ :: _, .ref _ :: _, hok, _, _, _, _, _, _, _ => by simp [okRes] at hok
  | .cell _ _ :: _, .tup _ :: _, hok, _, _, _, _, _, _, _ => by simp [okRes] at hok
  | .cell _ _ :: _, .no :: _, hok, _, _, _, _, _, _, _ => by simp [okRes] at hok

theorem ArgsOk_at {w : World} {F : Nat → Prop} {ow : Nat → Option Nat} : ∀ (pm : List Kd) (ds : List D) (ys : List Value) (i : Nat), ArgsOk w F ow i pm ds ys → ds.length = pm.length ∧ ys.length = pm.length ∧ ∀ (j : Nat), j < pm.length → ArgOk w F (fun g => ow g = some (i + j)) (nthK pm j) (nth ds j) (ys.getD j undef)
  | [], [], [], _, _ => ⟨rfl, rfl, fun j h => by simp at h⟩
  | k :: pm, d :: ds, y :: ys, i, h => by
    obtain ⟨h1, h2⟩ := h
    obtain ⟨g1, g2, g3⟩ := ArgsOk_at pm ds ys (i + 1) h2
    refine ⟨by simp [g1], by simp [g2], fun j hj => ?_⟩
    cases j with
    | zero => exact h1
    | succ j =>
      have := g3 j (by simpa using hj)
      simp only [nthK, nth, List.getD_cons_succ]
      rw [show i + (j + 1) = i + 1 + j from by omega]
      exact this
  | [], [], _ :: _, _, h => h.elim
  | [], _ :: _, _, _, h => h.elim
  | _ :: _, [], _, _, h => h.elim
  | _ :: _, _ :: _, [], _, h => h.elim

theorem UsOk_of {w : World} {F : Nat → Prop} {δ : List D} : ∀ (pm : List Kd) (ys : List Value) (i : Nat), ys.length = pm.length → (∀ (j : Nat), j < pm.length → isIo (nthK pm j) = true → nth δ (i + j) ≠ .bad ∧ ArgOk w F (fun _ => True) (nthK pm j) (nth δ (i + j)) (ys.getD j undef)) → UsOk w F pm (getAll δ (ioIdx i pm)) ys
  | [], ys, i, _, _ => by simp [ioIdx, getAll, UsOk]
  | k :: pm, [], i, hl, _ => by simp at hl
  | k :: pm, y :: ys, i, hl, h => by
    have ih := UsOk_of pm ys (i + 1) (by simpa using hl) (fun j hj hio => by
      have := h (j + 1) (by simpa using hj) (by simpa [nthK] using hio)
      rw [show i + 1 + j = i + (j + 1) from by omega]
      simpa [nthK] using this)
    cases hk : isIo k with
    | true =>
      have h0 := h 0 (by simp) (by simpa [nthK] using hk)
      simp only [ioIdx, hk, if_true, getAll, UsOk]
      exact ⟨by simpa using h0.1, by simpa [nthK] using h0.2, ih⟩
    | false => simpa only [ioIdx, hk, Bool.false_eq_true, if_false, UsOk] using ih

theorem ioIdx_mem : ∀ (pm : List Kd) (i j : Nat), j < pm.length → isIo (nthK pm j) = true → i + j ∈ ioIdx i pm
  | k :: pm, i, 0, _, h => by
    simp only [nthK] at h
    simp [ioIdx, h]
  | k :: pm, i, j + 1, hj, h => by
    have ih := ioIdx_mem pm (i + 1) j (by simpa using hj) (by simpa [nthK] using h)
    rw [show i + (j + 1) = i + 1 + j from by omega]
    simp only [ioIdx]
    split
    · exact List.mem_cons_of_mem _ ih
    · exact ih

theorem padTo_nth : ∀ (n : Nat) (l : List D) (s : Nat), l.length ≤ n → nth (padTo n l) s = nth l s
  | 0, l, s, h => by
    have : l = [] := List.eq_nil_of_length_eq_zero (by omega)
    subst this
    simp [padTo]
  | n + 1, [], s, _ => by
    cases s with
    | zero => simp [nth]
    | succ s => simp only [nth]; rw [padTo_nth n [] s (by simp)]
  | n + 1, d :: l, s, h => by
    cases s with
    | zero => simp [nth]
    | succ s => simp only [nth]; exact padTo_nth n l s (by simpa using h)
theorem padTo_len : ∀ (n : Nat) (l : List D), (padTo n l).length = n
  | 0, _ => rfl
  | n + 1, [] => by simp [padTo, padTo_len n []]
  | n + 1, _ :: l => by simp [padTo, padTo_len n l]

/-- What is checked of a function. -/
def okFn (c : Cx) (fn : Func) (pm rm : List Kd) : Bool :=
  (match fn.body with
    | some b => okCode c 0 b
    | none => false) && Nat.beq (lenN c.K) fn.ntmps && prefK pm c.K && okPm pm && okRes c c.res rm && decide (c.ios = ioIdx 0 pm)

theorem okPm_at : ∀ {pm : List Kd}, okPm pm = true → ∀ j, j < pm.length → (∃ lv, nthK pm j = .dat lv ∧ lv ≠ 1) ∨ (∃ z lv, nthK pm j = .own z lv true ∧ lv ≠ 1) ∨ ∃ n lv, nthK pm j = .box n lv true ∧ lv ≠ 1
  | m :: pm, h, j, hj => by
    obtain ⟨h1, h2, h3⟩ := okPm_tail h
    cases j with
    | succ j => exact okPm_at h1 j (by simpa using hj)
    | zero =>
      simp only [nthK]
      cases m with
      | dat lv =>
        refine .inl ⟨lv, rfl, ?_⟩
        simp only [okPm] at h
        split at h
        case h_2 => cases h
        rename_i e1 e2
        intro e; subst e; simp at e1
      | own z lv io =>
        cases io
        · simp [okPm] at h
        · exact .inr (.inl ⟨z, lv, rfl, h2 z lv rfl⟩)
      | box n lv io =>
        cases io
        · simp [okPm] at h
        · exact .inr (.inr ⟨n, lv, rfl, h3 n lv rfl⟩)
      | _ => simp [okPm] at h

theorem fn_calls (hT : okT P c.T = true) (hS : ∀ f S, look c.S f = some S → Meets c.G P f S) (hm : P.follows .mixedOrders = true) {f : FuncId} {fn : Func} (hf : P.funcs[f]? = some fn) {pm rm : List Kd} (hok : okFn c fn pm rm = true) (hres : c.res = fn.results.toList)
    {ds rs us : List D} (hd : denF c fn ds = some (.ret rs us)) {args : Array Value} {w : World} {F : Nat → Prop} {ow : Nat → Option Nat} (hgl : gOk c.G w F) (ha : ArgsOk w F ow 0 pm ds args.toList) (hF : ∀ b, F b → b < w.heap.size ∧ ow b = none) (hO : ∀ b i, ow b = some i → b < w.heap.size) :
    Calls P f args w fun e w' => ∃ v, e = .returned v ∧ ∃ F' R vs, v = resV vs ∧ CallPost { pm := pm, rm := rm, f := denF c fn } args rs us w F ow F' R vs w' := by
  unfold okFn at hok
  simp only [Bool.and_eq_true, decide_eq_true_eq] at hok
  obtain ⟨⟨⟨⟨⟨hcode, hlenK⟩, hpre⟩, hpm⟩, hokr⟩, hios⟩ := hok
  rw [beq_iff, lenN_eq] at hlenK
  obtain ⟨hpl, hpn⟩ := prefK_nth hpre
  obtain ⟨hdl, hal, hargs⟩ := ArgsOk_at pm ds args.toList 0 ha
  have hasz : args.size = pm.length := by simpa using hal
  unfold denF at hd
  cases hb : fn.body with
  | none => rw [hb] at hd; cases hd
  | some b =>
    rw [hb] at hd hcode
    simp only at hd hcode
    refine calls_of_wp hf hb ?_
    have hav : ∀ s, s < pm.length → av ({ tmps := args ++ Array.replicate (fn.ntmps - args.size) undef, defers := [] } : Act) s = args.toList.getD s undef := fun s hs => by
      have h1 : s < args.size := by omega
      simp only [av, Array.getD_eq_getD_getElem?, List.getD_eq_getElem?_getD, Array.getElem?_toList]
      rw [Array.getElem?_append_left h1]
    have hinit : Inv c w.heap.size (fun b => ow b ≠ none) w F F (fun b => (ow b).map fun i => (i, 0)) { tmps := args ++ Array.replicate (fn.ntmps - args.size) undef, defers := [] } w (padTo fn.ntmps ds) := by
      refine ⟨by simp; omega, by rw [padTo_len, hlenK], rfl, fun s => ?_, fun b hb => ⟨(hF b hb).1, by simp [(hF b hb).2]⟩, fun b p hp => ?_, fun _ h => h, fun _ h => .inl h, Nat.le_refl _, rfl, rfl, rfl, fun _ _ _ => rfl, hgl⟩
      · unfold SlotOk
        rw [padTo_nth _ _ _ (by rw [hdl]; omega)]
        by_cases hs : s < pm.length
        · rw [hpn s hs, hav s hs]
          rcases hargs s hs with hbad | harg
          · exact .inl hbad
          refine .inr ?_
          have hlv : ∀ lv, lv ≠ 1 → ∀ b, FB F 0 lv b → FB F w.heap.size lv b := fun lv h1 b hb => by
            match lv, h1 with
            | 0, _ => exact hb
            | _ + 2, _ => exact hb
          rcases okPm_at hpm s hs with ⟨lv, hk, h1⟩ | ⟨z, lv, hk, h1⟩ | ⟨n, lv, hk, h1⟩
          · rw [hk] at harg ⊢
            exact .inr (RepV_mono (hlv lv h1) (fun _ _ => rfl) harg)
          · rw [hk] at harg ⊢
            exact .inr (OwnV_mono' (hlv lv h1) (fun _ _ => rfl) (fun g _ hg => ⟨⟨by simp only [Nat.zero_add] at hg; simp [hg], fun h => by cases h⟩, rfl⟩) harg)
          · rw [hk] at harg ⊢
            exact .inr (BoxV_mono' (hlv lv h1) (fun _ _ => rfl) (fun g _ hg => ⟨⟨by simp only [Nat.zero_add] at hg; simp [hg], fun h => by cases h⟩, rfl⟩) harg)
        · refine .inl ?_
          rw [nth_eq, List.getD_eq_getElem?_getD, List.getElem?_eq_none (by omega)]
          rfl
      · obtain ⟨i, hi, rfl⟩ := Option.map_eq_some_iff.1 hp
        exact ⟨hO b i hi, .inr (by rw [hi]; simp)⟩
    refine den_sound hT hS hm b 0 hcode F _ _ w _ hinit (V := av { tmps := args ++ Array.replicate (fn.ntmps - args.size) undef, defers := [] }) (fun _ _ => rfl) _ _ hd _ (fun e a' w' hp => ?_)
    have fin : NextV c w.heap.size (fun b => ow b ≠ none) w F (av { tmps := args ++ Array.replicate (fn.ntmps - args.size) undef, defers := [] }) (fun δ => retK c δ some) (.ret rs us) a' w' → a'.defers = [] ∧ ∃ v, (results fn a'.tmps).run P w' = .ok v w' ∧ ∃ v', Ending.returned v = .returned v' ∧ ∃ F' R vs, v' = resV vs ∧ CallPost { pm := pm, rm := rm, f := denF c fn } args rs us w F ow F' R vs w' := by
      rintro ⟨⟨F', O', δ', hI', hk⟩, hV'⟩
      obtain ⟨rs', h1, h2, h3⟩ := retK_is hk
      simp only [Option.some.injEq, Out.ret.injEq] at h3
      obtain ⟨rfl, rfl⟩ := h3
      obtain ⟨vs, g1, g2, g3, g4⟩ := res_run (P := P) hT hI' c.res rm rs' hokr h1
      refine ⟨hI'.df, resV vs, ?_, _, rfl, F', fun b => if w.heap.size ≤ b then (match O' b with
        | some (t, 0) => resIx c.res t 0
        | _ => none) else none, vs, rfl, ?_⟩
      · have hrun : (fn.results.mapM (getRes a'.tmps)).run P w' = .ok vs.toArray w' := by
          rw [Array.mapM_eq_mapM_toList, ← hres]
          simp [g1]
        have hrw : results fn a'.tmps = (do
            let vs ← fn.results.mapM (getRes a'.tmps)
            pure (if h : vs.size = 1 then vs[0] else .tuple vs)) := by
          unfold results
          congr 1
        rw [hrw]
        simp only [Sem.run_bind, hrun, Result.andThen_ok, Sem.run_pure]
        congr 1
        rcases vs with _ | ⟨y, _ | ⟨y', vs⟩⟩
        · simp [resV]
        · simp [resV]
        · simp [resV]
      · refine ⟨hI'.os, hI'.tape, hI'.output, hI'.bb, fun b hb ho => hI'.keep b hb (by simp [ho]), hI'.f0, fun b hb => ⟨hI'.fn b hb, (hI'.fl b hb).1, by simp only [(hI'.fl b hb).2]; split <;> rfl⟩, fun b j hj => ?_, g2, g3, fun j => ?_, ?_⟩
        · split at hj
          case isFalse => cases hj
          rename_i hB
          refine ⟨hB, ?_⟩
          split at hj
          · rename_i t he; exact (hI'.ol b _ he).1
          · cases hj
        · refine ResOk_mono (fun hk g hg => ?_) (g4 j)
          obtain ⟨z, lv, hk⟩ := hk
          obtain ⟨e1, t, e2, e3⟩ := hg
          rw [if_pos e1]
          simp only [e3]
          have := (resIx_own c.res rm hokr j t 0 z lv hk e2).1
          simpa using this
        · rw [hios]
          refine UsOk_of pm args.toList 0 hal (fun j hj hio => ?_)
          rw [Nat.zero_add]
          have hkj := hpn j hj
          have hbj : nth δ' j ≠ .bad := by
            refine h2 _ ?_
            rw [hios, getAll_map]
            exact List.mem_map_of_mem (by simpa using ioIdx_mem pm 0 j hj hio)
          have havj : av a' j = args.toList.getD j undef := (hV' j (by rw [hkj]; exact hio)).trans (hav j hj)
          have hlv : ∀ lv, lv ≠ 1 → ∀ b, FB F' w.heap.size lv b → FB F' 0 lv b := fun lv h1 b hb => by
            match lv, h1 with
            | 0, _ => exact hb
            | _ + 2, _ => exact hb
          refine ⟨hbj, .inr ?_⟩
          rcases okPm_at hpm j hj with ⟨lv, hk, h1⟩ | ⟨z, lv, hk, h1⟩ | ⟨n, lv, hk, h1⟩
          · rw [hk] at hio; cases hio
          · have h5 := hI'.own (hkj.trans hk) hbj
            rw [havj] at h5
            rw [hk]
            exact OwnV_mono' (hlv lv h1) (fun _ _ => rfl) (fun _ _ _ => ⟨trivial, rfl⟩) h5
          · have h5 := hI'.box (hkj.trans hk) hbj
            rw [havj] at h5
            rw [hk]
            exact BoxV_mono' (hlv lv h1) (fun _ _ => rfl) (fun _ _ _ => ⟨trivial, rfl⟩) h5
    cases e with
    | normal => exact fin hp
    | exit i =>
      obtain ⟨⟨_, _, _, _, h⟩, _⟩ := hp
      cases h
    | ret =>
      refine fin (NextV_mono hp fun δ F O _ h => ?_)
      obtain ⟨rs', h1, h2, h3⟩ := retK_is h
      exact retK_of h1 h2 h3
    | _ => exact hp.elim

theorem meets_of (hT : okT P c.T = true) (hS : ∀ f S, look c.S f = some S → Meets c.G P f S) (hm : P.follows .mixedOrders = true) {f : FuncId} {fn : Func} (hf : P.funcs[f]? = some fn) (hname : (fn.name == "runtime.NumGoroutine") = false) {pm rm : List Kd} (hok : okFn c fn pm rm = true) (hres : c.res = fn.results.toList) :
    Meets c.G P f { pm := pm, rm := rm, f := denF c fn } := by
  intro ds rs us hd args w F ow hgl ha hF hO o a next Q hn
  have hbody : ∃ b, fn.body = some b := by
    have hd' : denF c fn ds = some (.ret rs us) := hd
    unfold denF at hd'
    cases hb : fn.body with
    | none => rw [hb] at hd'; cases hd'
    | some b => exact ⟨b, rfl⟩
  obtain ⟨b, hb⟩ := hbody
  have hrun : (callFunc f args).run P w = .ok (.enter f args) w := by
    have h1 : ¬ fn.name = "runtime.NumGoroutine" := by simpa using hname
    simp [callFunc, hf, h1, hb]
  rw [hrun, Oper.upon_enter]
  refine Calls.mono (fn_calls hT hS hm hf hok hres hd hgl ha hF hO) (fun e w' he => ?_)
  obtain ⟨v, rfl, F', R, vs, h1, h2⟩ := he
  exact hn v w' ⟨F', R, vs, h1, h2⟩

end
end Go.V
