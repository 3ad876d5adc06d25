/-
  The operations on data keep the invariant.
-/
import Derived.Test.YtankikbbdfgkbaaRows
import Derived.Test.YtankikbbdfgkbaaM1
namespace Go.V
open Go.RowKit

def goAc (c : Cx) (A : Ac) (δ : List D) (k : List D → Option Out) : Option Out :=
  match A with
  | .one rd d h => (h (getAll δ rd)).bind fun z => k (setMany δ (d :: deps d c.K 0) [z])
  | .many rd hw cw fn => fn (getAll δ rd) fun outs => k (setMany δ (hw ++ (cw ++ depsAll c.K hw)) outs)

/-- What an operation comes to. -/
def Next (c : Cx) (B : Nat) (X : Nat → Prop) (w0 : World) (F0 : Nat → Prop) (k : List D → Option Out) (r : Out) (a : Act) (w : World) : Prop :=
  ∃ F O δ, Inv c B X w0 F0 F O a w δ ∧ k δ = some r

section
variable {P : Program} {c : Cx} {B : Nat} {X : Nat → Prop} {w0 : World} {F0 F : Nat → Prop} {O : Nat → Option (Nat × Nat)} {a : Act} {w : World} {δ : List D}

theorem valsOf_eq : ∀ (xs : List Operand), valsOf xs (getAll δ (rdOf xs)) = xs.map (opD δ)
  | [] => rfl
  | .tmp t :: xs => by simp [valsOf, getAll, opD, valsOf_eq xs]
  | .const v :: xs => by simp [valsOf, rdOf, opD, valsOf_eq xs]
  | .func f :: xs => by simp [valsOf, rdOf, opD, valsOf_eq xs]
  | .global g :: xs => by simp [valsOf, rdOf, opD, valsOf_eq xs]

theorem maxN_eq (a b : Nat) : maxN a b = max a b := by
  unfold maxN
  cases h : Nat.ble a b
  · have : ¬ a ≤ b := fun hl => by rw [Nat.ble_eq_true_of_le hl] at h; cases h
    simp only
    omega
  · have := Nat.le_of_ble_eq_true h
    simp only
    omega
theorem ble_iff {a b : Nat} : Nat.ble a b = true ↔ a ≤ b := ⟨Nat.le_of_ble_eq_true, Nat.ble_eq_true_of_le⟩
theorem beq_iff {a b : Nat} : Nat.beq a b = true ↔ a = b := ⟨Nat.eq_of_beq_eq_true, fun h => by subst h; simp⟩

theorem lvAll_mem {K : List Kd} {n : Nat} : ∀ {xs : List Operand}, lvAll K xs ≤ n → ∀ x ∈ xs, lvOf K x ≤ n
  | [], _, x, hx => by simp at hx
  | y :: ys, h, x, hx => by
    simp only [lvAll, maxN_eq] at h
    rcases List.mem_cons.1 hx with rfl | hx
    · omega
    · exact lvAll_mem (by omega) x hx

theorem eval_tmp (a : Act) (t : Nat) : a.eval (.tmp t) = av a t := rfl

/-- An operand's data. -/
theorem Inv.opd (h : Inv c B X w0 F0 F O a w δ) {x : Operand} (hx : lvOf c.K x ≤ 2) : RepB w (FB F B (lvOf c.K x)) (opD δ x) (a.eval x) := by
  cases x with
  | tmp t =>
    simp only [lvOf] at hx ⊢
    split at hx
    · rename_i lv hk
      exact h.dat hk
    · omega
  | const v =>
    simp only [lvOf] at hx ⊢
    split at hx
    case h_2 => omega
    rename_i hv
    refine .inr ?_
    simp only [opD, Act.eval]
    unfold okC at hv
    split at hv <;> first
      | (cases hv; done)
      | exact RepC_nil
      | exact RepV_scalar rfl
  | func f =>
    refine .inr ?_
    simp only [Act.eval, RepV, RepC]
    exact ⟨[], rfl, RepL_nil.2 rfl⟩
  | global g => simp only [lvOf] at hx; omega

theorem wp_value {o : Oper} {y : Value} {K : Act → World → Prop} {Q : Exit → Act → World → Prop} {w' : World} (hr : (execOp a.eval o).run P w = .ok (.value y) w') (hK : K (a.put o.dst y) w') : o.wp P a w K Q := by
  unfold Oper.wp
  rw [hr]
  exact hK
theorem wp_skipv {o : Oper} {K : Act → World → Prop} {Q : Exit → Act → World → Prop} {w' : World} (hr : (execOp a.eval o).run P w = .ok .skip w') (hK : K (a.put o.dst undef) w') : o.wp P a w K Q := by
  unfold Oper.wp
  rw [hr]
  exact hK

/-- One slot written, no memory touched. -/
theorem one_sound {o : Oper} {rd : List Nat} {d : Nat} {h : List D → Option D} (hI : Inv c B X w0 F0 F O a w δ) (hd : o.dst = some d) {k : List D → Option Out} {r : Out} (hg : goAc c (.one rd d h) δ k = some r)
    (hrun : ∀ z, h (getAll δ rd) = some z → ∃ y, (execOp a.eval o).run P w = .ok (.value y) w ∧ PutOk c.K B F a w δ d z y) (Q : Exit → Act → World → Prop) : o.wp P a w (Next c B X w0 F0 k r) Q := by
  simp only [goAc] at hg
  obtain ⟨z, hz, hk⟩ := Option.bind_eq_some_iff.1 hg
  obtain ⟨y, hy, hp⟩ := hrun z hz
  exact wp_value hy ⟨F, O, _, by rw [hd]; exact hI.put hp, hk⟩

theorem RepB_le {lv lv' : Nat} (hl : lv ≤ lv') {z : D} {y : Value} (h : RepB w (FB F B lv) z y) : RepB w (FB F B lv') z y := h.imp id fun h => RepV_mono (FB_le hl) (fun _ _ => rfl) h

theorem data_sound {o : Oper} {xs : List Operand} {lv : Nat} {h : List D → Option D} {A : Ac} (hA : dataOp c o.dst xs lv h = some A) (hI : Inv c B X w0 F0 F O a w δ) {k : List D → Option Out} {r : Out} (hg : goAc c A δ k = some r)
    (hrun : (∀ x ∈ xs, lvOf c.K x ≤ 2 ∧ RepB w (FB F B (lvOf c.K x)) (opD δ x) (a.eval x)) → ∀ z, h (xs.map (opD δ)) = some z → ∃ y, (execOp a.eval o).run P w = .ok (.value y) w ∧ RepB w (FB F B lv) z y) (Q : Exit → Act → World → Prop) : o.wp P a w (Next c B X w0 F0 k r) Q := by
  unfold dataOp at hA
  split at hA
  · cases hA
  rename_i d hd
  split at hA
  case h_2 => cases hA
  rename_i l hk
  split at hA
  · cases hA
  rename_i hlv
  rw [ble_iff] at hlv
  have hops : ∀ x ∈ xs, lvOf c.K x ≤ 2 ∧ RepB w (FB F B (lvOf c.K x)) (opD δ x) (a.eval x) := fun x hx => ⟨lvAll_mem hlv x hx, hI.opd (lvAll_mem hlv x hx)⟩
  have putOk : ∀ z y, RepB w (FB F B l) z y → PutOk c.K B F a w δ d z y := fun z y hz => hz.imp id fun hz => by rw [hk]; exact hz
  split at hA
  · rename_i hle
    rw [ble_iff] at hle
    cases hA
    refine one_sound hI hd hg (fun z hz => ?_) Q
    rw [valsOf_eq] at hz
    obtain ⟨y, h1, h2⟩ := hrun hops z hz
    exact ⟨y, h1, putOk z y (RepB_le hle h2)⟩
  · split at hA
    case h_2 => cases hA
    cases hA
    refine one_sound hI hd hg (fun z hz => ?_) Q
    rw [valsOf_eq] at hz
    obtain ⟨z', hz', hc⟩ := Option.bind_eq_some_iff.1 hz
    obtain ⟨y, h1, h2⟩ := hrun hops z' hz'
    unfold chkV at hc
    split at hc
    case isFalse => cases hc
    rename_i hv
    cases hc
    refine ⟨y, h1, putOk z y (.inr (RepV_isV hv (h2.rep ?_)))⟩
    intro e
    subst e
    simp [D.isV] at hv

theorem run_v {o : Oper} {s : Sem Value} {y : Value} {w' : World} (he : execOp a.eval o = (do pure (.value (← s)))) (hs : s.run P w = .ok y w') : (execOp a.eval o).run P w = .ok (.value y) w' := by
  rw [he]
  simp [hs]

theorem RepB_sc {v : Value} (h : flat v = true) {G : Nat → Prop} {z : D} (hz : z = .v v) : RepB w G z v := .inr (hz ▸ RepV_scalar h)

theorem arg1_some {h : D → Option D} {l : List D} {z : D} (e : arg1 h l = some z) : ∃ a, l = [a] ∧ h a = some z := by
  unfold arg1 at e
  split at e
  · exact ⟨_, rfl, e⟩
  · cases e
theorem arg2_some {h : D → D → Option D} {l : List D} {z : D} (e : arg2 h l = some z) : ∃ a b, l = [a, b] ∧ h a b = some z := by
  unfold arg2 at e
  split at e
  · exact ⟨_, _, rfl, e⟩
  · cases e
theorem arg3_some {h : D → D → D → Option D} {l : List D} {z : D} (e : arg3 h l = some z) : ∃ a b x, l = [a, b, x] ∧ h a b x = some z := by
  unfold arg3 at e
  split at e
  · exact ⟨_, _, _, rfl, e⟩
  · cases e

/-- The statement for one operation. -/
def Sound (P : Program) (c : Cx) (o : Oper) : Prop :=
  ∀ (A : Ac), actOf c o = some A → ∀ (B : Nat) (X : Nat → Prop) (w0 : World) (F0 F : Nat → Prop) (O : Nat → Option (Nat × Nat)) (a : Act) (w : World) (δ : List D), Inv c B X w0 F0 F O a w δ →
    ∀ (k : List D → Option Out) (r : Out), goAc c A δ k = some r → ∀ Q, o.wp P a w (Next c B X w0 F0 k r) Q

theorem withT_some {t : Nat} {f : TI → Option Ac} {A : Ac} (h : withT c t f = some A) : ∃ i, look c.T t = some i ∧ f i = some A := by
  unfold withT at h
  split at h
  · exact ⟨_, ‹_›, h⟩
  · cases h

theorem tok (hT : okT P c.T = true) {t : Nat} {i : TI} (h : look c.T t = some i) : TOk P t i := tiChk_ok (okT_look hT h)

theorem sound_pick {o : Oper} {q x y : Operand} (ho : o.op = .pick q x y) : Sound P c o := by
  intro A hA B X w0 F0 F O a w δ hI k r hg Q
  simp only [actOf, ho] at hA
  refine data_sound hA hI hg (fun hx z hz => ?_) Q
  obtain ⟨d1, d2, d3, e, hz⟩ := arg3_some hz
  simp only [List.map_cons, List.map_nil, List.cons.injEq, and_true] at e
  obtain ⟨rfl, rfl, rfl⟩ := e
  have h1 := (hx q (by simp)).2
  have h2 := (hx x (by simp)).2
  have h3 := (hx y (by simp)).2
  rw [maxN_eq]
  obtain ⟨v, hv, hr⟩ := pick_run (P := P) h1 (RepB_le (Nat.le_max_left _ (lvOf c.K y)) h2) (RepB_le (Nat.le_max_right (lvOf c.K x) _) h3) hz
  refine ⟨v, ?_, hr⟩
  simp only [execOp, ho]
  simp only [Sem.run_bind, Sem.run_pure] at hv ⊢
  cases hb : (asBool (a.eval q)).run P w with
  | halt s t => rw [hb] at hv; simp at hv
  | ok b w' =>
    rw [hb] at hv
    simp only [Result.andThen_ok, Result.ok.injEq] at hv ⊢
    exact ⟨by rw [hv.1], hv.2⟩

theorem sound_binOp (hT : okT P c.T = true) {o : Oper} {op : BinOp} {t t' : Nat} {x y : Operand} (ho : o.op = .binOp op t x y t') : Sound P c o := by
  intro A hA B X w0 F0 F O a w δ hI k r hg Q
  simp only [actOf, ho] at hA
  obtain ⟨i, hi, hA⟩ := withT_some hA
  split at hA
  · rename_i hif
    refine data_sound hA hI hg (fun hx z hz => ?_) Q
    obtain ⟨d1, d2, e, hz⟩ := arg2_some hz
    simp only [List.map_cons, List.map_nil, List.cons.injEq, and_true] at e
    obtain ⟨rfl, rfl⟩ := e
    obtain ⟨v, hv, hr, hf⟩ := binI_run (P := P) (tok hT hi) hif x y (fun hn => by
      unfold isNilI at hn
      split at hn
      · exact ⟨_, rfl⟩
      · cases hn) (hx x (by simp)).2 (hx y (by simp)).2 hz
    exact ⟨v, run_v (by simp only [execOp, ho]) hv, RepB_sc hf hr⟩
  split at hA
  · rename_i hsl hny
    refine data_sound hA hI hg (fun hx z hz => ?_) Q
    obtain ⟨d1, d2, e, hz⟩ := arg2_some hz
    simp only [List.map_cons, List.map_nil, List.cons.injEq, and_true] at e
    obtain ⟨rfl, rfl⟩ := e
    have ey : y = .const (.slice none 0 0) := by
      unfold isNilS at hny
      split at hny
      · rfl
      · cases hny
    have ev : a.eval y = .slice none 0 0 := by rw [ey]; rfl
    obtain ⟨v, hv, hr, hf⟩ := binN_run (P := P) (tok hT hi) hsl x y (hx x (by simp)).2 hz
    rw [← ev] at hv
    exact ⟨v, run_v (by simp only [execOp, ho]) hv, RepB_sc hf hr⟩
  refine data_sound hA hI hg (fun hx z hz => ?_) Q
  obtain ⟨d1, d2, e, hz⟩ := arg2_some hz
  simp only [List.map_cons, List.map_nil, List.cons.injEq, and_true] at e
  obtain ⟨rfl, rfl⟩ := e
  obtain ⟨v, hv, hr, hf⟩ := bin_run (P := P) (tok hT hi) x y (hx x (by simp)).2 (hx y (by simp)).2 hz
  exact ⟨v, run_v (by simp only [execOp, ho]) hv, RepB_sc hf hr⟩

theorem sound_unOp {o : Oper} {op : UnOp} {t : Nat} {x : Operand} (ho : o.op = .unOp op t x) : Sound P c o := by
  intro A hA B X w0 F0 F O a w δ hI k r hg Q
  simp only [actOf, ho] at hA
  refine data_sound hA hI hg (fun hx z hz => ?_) Q
  obtain ⟨d1, e, hz⟩ := arg1_some hz
  simp only [List.map_cons, List.map_nil, List.cons.injEq, and_true] at e
  subst e
  obtain ⟨v, hv, hr, hf⟩ := un_run (P := P) (hx x (by simp)).2 hz
  exact ⟨v, run_v (by simp only [execOp, ho]) hv, RepB_sc hf hr⟩

theorem fieldOf_some {i ti : TI} {f off : Nat} (h : fieldOf c i f = some (off, ti)) : ∃ ty, i.fs[f]? = some (off, ty) ∧ look c.T ty = some ti := by
  unfold fieldOf at h
  split at h
  · rename_i o ty hf
    split at h
    · rename_i j hj
      simp at h
      obtain ⟨rfl, rfl⟩ := h
      rw [nthO_eq] at hf
      exact ⟨ty, hf, hj⟩
    · cases h
  · cases h

theorem sound_field (hT : okT P c.T = true) {o : Oper} {t f : Nat} {x : Operand} (ho : o.op = .field t x f) : Sound P c o := by
  intro A hA B X w0 F0 F O a w δ hI k r hg Q
  simp only [actOf, ho] at hA
  obtain ⟨i, hi, hA⟩ := withT_some hA
  split at hA
  case h_2 => cases hA
  rename_i off ti hf
  obtain ⟨ty, hf, hti⟩ := fieldOf_some hf
  refine data_sound hA hI hg (fun hx z hz => ?_) Q
  obtain ⟨d1, e, hz⟩ := arg1_some hz
  simp only [List.map_cons, List.map_nil, List.cons.injEq, and_true] at e
  subst e
  obtain ⟨y, hy, hr⟩ := fld_run (tok hT hi) (tok hT hti) hf (hx x (by simp)).2 hz
  exact ⟨y, run_v (by simp only [execOp, ho]) hy, .inr hr⟩

theorem sound_index (hT : okT P c.T = true) {o : Oper} {t : Nat} {x y : Operand} (ho : o.op = .index t x y) : Sound P c o := by
  intro A hA B X w0 F0 F O a w δ hI k r hg Q
  simp only [actOf, ho] at hA
  obtain ⟨i, hi, hA⟩ := withT_some hA
  unfold ixOf at hA
  split at hA
  · rename_i hs
    refine data_sound hA hI hg (fun hx z hz => ?_) Q
    obtain ⟨d1, d2, e, hz⟩ := arg2_some hz
    simp only [List.map_cons, List.map_nil, List.cons.injEq, and_true] at e
    obtain ⟨rfl, rfl⟩ := e
    obtain ⟨v, hv, hr, hf⟩ := char_run (P := P) (tok hT hi) hs (hx x (by simp)).2 (hx y (by simp)).2 hz
    exact ⟨v, run_v (by simp only [execOp, ho]) hv, RepB_sc hf hr⟩
  · split at hA
    · cases hA
    · rename_i n hn
      obtain ⟨e', he, hA⟩ := withT_some hA
      refine data_sound hA hI hg (fun hx z hz => ?_) Q
      obtain ⟨d1, d2, e, hz⟩ := arg2_some hz
      simp only [List.map_cons, List.map_nil, List.cons.injEq, and_true] at e
      obtain ⟨rfl, rfl⟩ := e
      obtain ⟨v, hv, hr⟩ := ixA_run (P := P) (tok hT hi) (tok hT he) (by intro h0; exact hn h0) rfl (hx x (by simp)).2 (hx y (by simp)).2 hz
      exact ⟨v, run_v (by simp only [execOp, ho]) hv, .inr hr⟩

theorem sound_makeFunc {o : Oper} {f : Nat} {u v : Array Operand} (ho : o.op = .makeFunc (.func f) u v) : Sound P c o := by
  intro A hA B X w0 F0 F O a w δ hI k r hg Q
  simp only [actOf, ho] at hA
  split at hA
  case h_3 => cases hA
  case h_2 =>
    rename_i x0 xs h1 h2
    refine data_sound hA hI hg (fun hx z hz => ?_) Q
    have e1 : u = #[] := by simpa using h1
    subst e1
    unfold cloD at hz
    split at hz
    case isFalse => cases hz
    rename_i hall
    cases hz
    refine ⟨.func (.func f) #[] (v.map a.eval), run_v (s := Instr.makeFunc (.func f) #[] (v.map a.eval)) (by simp [execOp, ho]) rfl, .inr ?_⟩
    simp only [RepV, RepC]
    refine ⟨(x0 :: xs).map a.eval, ?_, ?_⟩
    · have : v = (x0 :: xs).toArray := by rw [← h2]
      rw [this]
      simp
    · have key : ∀ ys : List Operand, (∀ y ∈ ys, y ∈ x0 :: xs) → (ys.map (opD δ)).all D.single = true → RepL w (FB F B (lvAll c.K (x0 :: xs))) (ys.map (opD δ)) (ys.map a.eval) := by
        intro ys
        induction ys with
        | nil => intro _ _; exact RepL_nil.2 rfl
        | cons y ys ih =>
          intro hm hs
          simp only [List.map_cons, List.all_cons, Bool.and_eq_true] at hs
          have h3 := (hx y (hm y (by simp))).2
          have hne : opD δ y ≠ .bad := fun e => by rw [e] at hs; simp [D.single] at hs
          have h4 := h3.rep hne
          rw [RepV_single hs.1] at h4
          exact RepL_cons.2 ⟨[a.eval y], ys.map a.eval, rfl, RepC_mono (FB_le (lvAll_mem (Nat.le_refl _) y (hm y (by simp)))) (fun _ _ => rfl) _ _ h4, ih (fun z hz => hm z (by simp [hz])) hs.2⟩
      exact key (x0 :: xs) (fun _ h => h) hall
  rename_i h1 h2
  refine data_sound hA hI hg (fun hx z hz => ?_) Q
  simp at hz
  subst hz
  have e1 : u = #[] := by simpa using h1
  have e2 : v = #[] := by simpa using h2
  subst e1 e2
  refine ⟨.func (.func f) #[] #[], run_v (s := Instr.makeFunc (.func f) #[] #[]) (by simp [execOp, ho]) rfl, .inr ?_⟩
  simp only [RepV, RepC]
  exact ⟨[], rfl, RepL_nil.2 rfl⟩

theorem srcOf_dat {K : List Kd} {t : Nat} {rd : List Nat} {lv : Nat} {r : Option Nat} (h : srcOf K (.tmp t) = some (rd, lv, r)) :
    (nthK K t = .dat lv ∧ rd = [t] ∧ r = none) ∨ (∃ z io, nthK K t = .own z lv io ∧ rd = [t] ∧ r = some t) ∨ (∃ q z io, nthK K t = .via q ∧ nthK K q = .own z lv io ∧ rd = [t, q] ∧ r = some q) := by
  simp only [srcOf] at h
  split at h
  · rename_i l hk
    simp at h
    obtain ⟨rfl, rfl, rfl⟩ := h
    exact .inl ⟨hk, rfl, rfl⟩
  · rename_i z l io hk
    simp at h
    obtain ⟨rfl, rfl, rfl⟩ := h
    exact .inr (.inl ⟨z, io, hk, rfl, rfl⟩)
  · rename_i q hk
    split at h
    · rename_i z l io hq
      simp at h
      obtain ⟨rfl, rfl, rfl⟩ := h
      exact .inr (.inr ⟨q, z, io, hk, hq, rfl, rfl⟩)
    · cases h
  · cases h

/-- What a slot owns, read as data: over all memory that is known and its own block. -/
theorem OwnV_rep {w : World} {F : Nat → Prop} {own : Nat → Prop} {z : Nat} {d : D} {y : Value} (h : OwnV w F own z d y) : RepV w (fun b => F b ∨ own b) d y := by
  obtain ⟨l, rfl, h2, h3⟩ := h
  simp only [RepV, RepC]
  rcases h3 with ⟨rfl, rfl⟩ | ⟨g, o, c, us, cs, e, rfl, a2, a3, a4, a5, a6, a7⟩
  · exact ⟨none, 0, [], rfl, Nat.le_refl _, RepL_nil.2 rfl, h2, fun h => absurd rfl h⟩
  · refine ⟨_, c, us, rfl, a2, RepL_mono (fun b hb => .inl hb) (fun _ _ => rfl) _ _ a5, h2, fun _ => ⟨g, o, rfl, .inr a7, fun i u hu => ?_⟩⟩
    simp [World.cell?, a3, a6 i u hu]

theorem Inv.own (h : Inv c B X w0 F0 F O a w δ) {s z lv : Nat} {io : Bool} (hk : nthK c.K s = .own z lv io) (hb : nth δ s ≠ .bad) : OwnV w (FB F B lv) (fun g => O g = some (s, 0) ∧ (io = false → B ≤ g)) z (nth δ s) (av a s) := by
  have h0 := (h.slot s).resolve_left hb
  rw [hk] at h0
  exact h0.resolve_left hb
theorem Inv.box (h : Inv c B X w0 F0 F O a w δ) {s n lv : Nat} {io : Bool} (hk : nthK c.K s = .box n lv io) (hb : nth δ s ≠ .bad) : BoxV w (FB F B lv) (fun g => O g = some (s, 0) ∧ (io = false → B ≤ g)) n (nth δ s) (av a s) := by
  have h0 := (h.slot s).resolve_left hb
  rw [hk] at h0
  exact h0.resolve_left hb
theorem Inv.via (h : Inv c B X w0 F0 F O a w δ) {s q : Nat} (hk : nthK c.K s = .via q) (hb : nth δ s ≠ .bad) : av a s = av a q ∧ nth δ s = .ref 0 0 ∧ nth δ q ≠ .bad ∧ isOwn c.K q = true := by
  have h0 := (h.slot s).resolve_left hb
  rw [hk] at h0
  exact h0
theorem Inv.ref (h : Inv c B X w0 F0 F O a w δ) {s q : Nat} (hk : nthK c.K s = .ref q) (hb : nth δ s ≠ .bad) : ∃ i f, nth δ s = .ref i f ∧ nth δ q ≠ .bad ∧ RefV (nthK c.K q) (av a q) i f (av a s) := by
  have h0 := (h.slot s).resolve_left hb
  rw [hk] at h0
  exact h0

theorem liveD_some {p x y : D} (h : liveD p x = some y) : p ≠ .bad ∧ x = y := by
  unfold liveD at h
  split at h
  · cases h
  · rename_i hp
    simp at h
    exact ⟨hp, h⟩

theorem RefV_ptr {k : Kd} {y p : Value} {i f : Nat} (h : RefV k y i f p) : ∃ g o, p = .pointer (some ⟨g, o, none⟩) := by
  unfold RefV at h
  split at h
  · obtain ⟨g, o, n, cc, _, e⟩ := h; exact ⟨g, _, e⟩
  · obtain ⟨g, _, e⟩ := h; exact ⟨g, _, e⟩
  · exact h.elim

theorem sound_nilCheck {o : Oper} {x : Operand} (ho : o.op = .nilCheck x) : Sound P c o := by
  intro A hA B X w0 F0 F O a w δ hI k r hg Q
  simp only [actOf, ho] at hA
  have dat : dataOp c o.dst [x] (lvOf c.K x) (arg1 nilD) = some A → o.wp P a w (Next c B X w0 F0 k r) Q := by
    intro hA
    refine data_sound hA hI hg (fun hx z hz => ?_) Q
    obtain ⟨d1, e, hz⟩ := arg1_some hz
    simp only [List.map_cons, List.map_nil, List.cons.injEq, and_true] at e
    subst e
    obtain ⟨h1, h2⟩ := nil_run (P := P) (hx x (by simp)).2 hz o x a.eval ho rfl
    exact ⟨_, h1, .inr h2⟩
  have run : ∀ t g o', x = .tmp t → av a t = .pointer (some ⟨g, o', none⟩) → (execOp a.eval o).run P w = .ok (.value (av a t)) w := by
    intro t g o' hx hv
    subst hx
    simp [execOp, ho, eval_tmp, hv]
  unfold ncOf at hA
  split at hA
  · rename_i t
    split at hA
    · rename_i n lv io hk
      split at hA
      · cases hA
      rename_i d hd
      split at hA
      case h_2 => cases hA
      rename_i rr hkd
      split at hA
      case h_2 => cases hA
      rename_i hrt
      rw [beq_iff] at hrt
      subst hrt
      cases hA
      refine one_sound hI hd hg (fun z hz => ?_) Q
      obtain ⟨d1, e, hz⟩ := arg1_some hz
      simp only [getAll, List.cons.injEq, and_true] at e
      subst e
      obtain ⟨h1, rfl⟩ := liveD_some hz
      obtain ⟨m, us, g, e, _, a1, _⟩ := hI.box hk h1
      refine ⟨_, run _ g 0 rfl a1, .inr ?_⟩
      rw [hkd]
      refine ⟨0, 0, rfl, h1, ?_⟩
      rw [hk]
      exact ⟨g, a1, a1⟩
    · rename_i rr hk
      split at hA
      · cases hA
      rename_i d hd
      split at hA
      case h_2 => cases hA
      rename_i r' hkd
      split at hA
      case h_2 => cases hA
      rename_i hrt
      rw [beq_iff] at hrt
      subst hrt
      cases hA
      refine one_sound hI hd hg (fun z hz => ?_) Q
      obtain ⟨d1, e, hz⟩ := arg1_some hz
      simp only [getAll, List.cons.injEq, and_true] at e
      subst e
      obtain ⟨h1, rfl⟩ := liveD_some hz
      obtain ⟨ii, ff, g1, g2, g3⟩ := hI.ref hk h1
      obtain ⟨g, o', e⟩ := RefV_ptr g3
      refine ⟨_, run _ g o' rfl e, .inr ?_⟩
      rw [hkd]
      exact ⟨ii, ff, g1, g2, g3⟩
    · exact dat hA
  · exact dat hA

/-- A slice that is read as a whole. -/
theorem src_rep (hI : Inv c B X w0 F0 F O a w δ) {t : Nat} {rd : List Nat} {lv : Nat} {q : Option Nat} (h : srcOf c.K (.tmp t) = some (rd, lv, q)) {d : D}
    (hd : (match rd with
      | [_] => some (nth (getAll δ rd) 0)
      | _ => liveD (nth (getAll δ rd) 0) (nth (getAll δ rd) 1)) = some d) : ∃ G, RepB w G d (av a t) := by
  rcases srcOf_dat h with ⟨hk, rfl, rfl⟩ | ⟨z, io, hk, rfl, rfl⟩ | ⟨s, z, io, hk, hs, rfl, rfl⟩
  · simp [getAll, nth] at hd
    subst hd
    exact ⟨_, hI.dat hk⟩
  · simp [getAll, nth] at hd
    subst hd
    by_cases hb : nth δ t = .bad
    · exact ⟨fun _ => True, .inl hb⟩
    · exact ⟨_, .inr (OwnV_rep (hI.own hk hb))⟩
  · simp only [getAll, nth] at hd
    obtain ⟨h1, rfl⟩ := liveD_some hd
    obtain ⟨g1, g2, g3, g4⟩ := hI.via hk h1
    rw [g1]
    exact ⟨_, .inr (OwnV_rep (hI.own hs g3))⟩

theorem lnOf_sound (hT : okT P c.T = true) {o : Oper} {x : Operand} {t : Nat} {str : Bool} (ho : o.op = .call { callee := .builtin .len, args := #[x], argTypes := #[t] }) {i : TI} (hi : look c.T t = some i)
    (hs : str = false → isSl i = true) (hs' : str = true → i.str = true) {A : Ac} (hA : lnOf c o.dst str x = some A) (hI : Inv c B X w0 F0 F O a w δ) {k : List D → Option Out} {r : Out} (hg : goAc c A δ k = some r) (Q : Exit → Act → World → Prop) : o.wp P a w (Next c B X w0 F0 k r) Q := by
  have run : ∀ (G : Nat → Prop) (d z : D), RepB w G d (a.eval x) → lenD str d = some z → ∃ v, (execOp a.eval o).run P w = .ok (.value v) w ∧ z = .v v ∧ flat v = true := by
    intro G d z hd hz
    obtain ⟨v, h1, h2, h3⟩ := len_run (P := P) (t := t) (ty := o.type) hd (fun h => ⟨_, (isSl_ok (tok hT hi) (hs h)).1⟩) (fun h => ((tok hT hi).str (hs' h)).1) hz
    refine ⟨v, ?_, h2, h3⟩
    simp only [execOp, ho, resolve, invoke, builtin, Sem.run_bind, Sem.run_pure, Result.andThen_ok, List.map_toArray, List.map_cons, List.map_nil, h1]
  have dat : ∀ A', dataOp c o.dst [x] 0 (arg1 (lenD str)) = some A' → goAc c A' δ k = some r → o.wp P a w (Next c B X w0 F0 k r) Q := by
    intro A' hA' hg'
    refine data_sound hA' hI hg' (fun hx z hz => ?_) Q
    obtain ⟨d1, e, hz⟩ := arg1_some hz
    simp only [List.map_cons, List.map_nil, List.cons.injEq, and_true] at e
    subst e
    obtain ⟨v, h1, h2, h3⟩ := run _ _ z (hx x (by simp)).2 hz
    exact ⟨v, h1, RepB_sc h3 h2⟩
  unfold lnOf at hA
  split at hA
  · rename_i t'
    split at hA
    · exact dat A hA hg
    · split at hA
      case h_2 => cases hA
      rename_i d rd lv q hd hsrc
      split at hA
      case h_2 => cases hA
      rename_i lv' hk
      cases hA
      refine one_sound hI hd hg (fun z hz => ?_) Q
      have key : ∃ G dd, RepB w G dd (av a t') ∧ lenD str dd = some z := by
        have hsrc' := hsrc
        rcases srcOf_dat hsrc' with ⟨h1, rfl, rfl⟩ | ⟨_, _, h1, rfl, rfl⟩ | ⟨s, _, _, h1, h2, rfl, rfl⟩
        · obtain ⟨G, hG⟩ := src_rep hI hsrc (d := nth δ t') (by simp [getAll, nth])
          exact ⟨G, _, hG, by simpa [getAll, nth] using hz⟩
        · obtain ⟨G, hG⟩ := src_rep hI hsrc (d := nth δ t') (by simp [getAll, nth])
          exact ⟨G, _, hG, by simpa [getAll, nth] using hz⟩
        · simp only [getAll, nth] at hz
          obtain ⟨dd, e1, e2⟩ := Option.bind_eq_some_iff.1 hz
          obtain ⟨G, hG⟩ := src_rep hI hsrc (d := dd) (by simpa [getAll, nth] using e1)
          exact ⟨G, dd, hG, e2⟩
      obtain ⟨G, dd, h1, h2⟩ := key
      obtain ⟨v, e1, e2, e3⟩ := run G dd z h1 h2
      exact ⟨v, e1, (RepB_sc (G := FB F B lv') e3 e2).imp id fun h => by rw [hk]; exact h⟩
  · exact dat A hA hg

end
end Go.V
/-
  Loads, addresses, parts, copies of data: they keep the invariant.
-/
namespace Go.V
open Go.RowKit

section
variable {P : Program} {c : Cx} {B : Nat} {X : Nat → Prop} {w0 : World} {F0 F : Nat → Prop} {O : Nat → Option (Nat × Nat)} {a : Act} {w : World} {δ : List D}

theorem cells_at {cs : Array Value} {e : Nat} {g o : Nat} {us : List Value} (hg : w.heap[g]? = some (.cells cs e (0, 0))) (h : ∀ (i : Nat) (u : Value), us[i]? = some u → cs[o + i]? = some u) : CellsAt w g o us := fun i u hu => by
  simp [World.cell?, hg, h i u hu]

/-- What a place in an owned object holds. -/
theorem at_rep (hI : Inv c B X w0 F0 F O a w δ) {q i f : Nat} {p : Value} (hb : nth δ q ≠ .bad) (hr : RefV (nthK c.K q) (av a q) i f p) {l : List D} (hl : atD (nth δ q) (.ref i f) = some l) :
    ∃ g o us, p = .pointer (some ⟨g, o, none⟩) ∧ RepL w (FB F B (rootLv c.K q)) l us ∧ l.all D.single = true ∧ CellsAt w g o us := by
  unfold RefV at hr
  split at hr
  · rename_i z lv io hk
    obtain ⟨g, o, n, cap, hy, rfl⟩ := hr
    obtain ⟨m, hd, hw, hrest⟩ := hI.own hk hb
    rw [hd] at hl
    simp only [atD] at hl
    obtain ⟨d, hdi, rfl⟩ := Option.map_eq_some_iff.1 hl
    rcases hrest with ⟨e, _⟩ | ⟨g', o', c', us, cs, e, a1, a2, a3, a4, a5, a6, a7⟩
    · rw [hy] at e; cases e
    rw [hy] at a1
    simp at a1
    obtain ⟨⟨rfl, rfl⟩, rfl, rfl⟩ := a1
    obtain ⟨p', mm, q', rfl, h1, h2, h3, _⟩ := RepL_get m us a5 hw i d hdi
    have hcell := cells_at (o := o) a3 a6
    have hrr : RepL w (FB F B lv) d.cells mm ∧ d.cells.all D.single = true := by
      rcases RepC_kind h3 with ⟨l, rfl⟩ | hs
      · simpa only [RepC, D.cells] using h3
      · rw [(width_single hs).2]
        exact ⟨RepL_cons.2 ⟨mm, [], by simp, h3, RepL_nil.2 rfl⟩, by simp [hs]⟩
    refine ⟨g, _, mm.drop f, rfl, ?_, all_drop hrr.2 f, ?_⟩
    · simp only [rootLv, hk]
      exact (RepL_cut _ _ hrr.2 hrr.1 f).2
    · rw [← h1]
      exact (CellsAt.part hcell).drop f
  · rename_i n lv io hk
    obtain ⟨g, hy, rfl⟩ := hr
    obtain ⟨m, us, g', e, hd, a1, a2, a3, a4, a5, a6⟩ := hI.box hk hb
    rw [hy] at a1
    simp at a1
    subst a1
    rw [hd] at hl
    simp only [atD, Option.some.injEq] at hl
    subst hl
    have hcell : CellsAt w g 0 us := cells_at a2 (fun i u hu => by simpa using hu)
    refine ⟨g, f, us.drop f, rfl, ?_, all_drop a4 f, by simpa using hcell.drop f⟩
    simp only [rootLv, hk]
    exact (RepL_cut _ _ a4 a3 f).2
  · exact hr.elim

theorem lvFit_sound {o : Oper} {rd : List Nat} {d lv l : Nat} {h : List D → Option D} {A : Ac} (hk : nthK c.K d = .dat l) (hd : o.dst = some d) (hA : mapO (fun h => Ac.one rd d h) (lvFit lv l h) = some A)
    (hI : Inv c B X w0 F0 F O a w δ) {k : List D → Option Out} {r : Out} (hg : goAc c A δ k = some r)
    (hrun : ∀ z, h (getAll δ rd) = some z → ∃ y, (execOp a.eval o).run P w = .ok (.value y) w ∧ RepB w (FB F B lv) z y) (Q : Exit → Act → World → Prop) : o.wp P a w (Next c B X w0 F0 k r) Q := by
  unfold lvFit at hA
  split at hA
  · rename_i hle
    rw [ble_iff] at hle
    cases hA
    refine one_sound hI hd hg (fun z hz => ?_) Q
    obtain ⟨y, h1, h2⟩ := hrun z hz
    exact ⟨y, h1, (RepB_le hle h2).imp id fun h => by rw [hk]; exact h⟩
  · split at hA
    case h_2 => cases hA
    cases hA
    refine one_sound hI hd hg (fun z hz => ?_) Q
    obtain ⟨z', hz', hc⟩ := Option.bind_eq_some_iff.1 hz
    obtain ⟨y, h1, h2⟩ := hrun z' hz'
    unfold chkV at hc
    split at hc
    case isFalse => cases hc
    rename_i hv
    cases hc
    refine ⟨y, h1, .inr ?_⟩
    rw [hk]
    refine RepV_isV hv (h2.rep ?_)
    intro e
    subst e
    simp [D.isV] at hv

theorem sound_load (hT : okT P c.T = true) {o : Oper} {t : Nat} {p : Operand} (ho : o.op = .load t p) : Sound P c o := by
  intro A hA B X w0 F0 F O a w δ hI k r hg Q
  simp only [actOf, ho] at hA
  have hA0 := withT_some hA
  clear hA
  obtain ⟨i, hi, hA⟩ := hA0
  have hti := tok hT hi
  unfold ldOf at hA
  split at hA
  case h_2 => cases hA
  rename_i q
  have hex : execOp a.eval o = (do pure (.value (← Instr.loadAt t (av a q)))) := by simp only [execOp, ho, eval_tmp]
  split at hA
  · rename_i lv hk
    refine data_sound hA hI hg (fun hx z hz => ?_) Q
    obtain ⟨d1, e, hz⟩ := arg1_some hz
    simp only [List.map_cons, List.map_nil, List.cons.injEq, and_true] at e
    subst e
    have hx' := hx (.tmp q) (by simp)
    simp only [lvOf, hk] at hx'
    obtain ⟨y, hy, hr⟩ := ld_run hti hx'.2 hz
    exact ⟨y, run_v hex hy, .inr hr⟩
  · rename_i n lv io hk
    split at hA
    · cases hA
    rename_i d hd
    split at hA
    case h_2 => cases hA
    rename_i l hkd
    refine lvFit_sound hkd hd hA hI hg (fun z hz => ?_) Q
    simp only [getAll, nth] at hz
    by_cases hb : nth δ q = .bad
    · rw [hb] at hz; simp [fldD] at hz
    obtain ⟨m, us, g, e, hd', a1, a2, a3, a4, a5, a6⟩ := hI.box hk hb
    rw [hd'] at hz
    simp only [fldD, List.drop_zero] at hz
    have hcell : CellsAt w g 0 us := cells_at a2 (fun i u hu => by simpa using hu)
    obtain ⟨y, hy, hr⟩ := load_run (P := P) hti a3 a4 hcell hz
    exact ⟨y, run_v hex (by rw [a1]; exact hy), .inr hr⟩
  · rename_i s hk
    split at hA
    · cases hA
    rename_i d hd
    split at hA
    case h_2 => cases hA
    rename_i l hkd
    refine lvFit_sound hkd hd hA hI hg (fun z hz => ?_) Q
    simp only [getAll, nth] at hz
    obtain ⟨m, hm, hz⟩ := Option.bind_eq_some_iff.1 hz
    have hb : nth δ q ≠ .bad := by
      intro e
      rw [e] at hm
      unfold atD at hm
      split at hm <;> first | (cases hm; done) | (rename_i h; cases h)
    obtain ⟨ii, f, h1, h2, h3⟩ := hI.ref hk hb
    rw [h1] at hm
    obtain ⟨g, o', us, e, g1, g2, g3⟩ := at_rep hI h2 h3 hm
    obtain ⟨y, hy, hr⟩ := load_run (P := P) hti g1 g2 g3 hz
    exact ⟨y, run_v hex (by rw [e]; exact hy), .inr hr⟩
  · cases hA

theorem sound_fieldAddr (hT : okT P c.T = true) {o : Oper} {t f : Nat} {p : Operand} (ho : o.op = .fieldAddr t p f) : Sound P c o := by
  intro A hA B X w0 F0 F O a w δ hI k r hg Q
  simp only [actOf, ho] at hA
  have hA0 := withT_some hA
  clear hA
  obtain ⟨i, hi, hA⟩ := hA0
  have hti := tok hT hi
  unfold faOf at hA
  split at hA
  case h_2 => cases hA
  rename_i q off ti hf
  have hf0 := fieldOf_some hf
  clear hf
  obtain ⟨ty, hf, _⟩ := hf0
  have hex : execOp a.eval o = (do pure (.value (← Instr.fieldAt t (av a q) f))) := by simp only [execOp, ho, eval_tmp]
  split at hA
  · rename_i lv hk
    refine data_sound hA hI hg (fun hx z hz => ?_) Q
    obtain ⟨d1, e, hz⟩ := arg1_some hz
    simp only [List.map_cons, List.map_nil, List.cons.injEq, and_true] at e
    subst e
    have hx' := hx (.tmp q) (by simp)
    simp only [lvOf, hk] at hx'
    obtain ⟨y, hy, hr⟩ := off_run hti hf hx'.2 hz
    exact ⟨y, run_v hex hy, .inr hr⟩
  · rename_i n lv io hk
    split at hA
    · cases hA
    rename_i d hd
    split at hA
    case h_2 => cases hA
    rename_i r' hkd
    split at hA
    case h_2 => cases hA
    rename_i hrq
    rw [beq_iff] at hrq
    subst hrq
    cases hA
    refine one_sound hI hd hg (fun z hz => ?_) Q
    obtain ⟨d1, e, hz⟩ := arg1_some hz
    simp only [getAll, List.cons.injEq, and_true] at e
    subst e
    obtain ⟨hb, rfl⟩ := liveD_some hz
    obtain ⟨m, us, g, e, hd', a1, a2, a3, a4, a5, a6⟩ := hI.box hk hb
    refine ⟨_, run_v hex (by rw [a1]; exact fieldAt_run hti hf g 0), .inr ?_⟩
    rw [hkd]
    refine ⟨0, off, rfl, hb, ?_⟩
    rw [hk]
    exact ⟨g, a1, by rw [Nat.zero_add]⟩
  · rename_i s hk
    split at hA
    · cases hA
    rename_i d hd
    split at hA
    case h_2 => cases hA
    rename_i r' hkd
    split at hA
    case h_2 => cases hA
    rename_i hrq
    rw [beq_iff] at hrq
    subst hrq
    cases hA
    refine one_sound hI hd hg (fun z hz => ?_) Q
    obtain ⟨d1, e, hz⟩ := arg1_some hz
    simp only [getAll, List.cons.injEq, and_true] at e
    subst e
    unfold refAdd at hz
    split at hz
    case h_2 => cases hz
    rename_i ii ff hd1
    simp at hz
    subst hz
    obtain ⟨i', f', h1, h2, h3⟩ := hI.ref hk (by rw [hd1]; simp)
    rw [hd1] at h1
    cases h1
    have key : ∃ g o, av a q = .pointer (some ⟨g, o, none⟩) ∧ RefV (nthK c.K s) (av a s) ii (ff + off) (.pointer (some ⟨g, o + off, none⟩)) := by
      unfold RefV at h3 ⊢
      split at h3
      · obtain ⟨g, o, n, cc, e1, e2⟩ := h3
        exact ⟨g, _, e2, g, o, n, cc, e1, by rw [Nat.add_assoc]⟩
      · obtain ⟨g, e1, e2⟩ := h3
        exact ⟨g, _, e2, g, e1, rfl⟩
      · exact h3.elim
    obtain ⟨g, o', e1, e2⟩ := key
    refine ⟨_, run_v hex (by rw [e1]; exact fieldAt_run hti hf g o'), .inr ?_⟩
    rw [hkd]
    exact ⟨ii, ff + off, rfl, h2, e2⟩
  · cases hA

theorem sound_indexAddr (hT : okT P c.T = true) {o : Oper} {t : Nat} {x ix : Operand} (ho : o.op = .indexAddr t x ix) : Sound P c o := by
  intro A hA B X w0 F0 F O a w δ hI k r hg Q
  simp only [actOf, ho] at hA
  have hA0 := withT_some hA
  clear hA
  obtain ⟨i, hi, hA⟩ := hA0
  have hti := tok hT hi
  unfold iaOf at hA
  split at hA
  case h_2 => cases hA
  rename_i q hix
  have hix' : lvOf c.K ix ≤ 2 := ble_iff.1 hix
  have hj := hI.opd hix'
  have hex : execOp a.eval o = (do pure (.value (← Instr.indexAt t (av a q) (a.eval ix)))) := by simp only [execOp, ho, eval_tmp]
  have own : ∀ (s : Nat) (z : D) (d : Nat), isOwn c.K s = true → nth δ s ≠ .bad → av a q = av a s → nthK c.K d = .ref s → isSl i = true → refI i.ez (nth δ s) (opD δ ix) = some z → ∃ y, (execOp a.eval o).run P w = .ok (.value y) w ∧ PutOk c.K B F a w δ d z y := by
    intro s z d hown hb hav hkd hsl hz
    obtain ⟨zz, lv, io, hks⟩ : ∃ zz lv io, nthK c.K s = .own zz lv io := by
      unfold isOwn at hown
      split at hown
      · exact ⟨_, _, _, ‹_›⟩
      · cases hown
    obtain ⟨l, hd, hw, hrest⟩ := hI.own hks hb
    rw [hd] at hz
    unfold refI at hz
    split at hz
    case h_2 => cases hz
    rename_i z' l' k' n e1 e2
    cases e1
    split at hz
    case isFalse => cases hz
    rename_i hc
    obtain ⟨rfl, h0, h1⟩ := hc
    simp at hz
    subst hz
    rw [e2] at hj
    obtain ⟨hj, _⟩ := RepB_v hj
    rcases hrest with ⟨_, e⟩ | ⟨g, o', cc, us, cs, e, a1, a2, a3, a4, a5, a6, a7⟩
    · subst e; simp at h1; omega
    refine ⟨_, run_v hex (by rw [hav, a1, hj]; exact indexAt_run hti hsl g o' _ cc k' n h0 h1), .inr ?_⟩
    rw [hkd]
    refine ⟨n.toNat, 0, rfl, hb, ?_⟩
    rw [hks]
    exact ⟨g, o', _, cc, a1, rfl⟩
  split at hA
  · rename_i hsl
    split at hA
    · rename_i lv hk
      refine data_sound hA hI hg (fun hx z hz => ?_) Q
      obtain ⟨d1, d2, e, hz⟩ := arg2_some hz
      simp only [List.map_cons, List.map_nil, List.cons.injEq, and_true] at e
      obtain ⟨rfl, rfl⟩ := e
      obtain ⟨l, hl, rfl⟩ := Option.map_eq_some_iff.1 hz
      have hx' := hx (.tmp q) (by simp)
      simp only [lvOf, hk] at hx'
      obtain ⟨y, hy, hr⟩ := elem_run hti hsl hx'.2 hj hl
      exact ⟨y, run_v hex hy, .inr hr⟩
    · rename_i z lv io hk
      split at hA
      · cases hA
      rename_i d hd
      split at hA
      case h_2 => cases hA
      rename_i r' hkd
      split at hA
      case h_2 => cases hA
      rename_i hrq
      rw [beq_iff] at hrq
      subst hrq
      cases hA
      refine one_sound hI hd hg (fun z hz => ?_) Q
      simp only [getAll] at hz
      rw [valsOf_eq] at hz
      obtain ⟨d1, e, hz⟩ := arg1_some hz
      simp only [List.map_cons, List.map_nil, List.cons.injEq, and_true] at e
      subst e
      refine own _ z d (by simp [isOwn, hk]) ?_ rfl hkd hsl hz
      intro e
      rw [e] at hz
      simp [refI] at hz
    · rename_i s hk
      split at hA
      · cases hA
      rename_i d hd
      split at hA
      case h_2 => cases hA
      rename_i r' hkd
      split at hA
      case h_2 => cases hA
      rename_i hrq hown
      rw [beq_iff] at hrq
      subst hrq
      cases hA
      refine one_sound hI hd hg (fun z hz => ?_) Q
      simp only [getAll] at hz
      obtain ⟨b, hb, hz⟩ := Option.bind_eq_some_iff.1 hz
      obtain ⟨hpb, rfl⟩ := liveD_some hb
      rw [valsOf_eq] at hz
      obtain ⟨d1, e, hz⟩ := arg1_some hz
      simp only [List.map_cons, List.map_nil, List.cons.injEq, and_true] at e
      subst e
      obtain ⟨g1, g2, g3, g4⟩ := hI.via hk hpb
      exact own _ z d g4 g3 g1 hkd hsl hz
    · cases hA
  · split at hA
    · cases hA
    rename_i n hn
    have hal : i.alen ≠ 0 := by intro h0; exact hn h0
    have step : ∀ (s : Nat) (ii f : Nat) (z : D) (p : D) (d : Nat) (g o' : Nat), nth δ s ≠ .bad → p = .ref ii f → av a q = .pointer (some ⟨g, o', none⟩) → (∀ x, RefV (nthK c.K s) (av a s) ii (f + x) (.pointer (some ⟨g, o' + x, none⟩))) → nthK c.K d = .ref s → refIx i.alen i.ez p (opD δ ix) = some z → ∃ y, (execOp a.eval o).run P w = .ok (.value y) w ∧ PutOk c.K B F a w δ d z y := by
      intro s ii f z p d g o' hb hp hav hR hkd hz
      subst hp
      unfold refIx at hz
      split at hz
      case h_2 => cases hz
      rename_i j f' k' m e1 e2
      cases e1
      split at hz
      case isFalse => cases hz
      rename_i hc
      simp at hz
      subst hz
      rw [e2] at hj
      obtain ⟨hj, _⟩ := RepB_v hj
      refine ⟨_, run_v hex (by rw [hav, hj]; exact indexAr_run hti hal g o' k' m hc.1 hc.2), .inr ?_⟩
      rw [hkd]
      exact ⟨ii, _, rfl, hb, hR _⟩
    split at hA
    · rename_i lv hk
      refine data_sound hA hI hg (fun hx z hz => ?_) Q
      obtain ⟨d1, d2, e, hz⟩ := arg2_some hz
      simp only [List.map_cons, List.map_nil, List.cons.injEq, and_true] at e
      obtain ⟨rfl, rfl⟩ := e
      have hx' := hx (.tmp q) (by simp)
      simp only [lvOf, hk] at hx'
      obtain ⟨y, hy, hr⟩ := ixD_run hti hal hx'.2 hj hz
      exact ⟨y, run_v hex hy, .inr hr⟩
    · rename_i nn lv io hk
      split at hA
      · cases hA
      rename_i d hd
      split at hA
      case h_2 => cases hA
      rename_i r' hkd
      split at hA
      case h_2 => cases hA
      rename_i hrq
      rw [beq_iff] at hrq
      subst hrq
      cases hA
      refine one_sound hI hd hg (fun z hz => ?_) Q
      simp only [getAll] at hz
      obtain ⟨b, hb, hz⟩ := Option.bind_eq_some_iff.1 hz
      obtain ⟨hpb, rfl⟩ := liveD_some hb
      rw [valsOf_eq] at hz
      obtain ⟨d1, e, hz⟩ := arg1_some hz
      simp only [List.map_cons, List.map_nil, List.cons.injEq, and_true] at e
      subst e
      obtain ⟨m, us, g, e, hd', a1, a2, a3, a4, a5, a6⟩ := hI.box hk hpb
      refine step _ 0 0 z _ d g 0 hpb rfl a1 (fun x => ?_) hkd hz
      rw [hk]
      exact ⟨g, a1, rfl⟩
    · rename_i s hk
      split at hA
      · cases hA
      rename_i d hd
      split at hA
      case h_2 => cases hA
      rename_i r' hkd
      split at hA
      case h_2 => cases hA
      rename_i hrq
      rw [beq_iff] at hrq
      subst hrq
      cases hA
      refine one_sound hI hd hg (fun z hz => ?_) Q
      simp only [getAll] at hz
      rw [valsOf_eq] at hz
      obtain ⟨d1, e, hz⟩ := arg1_some hz
      simp only [List.map_cons, List.map_nil, List.cons.injEq, and_true] at e
      subst e
      have hb : nth δ q ≠ .bad := by
        intro e
        rw [e] at hz
        simp [refIx] at hz
      obtain ⟨ii, f, h1, h2, h3⟩ := hI.ref hk hb
      have key : ∃ g o', av a q = .pointer (some ⟨g, o', none⟩) ∧ ∀ x, RefV (nthK c.K s) (av a s) ii (f + x) (.pointer (some ⟨g, o' + x, none⟩)) := by
        unfold RefV at h3 ⊢
        split at h3
        · obtain ⟨g, o, n, cc, e1, e2⟩ := h3
          exact ⟨g, _, e2, fun x => ⟨g, o, n, cc, e1, by rw [Nat.add_assoc]⟩⟩
        · obtain ⟨g, e1, e2⟩ := h3
          exact ⟨g, _, e2, fun x => ⟨g, e1, rfl⟩⟩
        · exact h3.elim
      obtain ⟨g, o', e1, e2⟩ := key
      exact step s ii f z _ d g o' h2 h1 e1 e2 hkd hz
    · cases hA

end
end Go.V
/-
  Parts of data, conversions, structs, the least and the most: they keep the invariant.
-/
namespace Go.V
open Go.RowKit

section
variable {P : Program} {c : Cx} {B : Nat} {X : Nat → Prop} {w0 : World} {F0 F : Nat → Prop} {O : Nat → Option (Nat × Nat)} {a : Act} {w : World} {δ : List D}

theorem LoV_of {lo : Option Operand} {G : Nat → Prop} (hl : RepB w G (opD δ (loOf lo)) (a.eval (loOf lo))) : LoV w G (opD δ (loOf lo)) (lo.map a.eval) := by
  cases lo with
  | some l => exact .inl ⟨_, rfl, hl⟩
  | none => exact .inr ⟨rfl, rfl⟩

theorem LoV_mono {lo : D} {v : Option Value} {G G' : Nat → Prop} (hG : ∀ b, G b → G' b) (h : LoV w G lo v) : LoV w G' lo v := by
  rcases h with ⟨y, h1, h2⟩ | h
  · exact .inl ⟨y, h1, h2.imp id fun h => RepV_mono hG (fun _ _ => rfl) h⟩
  · exact .inr h

theorem sound_slice_dat (hT : okT P c.T = true) {o : Oper} {t : Nat} {q lv : Nat} {lo hi : Option Operand} (ho : o.op = .slice t (.tmp q) lo hi none) {i : TI} (hi' : look c.T t = some i) (hsl : i.str = false → isSl i = true) (hk : nthK c.K q = .dat lv)
    {A : Ac} (hA : slOf c o.dst i (.tmp q) lo hi = some A) (hI : Inv c B X w0 F0 F O a w δ) {k : List D → Option Out} {r : Out} (hg : goAc c A δ k = some r) (Q : Exit → Act → World → Prop) : o.wp P a w (Next c B X w0 F0 k r) Q := by
  have hti := tok hT hi'
  simp only [slOf, hk] at hA
  cases hi with
  | some h =>
    simp only at hA
    refine data_sound hA hI hg (fun hx z hz => ?_) Q
    obtain ⟨d1, d2, d3, e, hz⟩ := arg3_some hz
    simp only [List.map_cons, List.map_nil, List.cons.injEq, and_true] at e
    obtain ⟨rfl, rfl, rfl⟩ := e
    have h1 := (hx (.tmp q) (by simp)).2
    have h2 := LoV_of (hx _ (.tail _ (.head _))).2
    have h3 := (hx h (by simp)).2
    simp only [lvOf, hk] at h1
    obtain ⟨v, hv, hr⟩ := slice_run (P := P) (G := fun _ => True) hti hsl h1 (LoV_mono (fun _ _ => trivial) h2) (h3.imp id fun h => RepV_mono (fun _ _ => trivial) (fun _ _ => rfl) h) hz
    exact ⟨v, run_v (by simp only [execOp, ho, Option.map_some, Option.map_none]) hv, .inr hr⟩
  | none =>
    simp only at hA
    refine data_sound hA hI hg (fun hx z hz => ?_) Q
    obtain ⟨d1, d2, e, hz⟩ := arg2_some hz
    simp only [List.map_cons, List.map_nil, List.cons.injEq, and_true] at e
    obtain ⟨rfl, rfl⟩ := e
    have h1 := (hx (.tmp q) (by simp)).2
    have h2 := LoV_of (hx _ (.tail _ (.head _))).2
    simp only [lvOf, hk] at h1
    obtain ⟨v, hv, hr⟩ := sliceHi_run (P := P) hti hsl h1 h2 hz
    exact ⟨v, run_v (by simp only [execOp, ho, Option.map_none]) hv, .inr hr⟩

theorem src_some {x : Operand} {rd : List Nat} {lv : Nat} {q : Option Nat} (h : srcOf c.K x = some (rd, lv, q)) (hne : rd ≠ []) : ∃ t, x = .tmp t := by
  unfold srcOf at h
  split at h
  · exact ⟨_, rfl⟩
  · simp at h
    exact absurd h.1.symm (by simpa using hne)
  · cases h

theorem sound_convert (hT : okT P c.T = true) {o : Oper} {s t : Nat} {x : Operand} (ho : o.op = .convert s t x) : Sound P c o := by
  intro A hA B X w0 F0 F O a w δ hI k r hg Q
  simp only [actOf, ho] at hA
  have hA0 := withT_some hA
  clear hA
  obtain ⟨si, hs, hA⟩ := hA0
  have hA0 := withT_some hA
  clear hA
  obtain ⟨di, hd, hA⟩ := hA0
  have hsi := tok hT hs
  have hdi := tok hT hd
  unfold cvOf at hA
  split at hA
  · rename_i e1 e2 e3
    split at hA
    case h_2 => cases hA
    rename_i d rd lv q hdst hsrc
    split at hA
    case h_2 => cases hA
    rename_i lv' hk hb
    cases hA
    unfold byteE at hb
    split at hb
    case h_2 => cases hb
    rename_i hsl
    split at hb
    case h_2 => cases hb
    rename_i ei hei
    split at hb
    case h_2 => cases hb
    rename_i hik
    refine one_sound hI hdst hg (fun z hz => ?_) Q
    have hne : rd ≠ [] := by
      intro e
      subst e
      cases hz
    obtain ⟨t', rfl⟩ := src_some hsrc hne
    have key : ∃ G dd, RepB w G dd (av a t') ∧ strD dd = some z := by
      have hsrc' := hsrc
      rcases srcOf_dat hsrc' with ⟨h1, rfl, rfl⟩ | ⟨_, _, h1, rfl, rfl⟩ | ⟨s, _, _, h1, h2, rfl, rfl⟩
      · obtain ⟨G, hG⟩ := src_rep hI hsrc (d := nth δ t') (by simp [getAll, nth])
        exact ⟨G, _, hG, by simpa [getAll, nth] using hz⟩
      · obtain ⟨G, hG⟩ := src_rep hI hsrc (d := nth δ t') (by simp [getAll, nth])
        exact ⟨G, _, hG, by simpa [getAll, nth] using hz⟩
      · simp only [getAll, nth] at hz
        obtain ⟨dd, e1, e2⟩ := Option.bind_eq_some_iff.1 hz
        obtain ⟨G, hG⟩ := src_rep hI hsrc (d := dd) (by simpa [getAll, nth] using e1)
        exact ⟨G, dd, hG, e2⟩
    obtain ⟨G, dd, h1, h2⟩ := key
    have hdd : dd ≠ .bad := by
      intro e
      subst e
      simp [strD] at h2
    obtain ⟨v, g1, g2, g3⟩ := str_run (P := P) hsi hdi (tok hT hei) hsl hik e1 (h1.rep hdd) h2
    refine ⟨v, run_v (by simp only [execOp, ho, eval_tmp]) g1, (RepB_sc (G := FB F B lv') g3 g2).imp id fun h => by rw [hk]; exact h⟩
  · refine data_sound hA hI hg (fun hx z hz => ?_) Q
    obtain ⟨d1, e, hz⟩ := arg1_some hz
    simp only [List.map_cons, List.map_nil, List.cons.injEq, and_true] at e
    subst e
    obtain ⟨v, g1, g2, g3⟩ := conv_run (P := P) hsi hdi (hx x (by simp)).2 hz
    exact ⟨v, run_v (by simp only [execOp, ho]) g1, RepB_sc g3 g2⟩

theorem RepBs_of {G : Nat → Prop} : ∀ (xs : List Operand), (∀ x ∈ xs, RepB w G (opD δ x) (a.eval x)) → RepBs w G (xs.map (opD δ)) (xs.map a.eval)
  | [], _ => trivial
  | x :: xs, h => ⟨h x (by simp), RepBs_of xs fun y hy => h y (by simp [hy])⟩

theorem lvAll_le (K : List Kd) : ∀ {xs : List Operand}, ∀ x ∈ xs, lvOf K x ≤ lvAll K xs
  | y :: ys, x, hx => by
    simp only [lvAll, maxN_eq]
    rcases List.mem_cons.1 hx with rfl | hx
    · omega
    · have := lvAll_le K x hx
      omega

theorem places_ok {P : Program} : ∀ (fs : List Field) (l : List (Nat × Nat)), fsOk P fs l = true → ∃ places, fs.mapM (fun f => (P.info? f.type).map fun i => (f.offset, i.size)) = some places ∧
    ∀ (f : Nat) (fl : Field), fs[f]? = some fl → ∃ y, P.info? fl.type = some y ∧ places[f]? = some (fl.offset, y.size)
  | [], l, _ => ⟨[], by simp, by simp⟩
  | g :: fs, [], h => by simp [fsOk] at h
  | g :: fs, (o, t) :: l, h => by
    simp only [fsOk, Bool.and_eq_true, beq_iff_eq] at h
    obtain ⟨⟨⟨h1, h2⟩, h3⟩, h4⟩ := h
    obtain ⟨places, hp, hq⟩ := places_ok fs l h4
    split at h3
    case h_2 => cases h3
    rename_i x hx
    refine ⟨(g.offset, x.size) :: places, by simp [List.mapM_cons, h2, hx, hp], fun f fl hf => ?_⟩
    cases f with
    | zero =>
      simp at hf
      subst hf
      exact ⟨x, by rw [h2]; exact hx, by simp⟩
    | succ f => exact hq f fl (by simpa using hf)

theorem partsFs_ok (hT : okT P c.T = true) {t : Nat} {i : TI} (hi : TOk P t i) {fs : List Field} {arr : Array Field} (hu : P.underlying t = some (.struct arr)) (hfs : arr.toList = fs) {places : List (Nat × Nat)}
    (hq : ∀ (f : Nat) (fl : Field), fs[f]? = some fl → ∃ y, P.info? fl.type = some y ∧ places[f]? = some (fl.offset, y.size)) (ρ : Operand → Value) :
    ∀ (parts : List (Nat × Operand)) (ps : List (Nat × Nat)), partsFs c i parts = some ps → (parts.map fun p => (p.1, ρ p.2)).map (fun p => places.toArray[p.1]?) = ps.map some
  | [], ps, h => by
    simp [partsFs] at h
    subst h
    rfl
  | (f, x) :: parts, ps, h => by
    simp only [partsFs] at h
    split at h
    case h_2 => cases h
    rename_i off ti l hf hl
    simp at h
    subst h
    have ih := partsFs_ok hT hi hu hfs hq ρ parts l hl
    obtain ⟨ty, h1, h2⟩ := fieldOf_some hf
    obtain ⟨fs', fl, g1, g2, g3, g4, _⟩ := hi.fs _ _ _ h1
    rw [hu] at g1
    simp at g1
    subst g1
    obtain ⟨y, e1, e2⟩ := hq f fl (by rw [← hfs]; simpa using g2)
    obtain ⟨xx, _, k1, k2, _⟩ := (tok hT h2).info
    rw [g4, k1] at e1
    cases e1
    simp only [List.map_cons, List.cons.injEq]
    exact ⟨by rw [g3, k2] at e2; simpa using e2, ih⟩

theorem partsAs_ok (z : Nat) (ρ : Operand → Value) : ∀ (parts : List (Nat × Operand)), (parts.map fun p => (p.1, ρ p.2)).map (fun p => some (p.1 * z, z)) = (partsAs z parts).map some
  | [] => rfl
  | p :: parts => by simp [partsAs, partsAs_ok z ρ parts]

theorem sound_build (hT : okT P c.T = true) {o : Oper} {t : Nat} {parts : Array (Nat × Operand)} (ho : o.op = .build t parts) : Sound P c o := by
  intro A hA B X w0 F0 F O a w δ hI k r hg Q
  simp only [actOf, ho] at hA
  have hA0 := withT_some hA
  clear hA
  obtain ⟨i, hi, hA⟩ := hA0
  have hti := tok hT hi
  obtain ⟨x, z, hinf, hsz, hzz, hzo, haz⟩ := hti.info
  have main : ∀ (ps : List (Nat × Nat)) (place : Nat → Option (Nat × Nat)) (A' : Ac), dataOp c o.dst (mapD (fun p => p.2) parts.toList) (lvAll c.K (mapD (fun p => p.2) parts.toList)) (bldD ps i.zero) = some A' → goAc c A' δ k = some r →
      (parts.toList.map fun p => (p.1, a.eval p.2)).map (fun p => place p.1) = ps.map some → (∀ vs cells, vs = (parts.map fun p => (p.1, a.eval p.2)) → Instr.fill place z.cells vs.toList = some cells → P.built t vs.toList = some cells) →
      o.wp P a w (Next c B X w0 F0 k r) Q := by
    intro ps place A' hA' hg' hp hb
    refine data_sound hA' hI hg' (fun hx zz hz => ?_) Q
    unfold bldD at hz
    obtain ⟨cs', h1, rfl⟩ := Option.map_eq_some_iff.1 hz
    obtain ⟨zr, zs⟩ := zeroOk_rep (w := w) (F := FB F B (lvAll c.K (mapD (fun p => p.2) parts.toList))) _ _ hzo
    have hbs : RepBs w (FB F B (lvAll c.K (mapD (fun p => p.2) parts.toList))) ((mapD (fun p => p.2) parts.toList).map (opD δ)) ((mapD (fun p => p.2) parts.toList).map a.eval) := RepBs_of _ fun x hxm => RepB_le (lvAll_le _ x hxm) (hx x hxm).2
    obtain ⟨us', e1, e2, e3⟩ := fill_run place (parts.toList.map fun p => (p.1, a.eval p.2)) ps _ i.zero cs' z.cells.toList hp (by rw [mapD_eq] at hbs ⊢; simpa [List.map_map, Function.comp_def] using hbs) zs zr h1
    have hbuilt := hb (parts.map fun p => (p.1, a.eval p.2)) us'.toArray rfl (by simpa using e1)
    refine ⟨.agg us'.toArray, run_v (s := Instr.build t (parts.map fun (i, x) => (i, a.eval x))) (by simp only [execOp, ho]) (run_build w t _ _ hbuilt), .inr ?_⟩
    simp only [RepV]
    exact ⟨us', rfl, e2, e3⟩
  unfold buOf at hA
  simp only at hA
  split at hA
  · rename_i hal hag
    split at hA
    case h_2 => cases hA
    rename_i ps hps
    obtain ⟨arr, hu, hfs⟩ := hti.st hag hal
    obtain ⟨places, hp, hq⟩ := places_ok arr.toList i.fs hfs
    refine main ps (places.toArray[·]?) _ hA hg (partsFs_ok hT hti hu rfl hq _ parts.toList ps hps) (fun vs cells hvs hf => ?_)
    unfold Program.built
    simp only [hinf, hu, hzz, hp]
    exact hf
  · cases hA
  · rename_i h1 h2
    have hal : i.alen ≠ 0 := by
      intro e
      cases hg : i.agg
      · exact h2 e hg
      · exact h1 e hg
    obtain ⟨hu, hag, hez, hn, y, hy, hys⟩ := hti.ar hal
    refine main _ (fun j => some (j * i.ez, i.ez)) _ hA hg (partsAs_ok i.ez _ parts.toList) (fun vs cells hvs hf => ?_)
    unfold Program.built
    simp only [hinf, hu, hzz, hy, hys]
    exact hf

theorem foldM_sound {o : Oper} {bi : Builtin} {xs : List Operand} {q : Call} (ho : o.op = .call q) (hq : q.callee = .builtin bi) (hxs : q.args.toList = xs) {f : D → D → Option D} {g : Value → Value → Sem Value}
    (hf : ∀ (w : World) (G : Nat → Prop) (a b z : D) (x y : Value), RepB w G a x → RepB w G b y → f a b = some z → ∃ v, (g x y).run P w = .ok v w ∧ z = .v v ∧ flat v = true)
    (hb : ∀ (x : Value) (rest : List Value) (v : Value), q.args.map a.eval = (x :: rest).toArray → (rest.foldlM g x).run P w = .ok v w → (builtin bi q.argTypes o.type (q.args.map fun | .const _ => true | _ => false) (q.args.map a.eval)).run P w = .ok (.value v) w)
    {A : Ac} (hA : dataOp c o.dst xs 0 (fold1 f) = some A) (hI : Inv c B X w0 F0 F O a w δ) {k : List D → Option Out} {r : Out} (hg : goAc c A δ k = some r) (Q : Exit → Act → World → Prop) : o.wp P a w (Next c B X w0 F0 k r) Q := by
  refine data_sound hA hI hg (fun hx z hz => ?_) Q
  have hG : ∀ y ∈ xs, RepB w (FB F B 2) (opD δ y) (a.eval y) := fun y hy => RepB_le (hx y hy).1 (hx y hy).2
  match xs, hxs, hG, hz with
  | [], _, _, hz => simp [fold1] at hz
  | [_], _, _, hz => simp [fold1] at hz
  | x :: y :: xs, hxs, hG, hz =>
    simp only [List.map_cons, fold1] at hz
    obtain ⟨v, h1, h2, h3⟩ := fold_run2 (P := P) (fun a b z x y => hf w (FB F B 2) a b z x y) (ds := xs.map (opD δ)) (ys := xs.map a.eval) (hG x (by simp)) (hG y (by simp)) (RepBs_of xs fun y hy => hG y (by simp [hy])) hz
    have he : q.args.map a.eval = (a.eval x :: (a.eval y :: xs.map a.eval)).toArray := by
      rw [← Array.toArray_toList (xs := q.args), hxs]
      simp
    have hrun := hb _ _ _ he h1
    refine ⟨v, ?_, RepB_sc h3 h2⟩
    simp only [execOp, ho, resolve, hq, Sem.run_bind, Sem.run_pure, Result.andThen_ok, invoke]
    exact hrun

end
end Go.V
/-
  Steps that write several slots, or memory: the general steps.
-/
namespace Go.V
open Go.RowKit

/-- What may stand in a slot that is written, with no word of other slots. -/
def SlotU (K : List Kd) (B : Nat) (F : Nat → Prop) (O : Nat → Option (Nat × Nat)) (a : Act) (w : World) (s : Nat) (d : D) : Prop :=
  d = .bad ∨ match nthK K s with
    | .via _ => False
    | .ref _ => False
    | .tup ms => ∃ l vs, d = .tup l ∧ av a s = .tuple vs ∧ ∀ i, Lone B F O w (s, i + 1) (nthK ms i) (nth l i) (vs.getD i undef)
    | .no => True
    | k => Lone B F O w (s, 0) k d (av a s)

section
variable {P : Program} {c : Cx} {B : Nat} {X : Nat → Prop} {w0 : World} {F0 F : Nat → Prop} {O : Nat → Option (Nat × Nat)} {a : Act} {w : World} {δ : List D}

theorem SlotU.ok {K : List Kd} {F : Nat → Prop} {O : Nat → Option (Nat × Nat)} {a : Act} {w : World} {δ : List D} {s : Nat} (h : SlotU K B F O a w s (nth δ s)) : SlotOk K B F O a w δ s := by
  unfold SlotU at h
  unfold SlotOk
  rcases h with h | h
  · exact .inl h
  · refine .inr ?_
    generalize nthK K s = k at h
    cases k <;> first | exact h | exact h.elim

/-- Several slots written, memory changed. -/
theorem Inv.many (h : Inv c B X w0 F0 F O a w δ) {hw cw : List Nat} {outs : List D} {F' : Nat → Prop} {O' : Nat → Option (Nat × Nat)} {a' : Act} {w' : World}
    (hlen : outs.length = (hw ++ cw).length) (la : a'.tmps.size = a.tmps.size) (df : a'.defers = a.defers) (hav : ∀ s, s ∉ hw → av a' s = av a s)
    (hcw : ∀ r ∈ cw, r ∉ hw → nth δ r ≠ .bad → nth (setMany δ (hw ++ cw) outs) r ≠ .bad)
    (hU : ∀ s ∈ hw ++ cw, SlotU c.K B F' O' a' w' s (nth (setMany δ (hw ++ cw) outs) s))
    (hF : ∀ b, F b → F' b) (hw' : ∀ b, F b → w'.heap[b]? = w.heap[b]?)
    (ho : ∀ b p, O b = some p → p.1 ∉ hw ++ cw → O' b = some p ∧ w'.heap[b]? = w.heap[b]?)
    (fl : ∀ b, F' b → b < w'.heap.size ∧ O' b = none) (ol : ∀ b p, O' b = some p → b < w'.heap.size ∧ (B ≤ b ∨ X b)) (fn : ∀ b, F' b → F b ∨ B ≤ b) (sz : w.heap.size ≤ w'.heap.size)
    (os : w'.os = w.os) (tape : w'.tape = w.tape) (output : w'.output = w.output) (keep : ∀ b, b < B → ¬ X b → w'.heap[b]? = w.heap[b]?) :
    Inv c B X w0 F0 F' O' a' w' (setMany δ (hw ++ (cw ++ depsAll c.K hw)) outs) := by
  rw [← List.append_assoc, setMany_append _ _ _ _ hlen]
  have nd : ∀ s, nth (setMany (setMany δ (hw ++ cw) outs) (depsAll c.K hw) []) s = nth (setMany δ (hw ++ cw) outs) s ∨ nth (setMany (setMany δ (hw ++ cw) outs) (depsAll c.K hw) []) s = .bad := fun s => nth_setMany_or _ _ s
  refine h.step (fun s => s ∈ hw ++ cw) la (by rw [len_setMany, len_setMany]) df (fun s hs => ⟨hav s fun hm => hs (List.mem_append_left _ hm), ?_⟩) hF hw' ho (fun s r hs hv hb => ?_) (fun s hs => ?_) fl ol fn sz os tape output keep
  · rcases nd s with e | e
    · exact .inl (e.trans (nth_setMany_notin _ _ _ _ hs))
    · exact .inr e
  · by_cases hr : r ∈ hw
    · exact absurd (nth_kill _ _ _ (mem_depsAll hv hw hr)) hb
    · refine ⟨hav r hr, ?_⟩
      have e : nth (setMany (setMany δ (hw ++ cw) outs) (depsAll c.K hw) []) s = nth (setMany δ (hw ++ cw) outs) s := (nd s).resolve_right hb
      rw [e, nth_setMany_notin _ _ _ _ hs] at hb
      obtain ⟨h1, h2⟩ := h.root hv hb
      rw [nth_setMany_notin _ _ _ _ (root_notinAll h1 hw)]
      by_cases hc : r ∈ cw
      · exact hcw r hc hr h2
      · rw [nth_setMany_notin _ _ _ _ (fun hm => (List.mem_append.1 hm).elim hr hc)]
        exact h2
  · rcases nd s with e | e
    · refine SlotU.ok ?_
      rw [e]
      exact hU s hs
    · exact .inl e

/-- The block of a value. -/
def blk : Value → Option Nat
  | .slice (some ⟨g, _, _⟩) _ _ => some g
  | .pointer (some ⟨g, _, _⟩) => some g
  | _ => none
def giveO (O : Nat → Option (Nat × Nat)) (y : Value) (x : Option (Nat × Nat)) : Nat → Option (Nat × Nat) := fun b => if blk y = some b then x else O b
def addF (F : Nat → Prop) (y : Value) : Nat → Prop := fun b => F b ∨ blk y = some b

theorem OwnV.blk {F : Nat → Prop} {own : Nat → Prop} {z : Nat} {d : D} {y : Value} (h : OwnV w F own z d y) : ∀ b, blk y = some b → own b ∧ b < w.heap.size := by
  intro b hb
  obtain ⟨l, _, _, h3⟩ := h
  rcases h3 with ⟨rfl, _⟩ | ⟨g, o, c, us, cs, e, rfl, a2, a3, a4, a5, a6, a7⟩
  · simp [V.blk] at hb
  · simp [V.blk] at hb
    subst hb
    exact ⟨a7, (Array.getElem?_eq_some_iff.1 a3).1⟩
theorem OwnV.own {F : Nat → Prop} {own own' : Nat → Prop} {z : Nat} {d : D} {y : Value} (h : OwnV w F own z d y) (ho : ∀ b, V.blk y = some b → own b → own' b) : OwnV w F own' z d y := by
  obtain ⟨l, h1, h2, h3⟩ := h
  refine ⟨l, h1, h2, ?_⟩
  rcases h3 with h3 | ⟨g, o, c, us, cs, e, rfl, a2, a3, a4, a5, a6, a7⟩
  · exact .inl h3
  · exact .inr ⟨g, o, c, us, cs, e, rfl, a2, a3, a4, a5, a6, ho g rfl a7⟩
theorem OwnV_mono' {w w' : World} {F F' : Nat → Prop} {own own' : Nat → Prop} {z : Nat} {d : D} {y : Value} (hF : ∀ b, F b → F' b) (hw : ∀ b, F b → w'.heap[b]? = w.heap[b]?)
    (ho : ∀ g, V.blk y = some g → own g → own' g ∧ w'.heap[g]? = w.heap[g]?) (h : OwnV w F own z d y) : OwnV w' F' own' z d y := by
  obtain ⟨l, h1, h2, h3⟩ := h
  refine ⟨l, h1, h2, ?_⟩
  rcases h3 with h3 | ⟨g, o, c, us, cs, e, rfl, a2, a3, a4, a5, a6, a7⟩
  · exact .inl h3
  · exact .inr ⟨g, o, c, us, cs, e, rfl, a2, (ho g rfl a7).2.trans a3, a4, RepL_mono hF hw _ _ a5, a6, (ho g rfl a7).1⟩

theorem setMany_dead : ∀ (ts : List Nat) (δ : List D) (s : Nat), s ∈ ts → nth (setMany δ ts (ts.map fun _ => D.bad)) s = .bad
  | t :: ts, δ, s, h => by
    simp only [List.map_cons, setMany]
    by_cases hs : s ∈ ts
    · exact setMany_dead ts _ s hs
    · rw [nth_setMany_notin _ _ _ _ hs]
      have : s = t := by simpa [hs] using h
      subst this
      rw [nth_setAt_eq]
      split <;> rfl

theorem newIn_some {K : List Kd} {d z lv : Nat} (h : newIn K d z lv = true) : (∃ l, nthK K d = .own z l false ∧ lv ≤ l) ∨ ∃ l, nthK K d = .dat l ∧ 1 ≤ l ∧ lv ≤ l := by
  unfold newIn at h
  split at h
  · rename_i z' l hk
    split at h
    · rename_i hz
      rw [beq_iff] at hz
      subst hz
      exact .inl ⟨l, hk, ble_iff.1 h⟩
    · cases h
  · rename_i l hk
    split at h
    · rename_i h1
      exact .inr ⟨l, hk, ble_iff.1 h1, ble_iff.1 h⟩
    · cases h
  · cases h

theorem nth_install {δ : List D} {d s : Nat} {ts : List Nat} {x : D} (hs : s ∈ d :: ts) : nth (setMany δ (d :: ts) (x :: ts.map fun _ => D.bad)) s = .bad ∨ (s = d ∧ d < δ.length ∧ nth (setMany δ (d :: ts) (x :: ts.map fun _ => D.bad)) s = x) := by
  simp only [setMany]
  by_cases ht : s ∈ ts
  · exact .inl (setMany_dead ts _ s ht)
  · rw [nth_setMany_notin _ _ _ _ ht]
    have : s = d := by simpa [ht] using hs
    subst this
    rw [nth_setAt_eq]
    split
    · exact .inr ⟨rfl, ‹_›, rfl⟩
    · exact .inl rfl

/-- A slice is put into a slot: one of new memory, or one that other slots gave up. -/
theorem Inv.install (h : Inv c B X w0 F0 F O a w δ) {d z lv : Nat} {ts : List Nat} {x : D} {y : Value} {w' : World} (hk : newIn c.K d z lv = true)
    (hv : OwnV w' (FB F B lv) (fun g => B ≤ g ∧ (w.heap.size ≤ g ∨ ∃ p, O g = some p ∧ p.1 ∈ ts)) z x y)
    (sz : w.heap.size ≤ w'.heap.size) (hw : ∀ b, b < w.heap.size → (∀ p, O b = some p → p.1 ∉ ts) → w'.heap[b]? = w.heap[b]?)
    (os : w'.os = w.os) (tape : w'.tape = w.tape) (output : w'.output = w.output) :
    ∃ F' O', Inv c B X w0 F0 F' O' (a.put (some d) y) w' (setMany δ ((d :: ts) ++ ([] ++ depsAll c.K (d :: ts))) (x :: ts.map fun _ => .bad)) := by
  have hblk : ∀ b, V.blk y = some b → (B ≤ b ∧ (w.heap.size ≤ b ∨ ∃ p, O b = some p ∧ p.1 ∈ ts)) ∧ b < w'.heap.size := hv.blk
  have hFb : ∀ b, F b → V.blk y ≠ some b := fun b hb e => by
    obtain ⟨⟨_, h1⟩, _⟩ := hblk b e
    obtain ⟨h2, h3⟩ := h.fl b hb
    rcases h1 with h1 | ⟨p, h1, _⟩
    · omega
    · rw [h3] at h1; cases h1
  have hwF : ∀ b, F b → w'.heap[b]? = w.heap[b]? := fun b hb => hw b (h.fl b hb).1 fun p hp => by rw [(h.fl b hb).2] at hp; cases hp
  have hwK : ∀ b, b < B → ¬ X b → w'.heap[b]? = w.heap[b]? := fun b hb hx => hw b (Nat.lt_of_lt_of_le hb h.bb) fun p hp => by
    rcases (h.ol b p hp).2 with h1 | h1
    · omega
    · exact absurd h1 hx
  have hoO : ∀ (x' : Option (Nat × Nat)) b p, O b = some p → p.1 ∉ (d :: ts) ++ [] → giveO O y x' b = some p ∧ w'.heap[b]? = w.heap[b]? := fun x' b p hp hm => by
    have hm' : p.1 ∉ ts := fun hm' => hm (by simp [hm'])
    have hlt := (h.ol b p hp).1
    refine ⟨?_, hw b hlt fun p' hp' => by rw [hp] at hp'; cases hp'; exact hm'⟩
    unfold giveO
    rw [if_neg]
    · exact hp
    · intro e
      obtain ⟨⟨_, h1⟩, _⟩ := hblk b e
      rcases h1 with h1 | ⟨p', h1, h2⟩
      · omega
      · rw [hp] at h1; cases h1; exact hm' h2
  have hol : ∀ (x' : Option (Nat × Nat)) b p, giveO O y x' b = some p → b < w'.heap.size ∧ (B ≤ b ∨ X b) := fun x' b p hp => by
    unfold giveO at hp
    split at hp
    · rename_i e
      exact ⟨(hblk b e).2, .inl (hblk b e).1.1⟩
    · obtain ⟨h1, h2⟩ := h.ol b p hp
      exact ⟨by omega, h2⟩
  have hav : ∀ s, s ∉ d :: ts → av (a.put (some d) y) s = av a s := fun s hs => av_put_ne fun e => hs (by simp [e])
  have hlen : (x :: ts.map fun _ => D.bad).length = ((d :: ts) ++ []).length := by simp
  rcases newIn_some hk with ⟨l, hk, hl⟩ | ⟨l, hk, h1l, hl⟩
  · refine ⟨F, giveO O y (some (d, 0)), h.many hlen size_put rfl hav (by simp) (fun s hs => ?_) (fun _ hb => hb) hwF (hoO _) (fun b hb => ?_) (hol _) (fun _ hb => .inl hb) sz os tape output hwK⟩
    · rw [List.append_nil] at hs ⊢
      rcases nth_install (δ := δ) (x := x) hs with e | ⟨rfl, hd, e⟩
      · exact .inl e
      · refine .inr ?_
        rw [hk, e, av_put_eq (by rw [h.la, ← h.ld]; exact hd)]
        refine .inr ?_
        exact OwnV_mono' (FB_le hl) (fun _ _ => rfl) (fun g hg ho => ⟨⟨by unfold giveO; rw [if_pos hg], fun _ => ho.1⟩, rfl⟩) hv
    · refine ⟨Nat.lt_of_lt_of_le (h.fl b hb).1 sz, ?_⟩
      unfold giveO
      rw [if_neg (hFb b hb)]
      exact (h.fl b hb).2
  · refine ⟨addF F y, giveO O y none, h.many hlen size_put rfl hav (by simp) (fun s hs => ?_) (fun _ hb => .inl hb) hwF (hoO _) (fun b hb => ?_) (hol _) (fun b hb => ?_) sz os tape output hwK⟩
    · rw [List.append_nil] at hs ⊢
      rcases nth_install (δ := δ) (x := x) hs with e | ⟨rfl, hd, e⟩
      · exact .inl e
      · refine .inr ?_
        rw [hk, e, av_put_eq (by rw [h.la, ← h.ld]; exact hd)]
        refine .inr ?_
        refine RepV_mono (fun b hb => ?_) (fun _ _ => rfl) (OwnV_rep (hv.own (own' := fun g => B ≤ g ∧ V.blk y = some g) fun b hb ho => ⟨ho.1, hb⟩))
        rcases hb with hb | ⟨hb1, hb2⟩
        · exact FB_le hl _ (FB_mono (fun _ h => .inl h) _ hb)
        · have hx : addF F y b := .inr hb2
          match l, h1l with
          | 1, _ => exact ⟨hx, hb1⟩
          | _ + 2, _ => exact hx
    · rcases hb with hb | hb
      · refine ⟨Nat.lt_of_lt_of_le (h.fl b hb).1 sz, ?_⟩
        unfold giveO
        rw [if_neg (hFb b hb)]
        exact (h.fl b hb).2
      · exact ⟨(hblk b hb).2, by unfold giveO; rw [if_pos hb]⟩
    · rcases hb with hb | hb
      · exact .inl hb
      · exact .inr (hblk b hb).1.1

theorem many_skip {o : Oper} {F' : Nat → Prop} {O' : Nat → Option (Nat × Nat)} {y : Value} {w' : World} {d : Nat} {δ' : List D} (hd : o.dst = some d) {k : List D → Option Out} {r : Out}
    (hr : (execOp a.eval o).run P w = .ok (.value y) w') (hI : Inv c B X w0 F0 F' O' (a.put (some d) y) w' δ') (hk : k δ' = some r) (Q : Exit → Act → World → Prop) : o.wp P a w (Next c B X w0 F0 k r) Q :=
  wp_value hr ⟨F', O', δ', by rw [hd]; exact hI, hk⟩

theorem mayGive_some {K : List Kd} {r : Nat} (h : mayGive K r = true) : ∃ z lv, nthK K r = .own z lv false := by
  unfold mayGive at h
  split at h
  · exact ⟨_, _, ‹_›⟩
  · cases h

/-- A slice changes its owner: as it is, or a part of it. -/
theorem Inv.pass (h : Inv c B X w0 F0 F O a w δ) {d r z lv : Nat} {x : D} {y : Value} (hk : newIn c.K d z lv = true)
    (hv : OwnV w (FB F B lv) (fun g => O g = some (r, 0) ∧ B ≤ g) z x y) :
    ∃ F' O', Inv c B X w0 F0 F' O' (a.put (some d) y) w (setMany δ ([d, r] ++ ([] ++ depsAll c.K [d, r])) [x, .bad]) :=
  h.install (ts := [r]) hk (hv.own fun _ _ ho => ⟨ho.2, .inr ⟨_, ho.1, by simp⟩⟩) (Nat.le_refl _) (fun _ _ _ => rfl) rfl rfl rfl

/-- A new slice. -/
theorem Inv.fresh (h : Inv c B X w0 F0 F O a w δ) {d z lv : Nat} {x : D} {y : Value} {w' : World} (hk : newIn c.K d z lv = true)
    (hv : OwnV w' (FB F B lv) (fun g => w.heap.size ≤ g) z x y) (sz : w.heap.size ≤ w'.heap.size) (hw : ∀ b, b < w.heap.size → w'.heap[b]? = w.heap[b]?)
    (os : w'.os = w.os) (tape : w'.tape = w.tape) (output : w'.output = w.output) :
    ∃ F' O', Inv c B X w0 F0 F' O' (a.put (some d) y) w' (setMany δ ([d] ++ ([] ++ depsAll c.K [d])) [x]) :=
  h.install (ts := []) hk (hv.own fun _ _ ho => ⟨Nat.le_trans h.bb ho, .inl ho⟩) sz (fun b hb _ => hw b hb) os tape output

theorem OwnV_empty {F : Nat → Prop} {own : Nat → Prop} {z : Nat} : OwnV w F own z (.arr z []) (.slice none 0 0) := ⟨[], rfl, by simp, .inl ⟨rfl, rfl⟩⟩

/-- Slots made void. -/
theorem Inv.dead (h : Inv c B X w0 F0 F O a w δ) (d : Nat) (ts : List Nat) (y : Value) :
    Inv c B X w0 F0 F O (a.put (some d) y) w (setMany δ ((d :: ts) ++ ([] ++ depsAll c.K (d :: ts))) (.bad :: ts.map fun _ => .bad)) := by
  refine h.many (by simp) size_put rfl (fun s hs => av_put_ne fun e => hs (by simp [e])) (by simp) (fun s hs => .inl ?_) (fun _ hb => hb) (fun _ _ => rfl) (fun _ _ hp _ => ⟨hp, rfl⟩) h.fl h.ol (fun _ hb => .inl hb) (Nat.le_refl _) rfl rfl rfl (fun _ _ _ => rfl)
  rw [List.append_nil] at hs ⊢
  rcases nth_install (δ := δ) (x := .bad) hs with e | ⟨_, _, e⟩ <;> exact e

/-- An owned slice goes over, as it is. -/
theorem Inv.over (h : Inv c B X w0 F0 F O a w δ) {d r z lv : Nat} (hr : nthK c.K r = .own z lv false) (hk : newIn c.K d z lv = true) :
    ∃ F' O', Inv c B X w0 F0 F' O' (a.put (some d) (av a r)) w (setMany δ ([d, r] ++ ([] ++ depsAll c.K [d, r])) [nth δ r, .bad]) := by
  by_cases hb : nth δ r = .bad
  · rw [hb]
    exact ⟨F, O, h.dead d [r] _⟩
  · exact h.pass hk ((h.own hr hb).own fun _ _ ho => ⟨ho.1, ho.2 rfl⟩)

theorem sameKs_at : ∀ {ms ns : List Kd}, sameKs ms ns = true → ∀ i, nthK ns i = nthK ms i ∧ (nthK ms i = .no ∨ (∃ lv, nthK ms i = .dat lv) ∨ ∃ z lv, nthK ms i = .own z lv false)
  | [], [], _, i => by simp [nthK]
  | m :: ms, n :: ns, h, i => by
    have : n = m ∧ ((∃ lv, m = .dat lv) ∨ ∃ z lv, m = .own z lv false) ∧ sameKs ms ns = true := by
      cases m with
      | dat a =>
        cases n <;> simp only [sameKs] at h <;> try cases h
        split at h
        case h_2 => cases h
        rename_i e
        rw [beq_iff] at e
        subst e
        exact ⟨rfl, .inl ⟨_, rfl⟩, h⟩
      | own z a io =>
        cases io
        case true => cases n <;> simp [sameKs] at h
        cases n with
        | own z' a' io' =>
          cases io'
          case true => simp [sameKs] at h
          simp only [sameKs] at h
          split at h
          case h_2 => cases h
          rename_i e1 e2
          rw [beq_iff] at e1 e2
          subst e1 e2
          exact ⟨rfl, .inr ⟨_, _, rfl⟩, h⟩
        | _ => simp [sameKs] at h
      | _ => cases n <;> simp [sameKs] at h
    obtain ⟨rfl, h1, h2⟩ := this
    cases i with
    | zero => exact ⟨rfl, .inr h1⟩
    | succ i => exact sameKs_at h2 i
  | [], _ :: _, h, _ => by simp [sameKs] at h
  | m :: _, [], h, _ => by cases m <;> first | (simp [sameKs] at h; done) | (rename_i io; cases io <;> simp [sameKs] at h)

/-- A tuple goes over. -/
theorem Inv.overT (h : Inv c B X w0 F0 F O a w δ) {d t : Nat} {ms ns : List Kd} (ht : nthK c.K t = .tup ms) (hd : nthK c.K d = .tup ns) (hs' : sameKs ms ns = true) (hdt : Nat.beq d t = false) :
    ∃ F' O', Inv c B X w0 F0 F' O' (a.put (some d) (av a t)) w (setMany δ ([d, t] ++ ([] ++ depsAll c.K [d, t])) [nth δ t, .bad]) := by
  have hne : d ≠ t := fun e => by subst e; simp at hdt
  refine ⟨F, fun b => match O b with
    | some p => if p.1 = t ∧ p.2 ≠ 0 then some (d, p.2) else some p
    | none => none, h.many rfl size_put rfl (fun s hs => av_put_ne fun e => hs (by simp [e])) (by simp) (fun s hs => ?_) (fun _ hb => hb) (fun _ _ => rfl) (fun b p hp hm => ⟨?_, rfl⟩) (fun b hb => ⟨(h.fl b hb).1, by simp only [(h.fl b hb).2]⟩) (fun b p hp => ?_) (fun _ hb => .inl hb) (Nat.le_refl _) rfl rfl rfl (fun _ _ _ => rfl)⟩
  · rw [List.append_nil] at hs ⊢
    rcases nth_install (δ := δ) (x := nth δ t) (ts := [t]) hs with e | ⟨rfl, hl, e⟩
    · exact .inl e
    · simp only [List.map_cons, List.map_nil] at e
      rw [e]
      by_cases hb : nth δ t = .bad
      · exact .inl hb
      have h0 := (h.slot t).resolve_left hb
      rw [ht] at h0
      obtain ⟨l, vs, h1, h2, h3⟩ := h0
      refine .inr ?_
      rw [hd, av_put_eq (by rw [h.la, ← h.ld]; exact hl)]
      refine ⟨l, vs, h1, h2, fun i => ?_⟩
      rw [(sameKs_at hs' i).1]
      exact Lone_mono (fun _ hb => hb) (fun _ _ => rfl) (fun g hg => ⟨by simp [hg], rfl⟩) (h3 i)
  · have : p.1 ≠ t := fun e => hm (by simp [e])
    simp only [hp, this, false_and, if_false]
  · cases hO : O b with
    | none => simp only [hO] at hp; cases hp
    | some q => exact h.ol b q hO

theorem newIn_own {K : List Kd} {d z z' lv lv' : Nat} (hk : nthK K d = .own z' lv' false) (h1 : Nat.beq z z' = true) (h2 : Nat.ble lv lv' = true) : newIn K d z lv = true := by simp only [newIn, hk, h1, h2]
theorem newIn_dat {K : List Kd} {d z lv lv' : Nat} (hk : nthK K d = .dat lv') (h1 : Nat.ble 1 lv' = true) (h2 : Nat.ble lv lv' = true) : newIn K d z lv = true := by simp only [newIn, hk, h1, h2]

/-! ### copies and changes of owner -/
theorem sound_mv {o : Oper} {x : Operand} (ho : o.op = .move x ∨ o.op = .assign x) {A : Ac} (hA : mvOf c o.dst x o.type = some A) (hI : Inv c B X w0 F0 F O a w δ)
    {k : List D → Option Out} {r : Out} (hg : goAc c A δ k = some r) (Q : Exit → Act → World → Prop) : o.wp P a w (Next c B X w0 F0 k r) Q := by
  have hex : (execOp a.eval o).run P w = .ok (.value (a.eval x)) w := by
    rcases ho with ho | ho <;> simp [execOp, ho]
  have dat : ∀ (lv : Nat) (A : Ac), lv = lvOf c.K x → dataOp c o.dst [x] lv (arg1 some) = some A → goAc c A δ k = some r → o.wp P a w (Next c B X w0 F0 k r) Q := by
    intro lv A hlv hA hg
    refine data_sound hA hI hg (fun hx z hz => ?_) Q
    obtain ⟨d1, e, hz⟩ := arg1_some hz
    simp only [List.map_cons, List.map_nil, List.cons.injEq, and_true] at e
    subst e
    cases hz
    exact ⟨_, hex, by rw [hlv]; exact (hx x (by simp)).2⟩
  have via : ∀ (t rr d : Nat), x = .tmp t → o.dst = some d → nthK c.K d = .via rr → isOwn c.K rr = true → (nth δ t ≠ .bad → nth δ rr ≠ .bad ∧ av a t = av a rr) → (goAc c (.one [t] d fun is => (arg1 fun x => liveD x (.ref 0 0)) is) δ k = some r) → o.wp P a w (Next c B X w0 F0 k r) Q := by
    intro t rr d hx hd hk hown hb hg
    subst hx
    refine one_sound hI hd hg (fun z hz => ?_) Q
    obtain ⟨d1, e, hz⟩ := arg1_some hz
    simp only [getAll, List.cons.injEq, and_true] at e
    subst e
    obtain ⟨h1, rfl⟩ := liveD_some hz
    obtain ⟨h2, h3⟩ := hb h1
    refine ⟨_, hex, .inr ?_⟩
    rw [hk]
    exact ⟨h3, rfl, h2, hown⟩
  have over : ∀ (t rr d z lv : Nat), x = .tmp t → o.dst = some d → av a t = av a rr → nthK c.K rr = .own z lv false → newIn c.K d z lv = true → k (setMany δ ([d, rr] ++ ([] ++ depsAll c.K [d, rr])) [nth δ rr, .bad]) = some r → o.wp P a w (Next c B X w0 F0 k r) Q := by
    intro t rr d z lv hx hd hav hkr hkd hk
    subst hx
    obtain ⟨F', O', hI'⟩ := hI.over hkr hkd
    exact many_skip hd hex (by rw [eval_tmp, hav]; exact hI') hk Q
  have over2 : ∀ (t rr d z lv : Nat), x = .tmp t → o.dst = some d → nthK c.K t = .via rr → nthK c.K rr = .own z lv false → newIn c.K d z lv = true →
      goAc c (.many [t, rr] [d, rr] [] fun is k => nthC is 0 fun p => nthC is 1 fun x => (liveD p x).bind fun y => k [y, .bad]) δ k = some r → o.wp P a w (Next c B X w0 F0 k r) Q := by
    intro t rr d z lv hx hd hkt hkr hkd hg
    simp only [goAc, getAll, nthC] at hg
    obtain ⟨y, h1, h2⟩ := Option.bind_eq_some_iff.1 hg
    obtain ⟨hb, rfl⟩ := liveD_some h1
    exact over t rr d z lv hx hd (hI.via hkt hb).1 hkr hkd h2
  unfold mvOf at hA
  split at hA
  · rename_i t
    split at hA
    · rename_i z lv io hk
      split at hA
      · cases hA
      rename_i d hd
      split at hA
      · rename_i rr hkd
        split at hA
        case h_2 => cases hA
        rename_i hrt
        rw [beq_iff] at hrt
        subst hrt
        cases hA
        exact via rr rr d rfl hd hkd (by simp [isOwn, hk]) (fun hb => ⟨hb, rfl⟩) hg
      · rename_i z' lv' hkd
        split at hA
        case h_2 => cases hA
        rename_i h1 h2
        cases hA
        refine over t t d z lv rfl hd rfl hk (newIn_own hkd h1 h2) ?_
        simpa only [goAc, getAll, nthC] using hg
      · rename_i lv' hkd
        split at hA
        case h_2 => cases hA
        rename_i h1 h2
        cases hA
        refine over t t d z lv rfl hd rfl hk (newIn_dat hkd h1 h2) ?_
        simpa only [goAc, getAll, nthC] using hg
      · cases hA
    · rename_i rr hk
      split at hA
      · cases hA
      rename_i d hd
      split at hA
      case h_2 => cases hA
      rename_i z lv io hkr
      split at hA
      · rename_i r' hkd
        split at hA
        case h_2 => cases hA
        rename_i hrt
        rw [beq_iff] at hrt
        subst hrt
        cases hA
        exact via t rr d rfl hd hkd (by simp [isOwn, hkr]) (fun hb => ⟨(hI.via hk hb).2.2.1, (hI.via hk hb).1⟩) hg
      · rename_i z' lv' hkd
        split at hA
        case h_2 => cases hA
        rename_i h1 h2
        cases hA
        exact over2 t rr d z lv rfl hd hk hkr (newIn_own hkd h1 h2) hg
      · rename_i lv' hkd
        split at hA
        case h_2 => cases hA
        rename_i h1 h2
        cases hA
        exact over2 t rr d z lv rfl hd hk hkr (newIn_dat hkd h1 h2) hg
      · cases hA
    · rename_i n lv io hk
      split at hA
      · cases hA
      rename_i d hd
      split at hA
      case h_2 => cases hA
      rename_i rr hkd
      split at hA
      case h_2 => cases hA
      rename_i hrt
      rw [beq_iff] at hrt
      subst hrt
      cases hA
      refine one_sound hI hd hg (fun z hz => ?_) Q
      obtain ⟨d1, e, hz⟩ := arg1_some hz
      simp only [getAll, List.cons.injEq, and_true] at e
      subst e
      obtain ⟨h1, rfl⟩ := liveD_some hz
      refine ⟨_, hex, .inr ?_⟩
      rw [hkd]
      obtain ⟨m, us, g, e, _, a1, _⟩ := hI.box hk h1
      refine ⟨0, 0, rfl, h1, ?_⟩
      rw [hk]
      exact ⟨g, a1, a1⟩
    · rename_i rr hk
      split at hA
      · cases hA
      rename_i d hd
      split at hA
      case h_2 => cases hA
      rename_i r' hkd
      split at hA
      case h_2 => cases hA
      rename_i hrt
      rw [beq_iff] at hrt
      subst hrt
      cases hA
      refine one_sound hI hd hg (fun z hz => ?_) Q
      obtain ⟨d1, e, hz⟩ := arg1_some hz
      simp only [getAll, List.cons.injEq, and_true] at e
      subst e
      obtain ⟨h1, rfl⟩ := liveD_some hz
      refine ⟨_, hex, .inr ?_⟩
      rw [hkd]
      exact hI.ref hk h1
    · rename_i lv hk
      exact dat lv _ (by simp [lvOf, hk]) hA hg
    · rename_i ms hk
      split at hA
      · cases hA
      rename_i d hd
      split at hA
      case h_2 => cases hA
      rename_i ns hkd
      split at hA
      case h_2 => cases hA
      rename_i h1 h2
      cases hA
      obtain ⟨F', O', hI'⟩ := hI.overT hk hkd h1 h2
      refine many_skip hd hex (by rw [eval_tmp]; exact hI') ?_ Q
      simpa only [goAc, getAll, nthC] using hg
    · cases hA
  · split at hA
    · cases hA
    rename_i d hd
    split at hA
    · rename_i z lv hk
      cases hA
      simp only [goAc] at hg
      obtain ⟨F', O', hI'⟩ := hI.fresh (d := d) (z := z) (lv := lv) (w' := w) (by simp [newIn, hk]) OwnV_empty (Nat.le_refl _) (fun _ _ => rfl) rfl rfl rfl
      exact many_skip hd hex hI' hg Q
    · split at hA
      · refine data_sound hA hI hg (fun hx z hz => ?_) Q
        cases hz
        exact ⟨_, hex, .inr (RepV_v.2 ⟨rfl, rfl⟩)⟩
      have hA0 := withT_some hA
      clear hA
      obtain ⟨i, hi, hA⟩ := hA0
      refine data_sound hA hI hg (fun hx z hz => ?_) Q
      cases hz
      refine ⟨_, hex, .inr ?_⟩
      simp only [Act.eval, RepV]
      exact RepC_nil
    · cases hA
  · exact dat _ _ rfl hA hg

end
end Go.V
/-
  New memory and stores: they keep the invariant.
-/
namespace Go.V
open Go.RowKit

section
variable {P : Program} {c : Cx} {B : Nat} {X : Nat → Prop} {w0 : World} {F0 F : Nat → Prop} {O : Nat → Option (Nat × Nat)} {a : Act} {w : World} {δ : List D}

theorem giveO_eq {O : Nat → Option (Nat × Nat)} {y : Value} {x : Option (Nat × Nat)} {b : Nat} (h : blk y = some b) : giveO O y x b = x := by unfold giveO; rw [if_pos h]
theorem giveO_ne {O : Nat → Option (Nat × Nat)} {y : Value} {x : Option (Nat × Nat)} {b : Nat} (h : blk y ≠ some b) : giveO O y x b = O b := by unfold giveO; rw [if_neg h]
theorem blk_ptr {g o : Nat} {s : Option Nat} {b : Nat} : blk (.pointer (some ⟨g, o, s⟩)) = some b ↔ g = b := by simp [blk]

/-- A new variable's cells are put into a slot. -/
theorem Inv.fresh1 (h : Inv c B X w0 F0 F O a w δ) {d n lv : Nat} {x : D} {y : Value} {w' : World} (hk : nthK c.K d = .box n lv false)
    (hv : BoxV w' (FB F B lv) (fun g => w.heap.size ≤ g) n x y) (sz : w.heap.size ≤ w'.heap.size) (hw : ∀ b, b < w.heap.size → w'.heap[b]? = w.heap[b]?)
    (os : w'.os = w.os) (tape : w'.tape = w.tape) (output : w'.output = w.output) :
    ∃ F' O', Inv c B X w0 F0 F' O' (a.put (some d) y) w' (setMany δ ([d] ++ ([] ++ depsAll c.K [d])) [x]) := by
  obtain ⟨l, us, g, e, h1, h2, h3, h4, h5, h6, h7⟩ := hv
  subst h2
  have hg : g < w'.heap.size := (Array.getElem?_eq_some_iff.1 h3).1
  refine ⟨F, giveO O (.pointer (some ⟨g, 0, none⟩)) (some (d, 0)), h.many (by simp) size_put rfl (fun s hs => av_put_ne fun e => hs (by simp [e])) (by simp) (fun s hs => ?_) (fun _ hb => hb) (fun b hb => hw b (h.fl b hb).1) (fun b p hp _ => ⟨?_, hw b (h.ol b p hp).1⟩) (fun b hb => ⟨Nat.lt_of_lt_of_le (h.fl b hb).1 sz, ?_⟩) (fun b p hp => ?_) (fun _ hb => .inl hb) sz os tape output (fun b hb _ => hw b (Nat.lt_of_lt_of_le hb h.bb))⟩
  · rw [List.append_nil] at hs ⊢
    rcases nth_install (δ := δ) (x := x) (ts := []) hs with e | ⟨rfl, hd, e⟩
    · exact .inl e
    · refine .inr ?_
      simp only [List.map_nil] at e
      rw [hk, e, av_put_eq (by rw [h.la, ← h.ld]; exact hd)]
      exact .inr ⟨l, us, g, _, h1, rfl, h3, h4, h5, h6, giveO_eq rfl, fun _ => Nat.le_trans h.bb h7⟩
  · have := (h.ol b p hp).1
    rw [giveO_ne (fun e => by rw [blk_ptr] at e; omega)]
    exact hp
  · have := (h.fl b hb).1
    rw [giveO_ne (fun e => by rw [blk_ptr] at e; omega)]
    exact (h.fl b hb).2
  · by_cases e : g = b
    · subst e
      exact ⟨hg, .inl (Nat.le_trans h.bb h7)⟩
    · rw [giveO_ne (fun e' => e (blk_ptr.1 e'))] at hp
      exact ⟨Nat.lt_of_lt_of_le (h.ol b p hp).1 sz, (h.ol b p hp).2⟩

/-- A box that is plain data from its birth. -/
theorem Inv.freshP (h : Inv c B X w0 F0 F O a w δ) {d lv t : Nat} (hk : nthK c.K d = .dat lv) (h1 : 1 ≤ lv) {l : List D} {v : Value} (hr : RepL w (FB F B lv) l v.cells.toList) (hsl : l.all D.single = true) :
    ∃ F' O', Inv c B X w0 F0 F' O' (a.put (some d) (.pointer (some ⟨w.heap.size, 0, none⟩))) (w.alloc (.cells v.cells t)) (setMany δ ([d] ++ ([] ++ depsAll c.K [d])) [.ptr l]) := by
  have sz : w.heap.size ≤ (w.alloc (.cells v.cells t)).heap.size := by simp
  have hw : ∀ b, b < w.heap.size → (w.alloc (.cells v.cells t)).heap[b]? = w.heap[b]? := fun b hb => heap_alloc_old w _ hb
  have hg : w.heap.size < (w.alloc (.cells v.cells t)).heap.size := by simp
  refine ⟨fun b => F b ∨ b = w.heap.size, O, h.many (by simp) size_put rfl (fun s hs => av_put_ne fun e => hs (by simp [e])) (by simp) (fun s hs => ?_) (fun _ hb => .inl hb) (fun b hb => hw b (h.fl b hb).1) (fun b p hp _ => ⟨hp, hw b (h.ol b p hp).1⟩) (fun b hb => ?_) (fun b p hp => ⟨Nat.lt_of_lt_of_le (h.ol b p hp).1 sz, (h.ol b p hp).2⟩) (fun b hb => ?_) sz rfl rfl rfl (fun b hb _ => hw b (Nat.lt_of_lt_of_le hb h.bb))⟩
  · rw [List.append_nil] at hs ⊢
    rcases nth_install (δ := δ) (x := .ptr l) (ts := []) hs with e | ⟨rfl, hd, e⟩
    · exact .inl e
    · refine .inr ?_
      simp only [List.map_nil] at e
      rw [hk, e, av_put_eq (by rw [h.la, ← h.ld]; exact hd)]
      refine .inr ?_
      simp only [RepV, RepC]
      refine ⟨w.heap.size, 0, v.cells.toList, rfl, RepL_mono (FB_mono fun b hb => .inl hb) (fun b hb => hw b (h.fl b (FB_sub b hb)).1) _ _ hr, hsl, ?_, fun i u hu => ?_⟩
      · match lv, h1 with
        | 1, _ => exact ⟨.inr rfl, h.bb⟩
        | n + 2, _ => exact .inr rfl
      · have hn := heap_alloc_new w (.cells v.cells t)
        simp only [World.cell?, hn]
        simpa using hu
  · rcases hb with hb | rfl
    · exact ⟨Nat.lt_of_lt_of_le (h.fl b hb).1 sz, (h.fl b hb).2⟩
    · refine ⟨hg, ?_⟩
      cases ho : O w.heap.size with
      | none => rfl
      | some p => exact absurd (h.ol _ _ ho).1 (Nat.lt_irrefl _)
  · rcases hb with hb | rfl
    · exact .inl hb
    · exact .inr h.bb

theorem run_newVar (t : Nat) (v : Value) (w : World) : (newVar t v).run P w = .ok ⟨w.heap.size, 0, none⟩ (w.alloc (.cells v.cells t)) := by simp [newVar, newRow]

theorem BoxV_new {F : Nat → Prop} {n t : Nat} {l : List D} {v : Value} (hr : RepL w F l v.cells.toList) (hs : l.all D.single = true) (hn : l.length = n) (hF : ∀ b, F b → b < w.heap.size) :
    BoxV (w.alloc (.cells v.cells t)) F (fun g => w.heap.size ≤ g) n (.agg l) (.pointer (some ⟨w.heap.size, 0, none⟩)) :=
  ⟨l, v.cells.toList, _, t, rfl, rfl, by simpa using heap_alloc_new w _, RepL_mono (fun _ h => h) (fun b hb => heap_alloc_old w _ (hF b hb)) _ _ hr, hs, hn, Nat.le_refl _⟩

theorem sound_alloc (hT : okT P c.T = true) {o : Oper} {t : Nat} (ho : o.op = .alloc t) : Sound P c o := by
  intro A hA B X w0 F0 F O a w δ hI k r hg Q
  simp only [actOf, ho] at hA
  have hA0 := withT_some hA
  clear hA
  obtain ⟨i, hi, hA⟩ := hA0
  have hti := tok hT hi
  unfold alOf at hA
  split at hA
  · cases hA
  rename_i d hd
  split at hA
  case h_2 => cases hA
  rename_i n lv hk
  split at hA
  case h_2 => cases hA
  rename_i hn
  rw [beq_iff] at hn
  cases hA
  simp only [goAc] at hg
  obtain ⟨z, hz, hr, hs, hsz⟩ := hti.zero
  have hrun : (execOp a.eval o).run P w = .ok (.value (.pointer (some ⟨w.heap.size, 0, none⟩))) (w.alloc (.cells z.cells t)) := by
    refine run_v (s := Instr.alloc t true (.tuple #[])) (by simp only [execOp, ho]) ?_
    simp [Instr.alloc, hz w, newVar, newRow]
  obtain ⟨F', O', hI'⟩ := hI.fresh1 hk (BoxV_new (w := w) (t := t) (v := z) (F := FB F B lv) (hr w _).2 hs (hti.zl.trans hn.symm) fun b hb => (hI.fl b (FB_sub b hb)).1) (by simp) (fun b hb => heap_alloc_old w _ hb) rfl rfl rfl
  exact many_skip hd hrun hI' hg Q

theorem sound_box {o : Oper} {t : Nat} {x : Operand} (ho : o.op = .box t x) : Sound P c o := by
  intro A hA B X w0 F0 F O a w δ hI k r hg Q
  simp only [actOf, ho] at hA
  have hA0 := withT_some hA
  clear hA
  obtain ⟨i, hi, hA⟩ := hA0
  unfold bxOf at hA
  split at hA
  · cases hA
  rename_i d hd
  split at hA
  case h_3 => cases hA
  case h_2 =>
    rename_i lv hk
    split at hA
    case h_2 => cases hA
    rename_i hx h1 hle
    have hx : lvOf c.K x ≤ 2 := ble_iff.1 hx
    rw [ble_iff] at h1 hle
    cases hA
    simp only [goAc] at hg
    rw [valsOf_eq] at hg
    obtain ⟨y, h2, h3⟩ := Option.bind_eq_some_iff.1 hg
    obtain ⟨d1, e, h2⟩ := arg1_some h2
    simp only [List.map_cons, List.map_nil, List.cons.injEq, and_true] at e
    subst e
    unfold boxD at h2
    split at h2
    case isFalse => cases h2
    rename_i hc
    cases h2
    simp only [frzD, Option.bind_some] at h3
    have hne : opD δ x ≠ .bad := by
      intro e
      rw [e] at hc
      simp [D.cells, D.single] at hc
    obtain ⟨_, _, g3⟩ := RepV_cells ((RepB_le hle (hI.opd hx)).rep hne) (not_tup hc.2)
    have hrun : (execOp a.eval o).run P w = .ok (.value (.pointer (some ⟨w.heap.size, 0, none⟩))) (w.alloc (.cells (a.eval x).cells t)) := by
      refine run_v (s := Instr.box t (a.eval x)) (by simp only [execOp, ho]) ?_
      simp [Instr.box, newVar, newRow]
    obtain ⟨F', O', hI'⟩ := hI.freshP (t := t) hk h1 g3 hc.2
    exact many_skip hd hrun hI' h3 Q
  rename_i n lv hk
  split at hA
  case h_2 => cases hA
  rename_i hn hx
  have hx : lvOf c.K x ≤ 2 := ble_iff.1 hx
  have hop := hI.opd hx
  have main : ∀ y : D, boxD n (opD δ x) = some y → RepB w (FB F B lv) (opD δ x) (a.eval x) → k (setMany δ ([d] ++ ([] ++ depsAll c.K [d])) [y]) = some r → o.wp P a w (Next c B X w0 F0 k r) Q := by
    intro y hy hrep hk'
    unfold boxD at hy
    split at hy
    case isFalse => cases hy
    rename_i hc
    cases hy
    have hne : opD δ x ≠ .bad := by
      intro e
      rw [e] at hc
      simp [D.cells, D.single] at hc
    obtain ⟨_, _, g3⟩ := RepV_cells (hrep.rep hne) (not_tup hc.2)
    have hrun : (execOp a.eval o).run P w = .ok (.value (.pointer (some ⟨w.heap.size, 0, none⟩))) (w.alloc (.cells (a.eval x).cells t)) := by
      refine run_v (s := Instr.box t (a.eval x)) (by simp only [execOp, ho]) ?_
      simp [Instr.box, newVar, newRow]
    obtain ⟨F', O', hI'⟩ := hI.fresh1 hk (BoxV_new (w := w) (t := t) (F := FB F B lv) g3 hc.2 hc.1 fun b hb => (hI.fl b (FB_sub b hb)).1) (by simp) (fun b hb => heap_alloc_old w _ hb) rfl rfl rfl
    exact many_skip hd hrun hI' hk' Q
  split at hA
  · rename_i hle
    rw [ble_iff] at hle
    cases hA
    simp only [goAc] at hg
    rw [valsOf_eq] at hg
    obtain ⟨y, h1, h2⟩ := Option.bind_eq_some_iff.1 hg
    obtain ⟨d1, e, h1⟩ := arg1_some h1
    simp only [List.map_cons, List.map_nil, List.cons.injEq, and_true] at e
    subst e
    exact main y h1 (RepB_le hle hop) h2
  · split at hA
    case h_2 => cases hA
    cases hA
    simp only [goAc] at hg
    rw [valsOf_eq] at hg
    obtain ⟨y, h1, h2⟩ := Option.bind_eq_some_iff.1 hg
    obtain ⟨d1, e, h1⟩ := arg1_some h1
    simp only [List.map_cons, List.map_nil, List.cons.injEq, and_true] at e
    subst e
    obtain ⟨z, hc, h1⟩ := Option.bind_eq_some_iff.1 h1
    unfold chkV at hc
    split at hc
    case isFalse => cases hc
    rename_i hv
    cases hc
    refine main y h1 (.inr (RepV_isV hv (hop.rep ?_))) h2
    intro e
    rw [e] at hv
    simp [D.isV] at hv

/-! ### a store -/
theorem setRow_size (w : World) (g : Nat) (cs : Array Value) : (w.setRow g cs).heap.size = w.heap.size := by simp [World.setRow]

/-- The contents of a root are new; a slice may have been given up to it. -/
theorem Inv.write (h : Inv c B X w0 F0 F O a w δ) {r : Nat} {ts : List Nat} {x : D} {y : Value} {g : Nat} {w' : World} (hts : r ∉ ts)
    (hy : ∀ b, blk y = some b → B ≤ b ∧ ∃ p, O b = some p ∧ p.1 ∈ ts) (hx : x ≠ .bad) (hrt : isRoot c.K r) (hr0 : O g = some (r, 0))
    (hrep : Lone B (addF F y) (giveO O y none) w' (r, 0) (nthK c.K r) x (av a r))
    (hw : ∀ b, b ≠ g → w'.heap[b]? = w.heap[b]?) (sz : w'.heap.size = w.heap.size) (os : w'.os = w.os) (tape : w'.tape = w.tape) (output : w'.output = w.output) (hkeep : B ≤ g ∨ X g) :
    ∃ F' O', Inv c B X w0 F0 F' O' a w' (setMany δ (ts ++ ([r] ++ depsAll c.K ts)) ((ts.map fun _ => .bad) ++ [x])) := by
  have hFg : ∀ b, F b → b ≠ g := fun b hb e => by
    subst e
    rw [(h.fl b hb).2] at hr0
    cases hr0
  have hset : ∀ s, nth (setMany δ (ts ++ [r]) ((ts.map fun _ => .bad) ++ [x])) s = if s = r then (if r < δ.length then x else .bad) else if s ∈ ts then .bad else nth δ s := by
    intro s
    have e : setMany δ (ts ++ [r]) ((ts.map fun _ => .bad) ++ [x]) = setAt (setMany δ ts (ts.map fun _ => .bad)) r x := by
      have : ∀ (ts : List Nat) (δ : List D), setMany δ (ts ++ [r]) ((ts.map fun _ => D.bad) ++ [x]) = setAt (setMany δ ts (ts.map fun _ => .bad)) r x := by
        intro ts
        induction ts with
        | nil => intro δ; simp [setMany]
        | cons t ts ih => intro δ; simp only [List.cons_append, List.map_cons, setMany]; exact ih _
      exact this ts δ
    rw [e]
    by_cases hs : s = r
    · subst hs
      rw [nth_setAt_eq, if_pos rfl, len_setMany]
    · rw [nth_setAt_ne _ _ _ _ hs, if_neg hs]
      split
      · exact setMany_dead ts δ s ‹_›
      · exact nth_setMany_notin _ _ _ _ ‹_›
  have hlt : g < w.heap.size := (h.ol g _ hr0).1
  have hrd : r < δ.length := by
    rw [h.ld]
    by_cases hd : r < c.K.length
    · exact hd
    · exfalso
      have : ∀ (K : List Kd) (r : Nat), ¬ r < K.length → nthK K r = .no := by
        intro K
        induction K with
        | nil => intro r _; rfl
        | cons k K ih =>
          intro r hr
          cases r with
          | zero => simp at hr
          | succ r => exact ih r (by simpa using hr)
      rw [isRoot, this c.K r hd] at hrt
      exact hrt
  refine ⟨addF F y, giveO O y none, h.many (by simp) rfl rfl (fun _ _ => rfl) (fun s hs _ _ => ?_) (fun s hs => ?_) (fun _ hb => .inl hb) (fun b hb => hw b (hFg b hb)) (fun b p hp hm => ?_) (fun b hb => ?_) (fun b p hp => ?_) (fun b hb => ?_) (Nat.le_of_eq sz.symm) os tape output (fun b hb hx => hw b fun e => ?_)⟩
  · have : s = r := by simpa using hs
    subst this
    rw [hset, if_pos rfl, if_pos hrd]
    exact hx
  · rw [hset]
    by_cases hsr : s = r
    · subst hsr
      rw [if_pos rfl, if_pos hrd]
      refine .inr ?_
      unfold isRoot at hrt
      generalize nthK c.K s = kk at hrt hrep
      cases kk <;> first | exact hrt.elim | exact hrep
    · have : s ∈ ts := by simpa [hsr] using hs
      rw [if_neg hsr, if_pos this]
      exact .inl rfl
  · have hpr : p.1 ≠ r := fun e => hm (by simp [e])
    have hpt : p.1 ∉ ts := fun e => hm (by simp [e])
    refine ⟨?_, hw b fun e => ?_⟩
    · unfold giveO
      rw [if_neg]
      · exact hp
      · intro e
        obtain ⟨_, q, hq, hq'⟩ := hy b e
        rw [hp] at hq
        cases hq
        exact hpt hq'
    · subst e
      rw [hp] at hr0
      cases hr0
      exact hpr rfl
  · rw [sz]
    rcases hb with hb | hb
    · refine ⟨(h.fl b hb).1, ?_⟩
      unfold giveO
      rw [if_neg]
      · exact (h.fl b hb).2
      · intro e
        obtain ⟨_, q, hq, _⟩ := hy b e
        rw [(h.fl b hb).2] at hq
        cases hq
    · obtain ⟨_, q, hq, _⟩ := hy b hb
      exact ⟨(h.ol b q hq).1, by unfold giveO; rw [if_pos hb]⟩
  · rw [sz]
    unfold giveO at hp
    split at hp
    · cases hp
    · exact h.ol b p hp
  · rcases hb with hb | hb
    · exact .inl hb
    · exact .inr (hy b hb).1
  · subst e
    rcases hkeep with h1 | h1
    · omega
    · exact hx h1

/-- Cells stored: what the world is then. -/
theorem storeVar_run {t n g o : Nat} {e : Nat} {cs : Array Value} {y : Value} (hsz : (sizeOf t).run P w = .ok n w) (hn : y.cells.size = n) (hg : w.heap[g]? = some (.cells cs e (0, 0))) (hle : o + n ≤ cs.size) (h1 : ∀ v ∈ y.cells.toList, v.oneCell' = true) :
    (storeVar t ⟨g, o, none⟩ y).run P w = .ok () (w.setRow g (cs.toList.take o ++ y.cells.toList ++ cs.toList.drop (o + n)).toArray) := by
  have hst := run_storeCells_at P g o e y.cells.toList 0 cs w hg (by simpa [hn] using hle) h1
  simp only [Nat.add_zero, Array.length_toList, hn] at hst
  simp [storeVar, hsz, hn, hst]

end
end Go.V
/-
  A store into what a slot owns.
-/
namespace Go.V
open Go.RowKit

section
variable {P : Program} {c : Cx} {B : Nat} {X : Nat → Prop} {w0 : World} {F0 F : Nat → Prop} {O : Nat → Option (Nat × Nat)} {a : Act} {w : World} {δ : List D}

theorem len_put {l vs : List D} {f : Nat} (h : f + vs.length ≤ l.length) : (putCells l f vs).length = l.length := by
  unfold putCells
  simp only [List.length_append, List.length_take, List.length_drop]
  omega

theorem RepC_put {d : D} {m ws : List Value} {vs : List D} {f : Nat} (h : RepC w F d m) (hv : vs.all D.single = true) (hw : RepL w F vs ws) (hf : f + vs.length ≤ d.width) :
    RepC w F (d.ofCells (putCells d.cells f vs)) (m.take f ++ ws ++ m.drop (f + ws.length)) ∧ (d.ofCells (putCells d.cells f vs)).width = d.width := by
  rcases RepC_kind h with ⟨l, rfl⟩ | hs
  · simp only [RepC] at h
    obtain ⟨h1, h2⟩ := RepL_put h.2 hv h.1 hw f
    exact ⟨by simp only [D.ofCells, D.cells, RepC]; exact ⟨h1, h2⟩, len_put hf⟩
  · obtain ⟨hw1, hc1⟩ := width_single hs
    rw [hw1] at hf
    have hr : RepL w F [d] m := RepL_cons.2 ⟨m, [], by simp, h, RepL_nil.2 rfl⟩
    obtain ⟨h1, h2⟩ := RepL_put (by simp [hs]) hv hr hw f
    have h3 : (putCells [d] f vs).length = 1 := len_put (by simpa using hf)
    obtain ⟨e, he⟩ := List.length_eq_one_iff.1 h3
    rw [hc1, he]
    rw [he] at h1 h2
    have e2 : d.ofCells [e] = e := by cases d <;> first | rfl | simp [D.single] at hs
    rw [e2, hw1]
    obtain ⟨v1, v2, e3, h4, h5⟩ := RepL_cons.1 h1
    rw [RepL_nil] at h5
    subst h5
    rw [e3, List.append_nil]
    exact ⟨h4, (width_single (by simpa using h2)).1⟩

theorem cells_put {us cs ws : List Value} {o k n : Nat} (h : ∀ (j : Nat) (u : Value), us[j]? = some u → cs[o + j]? = some u) (hk : k + n ≤ us.length) (hn : ws.length = n) (hc : o + us.length ≤ cs.length) :
    ∀ (j : Nat) (u : Value), (us.take k ++ ws ++ us.drop (k + n))[j]? = some u → (cs.take (o + k) ++ ws ++ cs.drop (o + k + n))[o + j]? = some u := by
  intro j u hj
  have l1 : (us.take k).length = k := by rw [List.length_take]; omega
  have l2 : (cs.take (o + k)).length = o + k := by rw [List.length_take]; omega
  rcases Nat.lt_or_ge j k with hjk | hjk
  · rw [List.append_assoc, List.getElem?_append_left (by omega), List.getElem?_take_of_lt hjk] at hj
    rw [List.append_assoc, List.getElem?_append_left (by omega), List.getElem?_take_of_lt (by omega)]
    exact h j u hj
  · rcases Nat.lt_or_ge j (k + n) with hj2 | hj2
    · rw [List.append_assoc, List.getElem?_append_right (by omega), l1, List.getElem?_append_left (by omega)] at hj
      rw [List.append_assoc, List.getElem?_append_right (by omega), l2, List.getElem?_append_left (by omega)]
      rw [show o + j - (o + k) = j - k from by omega]
      exact hj
    · have l3 : (us.take k ++ ws).length = k + n := by rw [List.length_append]; omega
      have l4 : (cs.take (o + k) ++ ws).length = o + k + n := by rw [List.length_append]; omega
      rw [List.getElem?_append_right (by omega), l3, List.getElem?_drop] at hj
      rw [List.getElem?_append_right (by omega), l4, List.getElem?_drop]
      have := h _ u hj
      rw [← this]
      congr 1
      omega

theorem part_put {p m q ws : List Value} {f n : Nat} (h : f + n ≤ m.length) :
    p ++ (m.take f ++ ws ++ m.drop (f + n)) ++ q = (p ++ m ++ q).take (p.length + f) ++ ws ++ (p ++ m ++ q).drop (p.length + f + n) := by
  rw [List.append_assoc p m q, List.take_length_add_append, Nat.add_assoc, List.drop_length_add_append, List.take_append_of_le_length (by omega), List.drop_append_of_le_length (by omega)]
  simp

/-- What a store makes of an owned object. -/
theorem store_core (hI : Inv c B X w0 F0 F O a w δ) {r i f t n : Nat} {p yv yy : Value} {x b' : D} (hb : nth δ r ≠ .bad) (hr : RefV (nthK c.K r) (av a r) i f p) (hst : stD n (nth δ r) (.ref i f) x = some b') (hsz : (sizeOf t).run P w = .ok n w)
    (hx : ∀ w', (∀ b, addF F yy b → w'.heap[b]? = w.heap[b]?) → RepV w' (FB (addF F yy) B (rootLv c.K r)) x yv) (hyg : ∀ g, O g = some (r, 0) → blk yy ≠ some g) :
    ∃ g w', (Instr.storeAt t p yv).run P w = .ok () w' ∧ O g = some (r, 0) ∧ (B ≤ g ∨ X g) ∧ (∀ b, b ≠ g → w'.heap[b]? = w.heap[b]?) ∧ w'.heap.size = w.heap.size ∧ w'.os = w.os ∧ w'.tape = w.tape ∧ w'.output = w.output ∧ b' ≠ .bad ∧
      Lone B (addF F yy) (giveO O yy none) w' (r, 0) (nthK c.K r) b' (av a r) := by
  unfold RefV at hr
  split at hr
  · rename_i z lv io hk
    obtain ⟨g, o, nn, cap, hy, rfl⟩ := hr
    obtain ⟨l, hd, hwid, hrest⟩ := hI.own hk hb
    rcases hrest with ⟨e, _⟩ | ⟨g', o', c', us, cs, e, a1, a2, a3, a4, a5, a6, a7⟩
    · rw [hy] at e; cases e
    rw [hy] at a1
    simp at a1
    obtain ⟨⟨rfl, rfl⟩, rfl, rfl⟩ := a1
    rw [hd] at hst
    simp only [stD] at hst
    split at hst
    case h_2 => cases hst
    rename_i d hdi
    split at hst
    case isFalse => cases hst
    rename_i hc
    obtain ⟨hc1, hc2, hc3⟩ := hc
    simp only [Option.some.injEq] at hst
    subst hst
    obtain ⟨pp, mm, q, hus, h1, h2, h3, h4, h5⟩ := RepL_get l us a5 hwid i d hdi
    have hwd : d.width = z := hwid d (List.mem_of_getElem? hdi)
    have hil : i < l.length := (List.getElem?_eq_some_iff.1 hdi).1
    have hulen := RepL_length l us a5 hwid
    have hcz : l.length * z ≤ cap * z := Nat.mul_le_mul_right _ a2
    have hiz : (i + 1) * z ≤ l.length * z := Nat.mul_le_mul_right _ hil
    rw [Nat.succ_mul] at hiz
    have hFg : ∀ b, addF F yy b → b ≠ g := fun b hbF e => by
      subst e
      rcases hbF with hbF | hbF
      · rw [(hI.fl b hbF).2] at a7; cases a7.1
      · exact hyg b a7.1 hbF
    have hheap : ∀ (cs' : Array Value) b, b ≠ g → (w.setRow g cs').heap[b]? = w.heap[b]? := fun cs' b hne => setRow_other w g b cs' hne
    have hxr := hx w (fun _ _ => rfl)
    obtain ⟨_, g2, g3⟩ := RepV_cells hxr (not_tup hc3)
    have hyn : yv.cells.toList.length = n := by rw [(RepL_single _ _ g2 g3).1, hc1]
    have hone : ∀ v ∈ yv.cells.toList, v.oneCell' = true := fun v hv => ((RepL_single _ _ g2 g3).2.1 v hv).1
    have hoff : o + i * z + f + n ≤ cs.size := by omega
    have hrun := storeVar_run (P := P) (t := t) (n := n) (y := yv) (o := o + i * z + f) hsz (by simpa using hyn) a3 hoff hone
    obtain ⟨cs', hcs'⟩ : ∃ x : Array Value, x = (cs.toList.take (o + i * z + f) ++ yv.cells.toList ++ cs.toList.drop (o + i * z + f + n)).toArray := ⟨_, rfl⟩
    rw [← hcs'] at hrun
    refine ⟨g, w.setRow g cs', ?_, a7.1, (hI.ol g _ a7.1).2, hheap cs', setRow_size w g cs', rfl, rfl, rfl, by simp, .inr ?_⟩
    · simp only [Instr.storeAt, Instr.sureAddr, Sem.run_bind, Sem.run_pure, Result.andThen_ok]
      exact hrun
    rw [hk]
    have hmono : ∀ b, FB F B lv b → FB (addF F yy) B lv b := FB_mono fun _ h => .inl h
    have hrl : rootLv c.K r = lv := by simp [rootLv, hk]
    rw [hrl] at hx
    have hx' := hx (w.setRow g cs') (fun b hb => hheap _ b (hFg b hb))
    obtain ⟨_, _, g3'⟩ := RepV_cells hx' (not_tup hc3)
    have mono : ∀ {l : List D} {us : List Value}, RepL w (FB F B lv) l us → RepL (w.setRow g cs') (FB (addF F yy) B lv) l us :=
      fun h => RepL_mono hmono (fun b hb => hheap _ b (hFg b (.inl (FB_sub b hb)))) _ _ h
    have h3' := RepC_mono hmono (fun b hb => hheap cs' b (hFg b (.inl (FB_sub b hb)))) _ _ h3
    obtain ⟨r1, r2⟩ := RepC_put (f := f) h3' hc3 g3' (by rw [hc1]; exact hc2)
    refine ⟨_, rfl, fun e he => ?_, .inr ⟨g, o, cap, pp ++ (mm.take f ++ yv.cells.toList ++ mm.drop (f + n)) ++ q, cs', e, by rw [hy, List.length_set], by rw [List.length_set]; exact a2, setRow_heap w g cs _ e (0, 0) a3, ?_, ?_, ?_, ?_, a7.2⟩⟩
    · rcases List.mem_or_eq_of_mem_set he with he | he
      · exact hwid e he
      · rw [he, r2, hwd]
    · subst hcs'
      simp only [List.size_toArray, List.length_append, List.length_take, List.length_drop, Array.length_toList, hyn]
      omega
    · have e1 : l.set i (d.ofCells (putCells d.cells f x.cells)) = l.take i ++ (d.ofCells (putCells d.cells f x.cells)) :: l.drop (i + 1) := List.set_eq_take_append_cons_drop.trans (by rw [if_pos hil])
      rw [e1, List.append_assoc]
      exact (RepL_append _ _ _).2 ⟨_, _, rfl, mono h4, RepL_cons.2 ⟨_, _, rfl, by rw [hyn] at r1; exact r1, mono h5⟩⟩
    · subst hcs'
      rw [part_put (by omega), ← hus, h1]
      intro j u hj
      have := cells_put (o := o) (cs := cs.toList) (fun j u hj => by simpa using a6 j u hj) (k := i * z + f) (n := n) (by omega) hyn (by simpa using by omega) j u hj
      simpa [Nat.add_assoc] using this
    · exact (giveO_ne (hyg g a7.1)).trans a7.1
  · rename_i n' lv io hk
    obtain ⟨g, hy, rfl⟩ := hr
    obtain ⟨l, us, g', e, hd, a1, a2, a3, a4, a5, a6⟩ := hI.box hk hb
    rw [hy] at a1
    simp at a1
    subst a1
    rw [hd] at hst
    simp only [stD] at hst
    split at hst
    case isFalse => cases hst
    rename_i hc
    obtain ⟨hc1, hc2, hc3⟩ := hc
    simp only [Option.some.injEq] at hst
    subst hst
    have hFg : ∀ b, addF F yy b → b ≠ g := fun b hbF e => by
      subst e
      rcases hbF with hbF | hbF
      · rw [(hI.fl b hbF).2] at a6; cases a6.1
      · exact hyg b a6.1 hbF
    have hheap : ∀ (cs' : Array Value) b, b ≠ g → (w.setRow g cs').heap[b]? = w.heap[b]? := fun cs' b hne => setRow_other w g b cs' hne
    have hxr := hx w (fun _ _ => rfl)
    obtain ⟨_, g2, g3⟩ := RepV_cells hxr (not_tup hc3)
    have hyn : yv.cells.toList.length = n := by rw [(RepL_single _ _ g2 g3).1, hc1]
    have hone : ∀ v ∈ yv.cells.toList, v.oneCell' = true := fun v hv => ((RepL_single _ _ g2 g3).2.1 v hv).1
    have hul := (RepL_single _ _ a4 a3).1
    have hrun := storeVar_run (P := P) (t := t) (n := n) (y := yv) (o := f) hsz (by simpa using hyn) a2 (by simp; omega) hone
    obtain ⟨cs', hcs'⟩ : ∃ x : Array Value, x = (us.toArray.toList.take f ++ yv.cells.toList ++ us.toArray.toList.drop (f + n)).toArray := ⟨_, rfl⟩
    rw [← hcs'] at hrun
    refine ⟨g, w.setRow g cs', ?_, a6.1, (hI.ol g _ a6.1).2, hheap cs', setRow_size w g cs', rfl, rfl, rfl, by simp, .inr ?_⟩
    · simp only [Instr.storeAt, Instr.sureAddr, Sem.run_bind, Sem.run_pure, Result.andThen_ok]
      exact hrun
    rw [hk]
    have hrl : rootLv c.K r = lv := by simp [rootLv, hk]
    rw [hrl] at hx
    have hx' := hx (w.setRow g cs') (fun b hb => hheap _ b (hFg b hb))
    obtain ⟨_, _, g3'⟩ := RepV_cells hx' (not_tup hc3)
    have a3' := RepL_mono (FB_mono (F' := addF F yy) fun _ h => .inl h) (fun b hb => hheap cs' b (hFg b (.inl (FB_sub b hb)))) _ _ a3
    obtain ⟨r1, r2⟩ := RepL_put a4 hc3 a3' g3' f
    rw [hyn] at r1
    subst hcs'
    exact ⟨_, _, g, e, rfl, hy, setRow_heap w g _ _ e (0, 0) a2, by simpa using r1, r2, by rw [len_put (by omega)]; exact a5, (giveO_ne (hyg g a6.1)).trans a6.1, a6.2⟩
  · exact hr.elim

end
end Go.V
/-
  Stores, new slices, appends, parts of owned slices, parts of tuples: they keep the invariant.
-/
namespace Go.V
open Go.RowKit

section
variable {P : Program} {c : Cx} {B : Nat} {X : Nat → Prop} {w0 : World} {F0 F : Nat → Prop} {O : Nat → Option (Nat × Nat)} {a : Act} {w : World} {δ : List D}

theorem wp_skipn {o : Oper} (hd : o.dst = none) {w' : World} {δ' : List D} {F' : Nat → Prop} {O' : Nat → Option (Nat × Nat)} {k : List D → Option Out} {r : Out}
    (hr : (execOp a.eval o).run P w = .ok .skip w') (hI : Inv c B X w0 F0 F' O' a w' δ') (hk : k δ' = some r) (Q : Exit → Act → World → Prop) : o.wp P a w (Next c B X w0 F0 k r) Q :=
  wp_skipv hr ⟨F', O', δ', by rw [hd]; exact hI, hk⟩

theorem stD_some {n : Nat} {b p x b' : D} (h : stD n b p x = some b') : b ≠ .bad ∧ x ≠ .bad ∧ ∃ i f, p = .ref i f := by
  unfold stD at h
  split at h
  · refine ⟨by simp, ?_, _, _, rfl⟩
    rintro rfl
    split at h
    · split at h
      · rename_i hc
        simp [D.cells, D.single] at hc
      · cases h
    · cases h
  · refine ⟨by simp, ?_, _, _, rfl⟩
    rintro rfl
    split at h
    · rename_i hc
      simp [D.cells, D.single] at hc
    · cases h
  · cases h

theorem blk_nil : blk .nilFunc = none := rfl

theorem write_dat (hI : Inv c B X w0 F0 F O a w δ) {o : Oper} {t : Nat} {q r : Nat} {x : Operand} (ho : o.op = .store t (.tmp q) x) (hd : o.dst = none) {i : TI} (hi : TOk P t i) {ii f : Nat} (hb : nth δ r ≠ .bad)
    (hr : RefV (nthK c.K r) (av a r) ii f (av a q)) {y b' : D} (hst : stD i.n (nth δ r) (.ref ii f) y = some b') (hy : RepV w (FB F B (rootLv c.K r)) y (a.eval x))
    {k : List D → Option Out} {rr : Out} (hk : k (setMany δ ([] ++ ([r] ++ depsAll c.K [])) [b']) = some rr) (Q : Exit → Act → World → Prop) : o.wp P a w (Next c B X w0 F0 k rr) Q := by
  obtain ⟨g, w', h1, h2, h3, h4, h5, h6, h7, h8, h9, h10⟩ := store_core hI (yy := .nilFunc) hb hr hst (hi.size w) (fun w' hw => RepV_mono (FB_mono fun _ h => .inl h) (fun b hb => hw b (.inl (FB_sub b hb))) hy) (fun g _ => by simp [blk])
  obtain ⟨F', O', hI'⟩ := hI.write (ts := []) (y := .nilFunc) (by simp) (fun b hb => by simp [blk] at hb) h9 (RefV_root hr) h2 h10 h4 h5 h6 h7 h8 h3
  refine wp_skipn hd (w' := w') ?_ hI' hk Q
  simp only [execOp, ho, Sem.run_bind, eval_tmp, h1, Result.andThen_ok, Sem.run_pure]

theorem goP_eq (q r : Nat) (more : List Nat) (k : D → D → List D → Option Out) : goP q r (getAll δ (app (rdP q r) more)) k = k (nth δ r) (if q = r then .ref 0 0 else nth δ q) (getAll δ more) := by
  unfold goP rdP
  cases h : Nat.beq q r
  · have hne : q ≠ r := fun e => by subst e; simp at h
    simp [hne, app, getAll]
  · have := beq_iff.1 h
    simp [this, app, getAll]

theorem stTo_sound {o : Oper} {t : Nat} {q r : Nat} {x : Operand} (ho : o.op = .store t (.tmp q) x) (hd : o.dst = none) {i : TI} (hi : TOk P t i) (hI : Inv c B X w0 F0 F O a w δ)
    (hpl : ∀ (y b' : D), stD i.n (nth δ r) (if q = r then .ref 0 0 else nth δ q) y = some b' → ∃ ii f, (if q = r then .ref 0 0 else nth δ q) = D.ref ii f ∧ RefV (nthK c.K r) (av a r) ii f (av a q))
    {A : Ac} (hA : stTo c i q r (rootLv c.K r) x = some A) {k : List D → Option Out} {rr : Out} (hg : goAc c A δ k = some rr) (Q : Exit → Act → World → Prop) : o.wp P a w (Next c B X w0 F0 k rr) Q := by
  have dat : ∀ (y : D), RepB w (FB F B (rootLv c.K r)) y (a.eval x) → stK false i.n (nth δ r) (if q = r then .ref 0 0 else nth δ q) y (fun b => k (setMany δ ([] ++ ([r] ++ depsAll c.K [])) [b])) = some rr → o.wp P a w (Next c B X w0 F0 k rr) Q := by
    intro y hy hk
    simp only [stK] at hk
    obtain ⟨b', h1, h2⟩ := Option.bind_eq_some_iff.1 hk
    obtain ⟨ii, f, h3, h4⟩ := hpl y b' h1
    obtain ⟨g1, g2, _⟩ := stD_some h1
    rw [h3] at h1
    exact write_dat hI ho hd hi g1 h4 h1 (hy.rep g2) h2 Q
  unfold stTo at hA
  split at hA
  · rename_i s
    split at hA
    · rename_i l hk
      split at hA
      · rename_i hl
        cases hA
        simp only [goAc, goP_eq] at hg
        exact dat (nth δ s) (RepB_le (ble_iff.1 hl) (hI.dat hk)) hg
      · rename_i hl h0
        cases hA
        simp only [goAc, goP_eq, stK, getAll, nthC] at hg
        obtain ⟨y, h1, h2⟩ := Option.bind_eq_some_iff.1 hg
        unfold chkV at h1
        split at h1
        case isFalse => cases h1
        rename_i hv
        cases h1
        refine dat (nth δ s) (.inr (RepV_isV hv ((hI.dat hk).rep ?_))) h2
        intro e
        rw [e] at hv
        simp [D.isV] at hv
      · cases hA
    · rename_i z l hk
      split at hA
      case h_2 => cases hA
      rename_i h1 h2 h3
      have hsr : s ≠ r := fun e => by subst e; simp at h3
      rw [ble_iff] at h1 h2
      cases hA
      simp only [goAc, goP_eq, stK, getAll, nthC] at hg
      obtain ⟨b', e1, e2⟩ := Option.bind_eq_some_iff.1 hg
      obtain ⟨ii, f, e3, e4⟩ := hpl _ _ e1
      obtain ⟨g1, g2, _⟩ := stD_some e1
      rw [e3] at e1
      have hown := hI.own hk g2
      have hblk := hown.blk
      have hy : ∀ b, blk (av a s) = some b → B ≤ b ∧ ∃ p, O b = some p ∧ p.1 ∈ [s] := fun b hb => ⟨(hblk b hb).1.2 rfl, _, (hblk b hb).1.1, by simp⟩
      have hrep : RepV w (FB (addF F (av a s)) B (rootLv c.K r)) (nth δ s) (av a s) := by
        refine RepV_mono (fun b hb => ?_) (fun _ _ => rfl) (OwnV_rep (hown.own (own' := fun g => B ≤ g ∧ V.blk (av a s) = some g) fun b hb ho => ⟨ho.2 rfl, hb⟩))
        rcases hb with hb | ⟨hb1, hb2⟩
        · exact FB_le h2 _ (FB_mono (fun _ h => .inl h) _ hb)
        · have hx : addF F (av a s) b := .inr hb2
          generalize rootLv c.K r = lv at h1
          match lv, h1 with
          | 1, _ => exact ⟨hx, hb1⟩
          | _ + 2, _ => exact hx
      obtain ⟨g, w', h1', h2', h3', h4', h5', h6', h7', h8', h9', h10'⟩ := store_core hI (yy := av a s) (yv := av a s) g1 e4 e1 (hi.size w) (fun w' hw => RepV_mono (fun _ h => h) (fun b hb => hw b (FB_sub b hb)) hrep) (fun g hg hb => by
        obtain ⟨_, p, hp, hp'⟩ := hy g hb
        rw [hg] at hp
        cases hp
        have e : r = s := by simpa using hp'
        exact hsr e.symm)
      obtain ⟨F', O', hI'⟩ := hI.write (ts := [s]) (y := av a s) (by simpa using fun e => hsr e.symm) hy h9' (RefV_root e4) h2' h10' h4' h5' h6' h7' h8' h3'
      refine wp_skipn hd (w' := w') ?_ hI' e2 Q
      simp only [execOp, ho, Sem.run_bind, eval_tmp, h1', Result.andThen_ok, Sem.run_pure]
    · cases hA
  · cases hA
  · rename_i v
    split at hA
    case h_2 => cases hA
    rename_i hv
    cases hA
    simp only [goAc, goP_eq] at hg
    refine dat (constD v) ?_ hg
    have := hI.opd (x := .const v) (by simp [lvOf, hv])
    simp only [lvOf, hv, opD] at this
    exact RepB_le (Nat.zero_le _) this
  · rename_i f
    cases hA
    simp only [goAc, goP_eq] at hg
    refine dat (.clo f []) ?_ hg
    have := hI.opd (x := .func f) (by simp [lvOf])
    simp only [lvOf, opD] at this
    exact RepB_le (Nat.zero_le _) this

theorem sound_store (hT : okT P c.T = true) {o : Oper} {t : Nat} {p x : Operand} (ho : o.op = .store t p x) : Sound P c o := by
  intro A hA B X w0 F0 F O a w δ hI k rr hg Q
  simp only [actOf, ho] at hA
  split at hA
  case h_2 => cases hA
  rename_i hd
  have hA0 := withT_some hA
  clear hA
  obtain ⟨i, hi, hA⟩ := hA0
  have hti := tok hT hi
  unfold stOf at hA
  split at hA
  case h_2 => cases hA
  rename_i q
  split at hA
  · rename_i n lv io hk
    have hlv : rootLv c.K q = lv := by simp [rootLv, hk]
    rw [← hlv] at hA
    refine stTo_sound ho hd hti hI (fun y b' hst => ?_) hA hg Q
    rw [if_pos rfl] at hst ⊢
    obtain ⟨hb, _, _⟩ := stD_some hst
    obtain ⟨l, us, g, e, _, a1, _⟩ := hI.box hk hb
    refine ⟨0, 0, rfl, ?_⟩
    rw [hk]
    exact ⟨g, a1, a1⟩
  · rename_i r hk
    refine stTo_sound ho hd hti hI (fun y b' hst => ?_) hA hg Q
    by_cases e : q = r
    · subst e
      obtain ⟨hb, _, _⟩ := stD_some hst
      obtain ⟨i', f', h1, _⟩ := hI.ref hk hb
      rw [h1] at hst
      simp [stD] at hst
    · rw [if_neg e] at hst ⊢
      obtain ⟨_, _, ii, f, hp⟩ := stD_some hst
      obtain ⟨i', f', h1, h2, h3⟩ := hI.ref hk (by rw [hp]; simp)
      exact ⟨i', f', h1, h3⟩
  · cases hA

end
end Go.V
/-
  New slices, appends, parts of owned slices, parts of tuples: they keep the invariant.
-/
namespace Go.V
open Go.RowKit

section
variable {P : Program} {c : Cx} {B : Nat} {X : Nat → Prop} {w0 : World} {F0 F : Nat → Prop} {O : Nat → Option (Nat × Nat)} {a : Act} {w : World} {δ : List D}

/-- A slice in a new block, over all of its first cells. -/
theorem OwnV_new {F : Nat → Prop} {z n cap t : Nat} {l : List D} {us : List Value} {cs : Array Value} (hr : RepL w F l us) (hl : ∀ d ∈ l, d.width = z) (hn : l.length = n) (hc : n ≤ cap) (hs : cap * z ≤ cs.size) (hu : ∀ (i : Nat) (u : Value), us[i]? = some u → cs[i]? = some u)
    (hF : ∀ b, F b → b < w.heap.size) : OwnV (w.alloc (.cells cs t)) F (fun g => w.heap.size ≤ g) z (.arr z l) (.slice (some ⟨w.heap.size, 0, none⟩) n cap) :=
  ⟨l, rfl, hl, .inr ⟨w.heap.size, 0, cap, us, cs, t, by rw [hn], by rw [hn]; exact hc, heap_alloc_new w _, by simpa using hs, RepL_mono (fun _ h => h) (fun b hb => heap_alloc_old w _ (hF b hb)) _ _ hr, by simpa using hu, Nat.le_refl _⟩⟩

theorem lenOkD_all {z n : Nat} {l : List D} (h : lenOkD z n l = true) : (∀ d ∈ l, d.width = z) ∧ ∀ d ∈ l, d ≠ .bad ∧ ∀ m, d ≠ .tup m := by
  unfold lenOkD at h
  rw [List.all_eq_true] at h
  refine ⟨fun d hd => ?_, fun d hd => ⟨fun e => ?_, fun m e => ?_⟩⟩
  · have := h d hd
    simp only [Bool.and_eq_true, beq_iff_eq] at this
    exact this.1.1
  · have := h d hd
    subst e
    simp [D.single] at this
  · have := h d hd
    subst e
    simp [D.single] at this

/-- Elements laid side by side. -/
theorem RepL_flat {G : Nat → Prop} : ∀ (ds : List D) (ys : List Value), RepBs w G ds ys → (∀ d ∈ ds, d ≠ .bad ∧ ∀ m, d ≠ .tup m) → RepL w G ds (ys.flatMap fun y => y.cells.toList)
  | [], [], _, _ => RepL_nil.2 rfl
  | d :: ds, y :: ys, h, hb => RepL_cons.2 ⟨_, _, rfl, (RepV_cells (h.1.rep (hb d (by simp)).1) (hb d (by simp)).2).1, RepL_flat ds ys h.2 fun e he => hb e (by simp [he])⟩
  | [], _ :: _, h, _ => h.elim
  | _ :: _, [], h, _ => h.elim

theorem iotaN_ok (ρ : Operand → Value) : ∀ (parts : List (Nat × Operand)) (k n : Nat), iotaN k parts n = true → n = k + parts.length ∧ ∀ (j : Nat) (p : Nat × Operand), parts[j]? = some p → p.1 = k + j
  | [], k, n, h => by
    simp only [iotaN] at h
    exact ⟨(beq_iff.1 h).symm, by simp⟩
  | (i, x) :: ps, k, n, h => by
    simp only [iotaN] at h
    split at h
    case h_2 => cases h
    rename_i hi
    rw [beq_iff] at hi
    obtain ⟨h1, h2⟩ := iotaN_ok ρ ps (k + 1) n h
    refine ⟨by simp; omega, fun j p hj => ?_⟩
    cases j with
    | zero => simp at hj; subst hj; simp [hi]
    | succ j => rw [h2 j p (by simpa using hj)]; omega

/-- Parts laid one behind the other into cells. -/
theorem fill_iota {z : Nat} : ∀ (parts : List (Nat × Value)) (k : Nat) (us : List Value), (∀ (j : Nat) (p : Nat × Value), parts[j]? = some p → p.1 = k + j ∧ p.2.cells.size = z) → (k + parts.length) * z ≤ us.length →
    Instr.fill (fun i => some (i * z, z)) us.toArray parts = some (us.take (k * z) ++ (parts.flatMap fun p => p.2.cells.toList) ++ us.drop ((k + parts.length) * z)).toArray
  | [], k, us, _, _ => by simp [Instr.fill]
  | (i, v) :: ps, k, us, h, hl => by
    obtain ⟨h1, h2⟩ := h 0 (i, v) rfl
    simp only [Nat.add_zero] at h1 h2
    simp only [List.length_cons] at hl
    have hkz : (k + (ps.length + 1)) * z = k * z + z + ps.length * z := by rw [Nat.add_mul, Nat.succ_mul]; omega
    rw [hkz] at hl
    have hvl : v.cells.toList.length = z := by simpa using h2
    have hfs := fill_set v.cells.toList (k * z) 0 us (by rw [hvl]; omega)
    simp only [Nat.add_zero, hvl] at hfs
    have ih := fill_iota ps (k + 1) (us.take (k * z) ++ v.cells.toList ++ us.drop (k * z + z)) (fun j p hj => by
      obtain ⟨g1, g2⟩ := h (j + 1) p (by simpa using hj)
      exact ⟨by omega, g2⟩) (by
      simp only [List.length_append, List.length_take, List.length_drop, hvl]
      rw [show k + 1 + ps.length = k + (ps.length + 1) from by omega, hkz]
      omega)
    simp only [Instr.fill, h1, h2]
    rw [if_neg (by simp; omega)]
    have e1 : (v.cells.zipIdx.foldl (fun cs (c, j) => cs.setIfInBounds (k * z + j) c) us.toArray) = (us.take (k * z) ++ v.cells.toList ++ us.drop (k * z + z)).toArray := by
      rw [← hfs]
      rw [← Array.foldl_toList]
      simp
    rw [e1, ih]
    have l1 : (us.take (k * z)).length = k * z := by rw [List.length_take]; omega
    have l2 : (us.take (k * z) ++ v.cells.toList).length = (k + 1) * z := by rw [List.length_append, l1, hvl, Nat.succ_mul]
    have t1 : (us.take (k * z) ++ v.cells.toList ++ us.drop (k * z + z)).take ((k + 1) * z) = us.take (k * z) ++ v.cells.toList := by rw [← l2]; exact List.take_left
    have t2 : (us.take (k * z) ++ v.cells.toList ++ us.drop (k * z + z)).drop ((k + 1 + ps.length) * z) = us.drop ((k + (ps.length + 1)) * z) := by
      rw [Nat.add_mul, ← l2, List.drop_length_add_append, List.drop_drop]
      congr 1
      rw [hkz]
    rw [t1, t2]
    simp

theorem sound_buildSlice (hT : okT P c.T = true) {o : Oper} {t n : Nat} {parts : Array (Nat × Operand)} (ho : o.op = .buildSlice t n parts) : Sound P c o := by
  intro A hA B X w0 F0 F O a w δ hI k r hg Q
  simp only [actOf, ho] at hA
  have hA0 := withT_some hA
  clear hA
  obtain ⟨i, hi, hA⟩ := hA0
  have hA0 := withT_some hA
  clear hA
  obtain ⟨e, he, hA⟩ := hA0
  have hti := tok hT hi
  have hte := tok hT he
  split at hA
  case h_2 => cases hA
  rename_i hsl
  obtain ⟨hu, _, hez, _, y, hy, hys, _⟩ := isSl_ok hti hsl
  unfold bsOf at hA
  simp only at hA
  split at hA
  · cases hA
  rename_i d hd
  split at hA
  case h_2 => cases hA
  rename_i h1 h2 h3 h4
  rw [ble_iff] at h2 h4
  cases hA
  simp only [goAc] at hg
  rw [valsOf_eq] at hg
  obtain ⟨z, hz, hk⟩ := Option.bind_eq_some_iff.1 hg
  unfold mkArr at hz
  split at hz
  case isFalse => cases hz
  rename_i hok
  cases hz
  obtain ⟨hw1, hb1⟩ := lenOkD_all hok
  have hxs : (mapD (fun p => p.2) parts.toList).map a.eval = (parts.toList.map fun p => (p.1, a.eval p.2)).map (·.2) := by rw [mapD_eq]; simp [Function.comp_def]
  have hbs : RepBs w (FB F B (lvAll c.K (mapD (fun p => p.2) parts.toList))) ((mapD (fun p => p.2) parts.toList).map (opD δ)) ((mapD (fun p => p.2) parts.toList).map a.eval) :=
    RepBs_of _ fun x hx => RepB_le (lvAll_le _ x hx) (hI.opd (lvAll_mem h4 x hx))
  have hrl := RepL_flat _ _ hbs hb1
  obtain ⟨hn, hix⟩ := iotaN_ok a.eval parts.toList 0 n h1
  simp only [Nat.zero_add] at hn hix
  have hsz : ∀ (j : Nat) (p : Nat × Value), (parts.toList.map fun p => (p.1, a.eval p.2))[j]? = some p → p.1 = 0 + j ∧ p.2.cells.size = i.ez := by
    intro j p hj
    rw [List.getElem?_map] at hj
    obtain ⟨q, hq, rfl⟩ := Option.map_eq_some_iff.1 hj
    refine ⟨by rw [hix j q hq, Nat.zero_add], ?_⟩
    have hmem : q.2 ∈ mapD (fun p => p.2) parts.toList := by rw [mapD_eq]; exact List.mem_map_of_mem (List.mem_of_getElem? hq)
    have hrb := hI.opd (lvAll_mem h4 _ hmem)
    have hdm : opD δ q.2 ∈ (mapD (fun p => p.2) parts.toList).map (opD δ) := List.mem_map_of_mem hmem
    have hc := RepC_width (RepV_cells (hrb.rep (hb1 _ hdm).1) (hb1 _ hdm).2).1
    rw [hw1 _ hdm] at hc
    simpa using hc
  obtain ⟨y', zv, k1, k2, k3, _⟩ := hte.info
  rw [hy] at k1
  cases k1
  generalize hus : ((Array.range (n * i.ez)).map (fun j => (if n * i.ez = 0 then (#[] : Array Value) else zv.cells)[j % (if n * i.ez = 0 then (#[] : Array Value) else zv.cells).size]!)) = us0
  have husl : us0.size = n * i.ez := by rw [← hus]; simp
  have hfill := fill_iota (z := i.ez) (parts.toList.map fun p => (p.1, a.eval p.2)) 0 us0.toList hsz (by simp [husl, hn])
  have hdrop : us0.toList.drop ((0 + (parts.toList.map fun p => (p.1, a.eval p.2)).length) * i.ez) = [] := List.drop_eq_nil_of_le (by simp [husl, hn])
  rw [hdrop] at hfill
  simp only [Nat.zero_mul, List.take_zero, List.nil_append, List.append_nil, Array.toArray_toList] at hfill
  have hfl : ((parts.toList.map fun p => (p.1, a.eval p.2)).flatMap fun p => p.2.cells.toList) = ((mapD (fun p => p.2) parts.toList).map a.eval).flatMap fun y => y.cells.toList := by
    rw [mapD_eq]
    simp [List.flatMap_map]
  rw [hfl] at hfill
  have hrun : (execOp a.eval o).run P w = .ok (.value (.slice (some ⟨w.heap.size, 0, none⟩) n n)) (w.alloc (.cells (((mapD (fun p => p.2) parts.toList).map a.eval).flatMap fun y => y.cells.toList).toArray i.elem)) := by
    refine run_v (s := Instr.buildSlice t n (parts.map fun (i, x) => (i, a.eval x))) (by simp only [execOp, ho]) ?_
    have hnot : ¬ (16777216 < n * i.ez) := by omega
    by_cases h0 : n * i.ez = 0
    · simp only [h0, if_true] at hus
      simp [Instr.buildSlice, run_underlying hu, sizeOf, typeInfo, hy, hys, h0]
      have e0 : us0 = #[] := Array.eq_empty_of_size_eq_zero (husl.trans h0)
      have e1 : Array.map (fun _ => (default : Value)) (Array.range 0) = us0 := by rw [e0, Array.range_zero', Array.map_empty]
      rw [e1, hfill]
      simp [newRow]
    · simp only [h0, if_false] at hus
      simp [Instr.buildSlice, run_underlying hu, sizeOf, typeInfo, hy, hys, h0, hnot, zeroValue, k3]
      rw [hus, hfill]
      simp [newRow]
  have hlenE : ((mapD (fun p => p.2) parts.toList).map (opD δ)).length = n := by rw [mapD_eq]; simp [hn]
  have hlenU := RepL_length _ _ hrl hw1
  obtain ⟨F', O', hI'⟩ := hI.fresh (d := d) h3 (OwnV_new (w := w) (t := i.elem) (cap := n) (cs := (((mapD (fun p => p.2) parts.toList).map a.eval).flatMap fun y => y.cells.toList).toArray) hrl hw1 hlenE (Nat.le_refl _) (by simp only [List.size_toArray, hlenU, hlenE]; exact Nat.le_refl _) (fun j u hu => by simpa using hu) (fun b hb => (hI.fl b (FB_sub b hb)).1)) (by simp) (fun b hb => heap_alloc_old w _ hb) rfl rfl rfl
  exact many_skip hd hrun hI' hk Q

theorem RepBs_repl {G : Nat → Prop} {d : D} {y : Value} (h : RepB w G d y) : ∀ {n : Nat}, RepBs w G (List.replicate n d) (List.replicate n y)
  | 0 => trivial
  | _ + 1 => ⟨h, RepBs_repl h⟩

theorem repl_get {α : Type} {zs : List α} (hz : 0 < zs.length) : ∀ (m j : Nat) (u : α), ((List.replicate m zs).flatten)[j]? = some u → j < m * zs.length ∧ zs[j % zs.length]? = some u
  | 0, j, u, h => by simp at h
  | m + 1, j, u, h => by
    rw [List.replicate_succ, List.flatten_cons] at h
    rcases Nat.lt_or_ge j zs.length with hj | hj
    · rw [List.getElem?_append_left hj] at h
      refine ⟨by rw [Nat.succ_mul]; omega, by rw [Nat.mod_eq_of_lt hj]; exact h⟩
    · rw [List.getElem?_append_right hj] at h
      obtain ⟨h1, h2⟩ := repl_get hz m _ u h
      refine ⟨by rw [Nat.succ_mul]; omega, ?_⟩
      rw [← h2, Nat.mod_eq_sub_mod hj]

theorem made_get {z : Value} {ez n m : Nat} (hz : z.cells.size = ez) (hez : 0 < ez) (hle : m * ez ≤ n) {j : Nat} {u : Value} (h : ((List.replicate m z).flatMap fun y => y.cells.toList)[j]? = some u) : (madeCells z.cells n)[j]? = some u := by
  have e : ((List.replicate m z).flatMap fun y => y.cells.toList) = (List.replicate m z.cells.toList).flatten := by
    rw [List.flatMap_def]
    simp
  rw [e] at h
  obtain ⟨h1, h2⟩ := repl_get (by simpa [hz] using hez) m j u h
  have hl : z.cells.toList.length = ez := by simpa using hz
  rw [hl] at h1 h2
  have hjn : j < n := by omega
  have hlt : j % ez < z.cells.size := by rw [hz]; exact Nat.mod_lt _ hez
  simp only [madeCells, Array.getElem?_map, Array.getElem?_range, hjn, if_true, Option.map_some, hz, Option.some.injEq]
  rw [Array.getElem!_eq_getD, Array.getD_eq_getD_getElem?]
  have : z.cells[j % ez]? = some u := by simpa using h2
  rw [this]
  rfl

theorem sound_makeSlice (hT : okT P c.T = true) {o : Oper} {t : Nat} {n m : Operand} (ho : o.op = .makeSlice t n m) : Sound P c o := by
  intro A hA B X w0 F0 F O a w δ hI k r hg Q
  simp only [actOf, ho] at hA
  have hA0 := withT_some hA
  clear hA
  obtain ⟨i, hi, hA⟩ := hA0
  have hA0 := withT_some hA
  clear hA
  obtain ⟨e, he, hA⟩ := hA0
  have hti := tok hT hi
  have hte := tok hT he
  split at hA
  case h_2 => cases hA
  rename_i hsl
  obtain ⟨hu, _, hez, heb, y, hy, hys, hyb⟩ := isSl_ok hti hsl
  unfold mkOf at hA
  split at hA
  case h_2 => cases hA
  rename_i d hd hn hm
  split at hA
  case h_2 => cases hA
  rename_i hk3
  cases hA
  simp only [goAc] at hg
  rw [valsOf_eq] at hg
  obtain ⟨z, hz, hk⟩ := Option.bind_eq_some_iff.1 hg
  simp only [List.map_cons, List.map_nil] at hz
  unfold makD at hz
  split at hz
  case h_2 => cases hz
  rename_i k1 l k2 cp e1 e2
  split at hz
  case isFalse => cases hz
  rename_i hc
  obtain ⟨c1, c2, c3, c4⟩ := hc
  cases hz
  have hn' := hI.opd (ble_iff.1 hn)
  have hm' := hI.opd (ble_iff.1 hm)
  rw [e1] at hn'
  rw [e2] at hm'
  obtain ⟨hn', _⟩ := RepB_v hn'
  obtain ⟨hm', _⟩ := RepB_v hm'
  obtain ⟨y', zv, q1, q2, q3, q4, q5⟩ := hte.info
  rw [hy] at q1
  cases q1
  have hrun : (execOp a.eval o).run P w = .ok (.value (.slice (some ⟨w.heap.size, 0, none⟩) l.toNat cp.toNat)) (w.alloc (.cells (madeCells zv.cells (cp.toNat * y.size)) i.elem)) := by
    refine run_v (s := Instr.makeSlice t (a.eval n) (a.eval m)) (by simp only [execOp, ho]) ?_
    rw [hn', hm']
    exact run_make w t i.elem y zv hu hy q3 k1 k2 l cp c1 c2 (by rw [hyb, Int.mul_comm]; omega) (by omega)
  obtain ⟨z', hz1, hz2, hz3, hz4⟩ := hte.zero
  have hzt : ∀ m, zeroD e ≠ .tup m := fun m hm => zeroD_tup hz3 hm
  have hzz : z' = zv := by
    have h1 := hz1 w
    simp [zeroValue, typeInfo, hy, q3] at h1
    exact h1.symm
  subst hzz
  have hzs : z'.cells.size = i.ez := by rw [hz4, hte.zl, ← q2, hys]
  have hwz : (zeroD e).width = i.ez := by
    have := RepC_width (RepV_cells (hz2 w (FB F B 0)).1 hzt).1
    rw [← this]
    simpa using hzs
  have hrl : RepL w (FB F B 0) (List.replicate l.toNat (zeroD e)) ((List.replicate l.toNat z').flatMap fun y => y.cells.toList) :=
    RepL_flat _ _ (RepBs_repl (.inr (hz2 w _).1)) fun d hd => by rw [(List.mem_replicate.1 hd).2]; exact ⟨RepV_ne (hz2 w (FB F B 0)).1, hzt⟩
  obtain ⟨F', O', hI'⟩ := hI.fresh (d := d) hk3 (OwnV_new (w := w) (t := i.elem) (n := l.toNat) (cap := cp.toNat) (cs := madeCells z'.cells (cp.toNat * y.size)) hrl (fun d hd => by rw [(List.mem_replicate.1 hd).2]; exact hwz) (by simp) (by omega) (by rw [size_madeCells, hys]; exact Nat.le_refl _) (fun j u hu => made_get (by simpa using hzs) hez (by rw [hys]; exact Nat.mul_le_mul_right _ (by omega)) hu) (fun b hb => (hI.fl b (FB_sub b hb)).1)) (by simp) (fun b hb => heap_alloc_old w _ hb) rfl rfl rfl
  exact many_skip hd hrun hI' hk Q

end
end Go.V
/-
  Appends, parts of owned slices, parts of tuples: they keep the invariant.
-/
namespace Go.V
open Go.RowKit

section
variable {P : Program} {c : Cx} {B : Nat} {X : Nat → Prop} {w0 : World} {F0 F : Nat → Prop} {O : Nat → Option (Nat × Nat)} {a : Act} {w : World} {δ : List D}

theorem getAll_append : ∀ (x y : List Nat), getAll δ (x ++ y) = getAll δ x ++ getAll δ y
  | [], _ => rfl
  | s :: x, y => by simp [getAll, getAll_append x y]
theorem getAll_len : ∀ (x : List Nat), (getAll δ x).length = x.length
  | [] => rfl
  | _ :: x => by simp [getAll, getAll_len x]

/-- What a slice reads as. -/
def SrcR (w : World) (G : Nat → Prop) (d : D) (y : Value) : Prop :=
  ∀ z l, d = .arr z l → ∃ A cc us, y = .slice A l.length cc ∧ RepL w G l us ∧ (∀ e ∈ l, e.width = z) ∧ (l ≠ [] → ∃ b o, A = some ⟨b, o, none⟩ ∧ CellsAt w b o us)

theorem SrcR_dat {G : Nat → Prop} {d : D} {y : Value} (h : RepB w G d y) : SrcR w G d y := by
  intro z l e
  subst e
  obtain ⟨A, cc, us, h1, _, h3, h4, h5⟩ := RepV_arr (h.rep (by simp))
  exact ⟨A, cc, us, h1, h3, h4, fun hne => by
    obtain ⟨b, o, e, _, hc⟩ := h5 hne
    exact ⟨b, o, e, hc⟩⟩
theorem SrcR_own {G own : Nat → Prop} {z : Nat} {d : D} {y : Value} (h : OwnV w G own z d y) : SrcR w G d y := by
  intro z' l e
  subst e
  obtain ⟨l', e, h2, h3⟩ := h
  cases e
  rcases h3 with ⟨rfl, rfl⟩ | ⟨g, o, cc, us, cs, e, rfl, a2, a3, a4, a5, a6, a7⟩
  · exact ⟨none, 0, [], rfl, RepL_nil.2 rfl, h2, fun h => absurd rfl h⟩
  · exact ⟨_, cc, us, rfl, a5, h2, fun _ => ⟨g, o, rfl, cells_at a3 a6⟩⟩

theorem src_ok (hI : Inv c B X w0 F0 F O a w δ) {x : Operand} {rd more : List Nat} {lv : Nat} {q : Option Nat} (h : srcOf c.K x = some (rd, lv, q)) {kk : D → Option Out} {rr : Out} (hk : srcVal rd (getAll δ (app rd more)) kk = some rr) :
    ∃ dx, kk dx = some rr ∧ dropN (lenN rd) (getAll δ (app rd more)) = getAll δ more ∧ SrcR w (FB F B lv) dx (a.eval x) ∧
      ((q = none ∧ (rd = [] → x = .const (.slice none 0 0) ∧ dx = .arr 0 [])) ∨ ∃ r z io, q = some r ∧ rd ≠ [] ∧ dx = nth δ r ∧ a.eval x = av a r ∧ nthK c.K r = .own z lv io) := by
  rw [app_eq] at hk ⊢
  have hdrop : dropN (lenN rd) (getAll δ (rd ++ more)) = getAll δ more := by
    rw [dropN_eq, lenN_eq, getAll_append, ← getAll_len (δ := δ) rd, List.drop_left]
  unfold srcOf at h
  split at h
  · rename_i t
    split at h
    · rename_i l hkt
      simp at h
      obtain ⟨rfl, rfl, rfl⟩ := h
      simp only [srcVal, getAll, List.singleton_append] at hk
      exact ⟨_, hk, hdrop, SrcR_dat (hI.dat hkt), .inl ⟨rfl, fun e => by cases e⟩⟩
    · rename_i z l io hkt
      simp at h
      obtain ⟨rfl, rfl, rfl⟩ := h
      simp only [srcVal, getAll, List.singleton_append] at hk
      refine ⟨_, hk, hdrop, ?_, .inr ⟨t, z, io, rfl, by simp, rfl, rfl, hkt⟩⟩
      by_cases hb : nth δ t = .bad
      · intro z' l' e
        rw [hb] at e; cases e
      · exact SrcR_own (hI.own hkt hb)
    · rename_i s hkt
      split at h
      case h_2 => cases h
      rename_i z l io hks
      simp at h
      obtain ⟨rfl, rfl, rfl⟩ := h
      simp only [srcVal, nthC_eq, getAll, List.cons_append, List.nil_append, nth] at hk
      obtain ⟨y, h1, h2⟩ := Option.bind_eq_some_iff.1 hk
      obtain ⟨hb, rfl⟩ := liveD_some h1
      obtain ⟨g1, g2, g3, g4⟩ := hI.via hkt hb
      refine ⟨_, h2, hdrop, ?_, .inr ⟨s, z, io, rfl, by simp, rfl, g1, hks⟩⟩
      rw [eval_tmp, g1]
      exact SrcR_own (hI.own hks g3)
    · cases h
  · simp at h
    obtain ⟨rfl, rfl, rfl⟩ := h
    simp only [srcVal] at hk
    refine ⟨_, hk, hdrop, ?_, .inl ⟨rfl, fun _ => ⟨rfl, rfl⟩⟩⟩
    intro z l e
    cases e
    exact ⟨none, 0, [], rfl, RepL_nil.2 rfl, by simp, fun h => absurd rfl h⟩
  · cases h

theorem RepL_isVs {w w' : World} {G G' : Nat → Prop} : ∀ (l : List D) (us : List Value), l.all D.isV = true → RepL w G l us → RepL w' G' l us
  | [], us, _, h => by rw [RepL_nil] at h ⊢; exact h
  | d :: l, us, hv, h => by
    obtain ⟨v1, v2, rfl, h1, h2⟩ := RepL_cons.1 h
    simp only [List.all_cons, Bool.and_eq_true] at hv
    refine RepL_cons.2 ⟨v1, v2, rfl, ?_, RepL_isVs l v2 hv.2 h2⟩
    cases d with
    | v x => simpa only [RepC] using h1
    | agg m =>
      simp only [RepC] at h1 ⊢
      exact ⟨RepL_isV m v1 hv.1 h1.1, h1.2⟩
    | _ => simp [D.isV] at hv

theorem append_room_run {t ty e : Nat} {i : TypeInfo} (ht : P.underlying t = some (.slice e)) (hi : P.info? e = some i) {g o et sLen sCap m cx : Nat} {cur : Array Value} (hg : w.heap[g]? = some (.cells cur et (0, 0))) {A : Option Addr} {news : List Value}
    (hx : (Builtin.firstCells i.size m (.slice A m cx)).run P w = .ok news.toArray w) (h1 : ∀ u ∈ news, u.oneCell' = true) (hroom : sLen + m ≤ sCap) (hfit : o + sLen * i.size + news.length ≤ cur.size) :
    (Builtin.append_ #[t, t] ty #[.slice (some ⟨g, o, none⟩) sLen sCap, .slice A m cx]).run P w =
      .ok (.slice (some ⟨g, o, none⟩) (sLen + m) sCap) (w.setRow g (cur.toList.take (o + sLen * i.size) ++ news ++ cur.toList.drop (o + sLen * i.size + news.length)).toArray) := by
  have hst := run_storeCells_at P g (o + sLen * i.size) et news 0 cur w hg (by simpa using hfit) h1
  simp only [Nat.add_zero] at hst
  simp [Builtin.append_, run_underlying ht, sizeOf, typeInfo, hi, Builtin.lenOf, hroom, hx, Addr.add_lit, hst]

theorem first_run {G : Nat → Prop} {z m cx : Nat} {l : List D} {us : List Value} {A : Option Addr} (hl : l.length = m) (hr : RepL w G l us) (hw : ∀ e ∈ l, e.width = z) (hc : l ≠ [] → ∃ b o, A = some ⟨b, o, none⟩ ∧ CellsAt w b o us) :
    (Builtin.firstCells z m (.slice A m cx)).run P w = .ok us.toArray w := by
  have hul := RepL_length l us hr hw
  cases A with
  | none =>
    have : l = [] := by
      by_cases h : l = []
      · exact h
      · obtain ⟨b, o, e, _⟩ := hc h
        cases e
    subst this
    rw [RepL_nil] at hr
    subst hr
    exact run_firstCells_none w z m m cx
  | some ad =>
    refine run_firstCells_some w z m ad m cx us (by rw [hul, hl]) (fun j v hj => ?_)
    obtain ⟨b, o, e, hcell⟩ := hc (by
      intro e
      subst e
      rw [RepL_nil] at hr
      subst hr
      simp at hj)
    cases e
    rw [Addr.add_lit]
    exact hcell j v hj

theorem RepL_one {G : Nat → Prop} : ∀ (l : List D) (us : List Value), RepL w G l us → ∀ u ∈ us, u.oneCell' = true
  | [], us, h => by rw [RepL_nil] at h; subst h; simp
  | d :: l, us, h => by
    obtain ⟨v1, v2, rfl, h1, h2⟩ := RepL_cons.1 h
    intro u hu
    rcases List.mem_append.1 hu with hu | hu
    · rcases RepC_kind h1 with ⟨m, rfl⟩ | hs
      · simp only [RepC] at h1
        exact ((RepL_single _ _ h1.2 h1.1).2.1 u hu).1
      · obtain ⟨y, rfl, _, hy⟩ := RepC_len _ _ hs h1
        simp at hu
        subst hu
        exact hy
    · exact RepL_one l v2 h2 u hu

theorem cells_app {us ws cs : List Value} {o k : Nat} (hu : us.length = k) (h : ∀ (j : Nat) (u : Value), us[j]? = some u → cs[o + j]? = some u) (hc : o + k + ws.length ≤ cs.length) :
    ∀ (j : Nat) (u : Value), (us ++ ws)[j]? = some u → (cs.take (o + k) ++ ws ++ cs.drop (o + k + ws.length))[o + j]? = some u := by
  intro j u hj
  have l1 : (cs.take (o + k)).length = o + k := by rw [List.length_take]; omega
  rcases Nat.lt_or_ge j us.length with hju | hju
  · rw [List.getElem?_append_left hju] at hj
    rw [List.append_assoc, List.getElem?_append_left (by omega), List.getElem?_take_of_lt (by omega)]
    exact h j u hj
  · rw [List.getElem?_append_right hju] at hj
    have hjw := (List.getElem?_eq_some_iff.1 hj).1
    rw [List.append_assoc, List.getElem?_append_right (by omega), l1, List.getElem?_append_left (by omega)]
    rw [← hj]
    congr 1
    omega

/-- An append: to what is owned, or to nil. -/
theorem append_run {t ty : Nat} {i e : TI} (hi : TOk P t i) (hsl : isSl i = true) (he : TOk P i.elem e) {G own : Nat → Prop} (hG : ∀ b, G b → b < w.heap.size ∧ ¬ own b) {l m : List D} {ys yx : Value} (hs : OwnV w G own i.ez (.arr i.ez l) ys) (hx : SrcR w G (.arr i.ez m) yx)
    (hb : (l.length + m.length) * i.eb ≤ 140737488355328) (hb2 : l.length + m.length ≤ 1152921504606846976) :
    ∃ v w', (Builtin.append_ #[t, t] ty #[ys, yx]).run P w = .ok v w' ∧ OwnV w' G (fun g => own g ∨ w.heap.size ≤ g) i.ez (.arr i.ez (l ++ m)) v ∧ w.heap.size ≤ w'.heap.size ∧ (∀ b, b < w.heap.size → ¬ own b → w'.heap[b]? = w.heap[b]?) ∧
      w'.os = w.os ∧ w'.tape = w.tape ∧ w'.output = w.output := by
  obtain ⟨hu, _, hez, heb, y, hy, hys, hyb⟩ := isSl_ok hi hsl
  obtain ⟨y', zv, q1, q2, q3, q4, q5⟩ := he.info
  rw [hy] at q1
  cases q1
  have hzs : zv.cells.size = i.ez := by
    obtain ⟨z', hz1, _, _, hz4⟩ := he.zero
    have h1 := hz1 w
    simp [zeroValue, typeInfo, hy, q3] at h1
    subst h1
    rw [hz4, he.zl, ← q2, hys]
  obtain ⟨A, cx, ws, hyx, hm, hmw, hmc⟩ := hx _ _ rfl
  subst hyx
  have hwl := RepL_length m ws hm hmw
  obtain ⟨l', el, hlw, hrest⟩ := hs
  cases el
  have grow : ∀ (us : List Value) (old cap' : Nat), us.length = l.length * i.ez → RepL w G l us → OwnV (w.drew.alloc (.cells (us.toArray ++ ws.toArray ++ Builtin.zeroCells zv.cells (grownCap w (l.length + m.length) old i.elem - (l.length + m.length))) i.elem)) G (fun g => own g ∨ w.heap.size ≤ g) i.ez (.arr i.ez (l ++ m)) (.slice (some ⟨w.heap.size, 0, none⟩) (l.length + m.length) (grownCap w (l.length + m.length) old i.elem)) := by
    intro us old _ hul hr
    have hge := grownCap_ge w (l.length + m.length) old i.elem
    have := OwnV_new (w := w.drew) (F := G) (z := i.ez) (n := l.length + m.length) (cap := grownCap w (l.length + m.length) old i.elem) (t := i.elem) (l := l ++ m) (us := us ++ ws) (cs := us.toArray ++ ws.toArray ++ Builtin.zeroCells zv.cells (grownCap w (l.length + m.length) old i.elem - (l.length + m.length)))
      ((RepL_append _ _ _).2 ⟨_, _, rfl, RepL_mono (w := w) (w' := w.drew) (fun _ h => h) (fun _ _ => rfl) _ _ hr, RepL_mono (w := w) (w' := w.drew) (fun _ h => h) (fun _ _ => rfl) _ _ hm⟩) (fun d hd => (List.mem_append.1 hd).elim (hlw d) (hmw d)) (by simp) hge (by
        simp only [Array.size_append, List.size_toArray, size_zeroCells, hzs, hul, hwl, ← Nat.add_mul]
        exact Nat.mul_le_mul_right _ (by omega)) (fun j u hj => by
        rw [Array.getElem?_append_left]
        · simpa using hj
        · simp only [Array.size_append, List.size_toArray]
          have := (List.getElem?_eq_some_iff.1 hj).1
          simpa using this) (fun b hb => (hG b hb).1)
    exact this.own fun _ _ h => .inr h
  have hfirst := first_run (P := P) (w := w) (m := m.length) (cx := cx) rfl hm hmw hmc
  have hb' : (l.length + m.length) * y.bytes ≤ 140737488355328 := by rw [hyb]; exact hb
  rcases hrest with ⟨rfl, rfl⟩ | ⟨g, o, cc, us, cs, et, rfl, a2, a3, a4, a5, a6, a7⟩
  · by_cases hm0 : m = []
    · subst hm0
      refine ⟨.slice none 0 0, w, ?_, ⟨[], rfl, by simp, .inl ⟨rfl, rfl⟩⟩, Nat.le_refl _, fun _ _ _ => rfl, rfl, rfl, rfl⟩
      have hws : ws = [] := RepL_nil.1 hm
      subst hws
      simp only [List.length_nil] at hfirst
      rw [← hys] at hfirst
      simp [Builtin.append_, run_underlying hu, sizeOf, typeInfo, hy, Builtin.lenOf, hfirst]
    · obtain ⟨b, o, rfl, hcell⟩ := hmc hm0
      have hmp : 0 < m.length := List.length_pos_iff.2 hm0
      simp only [List.length_nil, Nat.zero_add] at hb' hb2
      have hr := run_append_nil (P := P) w t ty i.elem y zv hu hy q3 ⟨b, o, none⟩ m.length cx ws (by rw [hwl, hys]) (fun j v hj => by rw [Addr.add_lit]; exact hcell j v hj) hmp (by omega) (by omega)
      have hg := grow [] 0 0 (by simp) (RepL_nil.2 rfl)
      simp only [List.length_nil, Nat.zero_add, List.nil_append, Array.empty_append] at hg
      exact ⟨_, _, hr, hg, by simp, fun b hb _ => heap_alloc_old w.drew _ hb, rfl, rfl, rfl⟩
  · have hul := RepL_length l us a5 hlw
    by_cases hroom : l.length + m.length ≤ cc
    · have hlen : (l.length + m.length) * i.ez ≤ cc * i.ez := Nat.mul_le_mul_right _ hroom
      rw [Nat.add_mul] at hlen
      have hr := append_room_run (P := P) (ty := ty) (o := o) hu hy a3 (A := A) (news := ws) (sLen := l.length) (sCap := cc) (by rw [hys]; exact hfirst) (RepL_one _ _ hm) hroom (by rw [hys, hwl]; omega)
      have hFg : ∀ b, G b → b ≠ g := fun b hb e => (hG b hb).2 (e ▸ a7)
      refine ⟨_, _, hr, ?_, by rw [setRow_size]; exact Nat.le_refl _, fun b _ hb => setRow_other w g b _ fun e => hb (e ▸ a7), rfl, rfl, rfl⟩
      refine ⟨l ++ m, rfl, fun d hd => (List.mem_append.1 hd).elim (hlw d) (hmw d), .inr ⟨g, o, cc, us ++ ws, _, et, by rw [List.length_append], by rw [List.length_append]; exact hroom, setRow_heap w g cs _ et (0, 0) a3, ?_, ?_, ?_, .inl a7⟩⟩
      · simp only [List.size_toArray, List.length_append, List.length_take, List.length_drop, Array.length_toList, hys, hwl]
        omega
      · exact (RepL_append _ _ _).2 ⟨_, _, rfl, RepL_mono (fun _ h => h) (fun b hb => setRow_other w g b _ (hFg b hb)) _ _ a5, RepL_mono (fun _ h => h) (fun b hb => setRow_other w g b _ (hFg b hb)) _ _ hm⟩
      · intro j u hj
        rw [hys]
        simp only [List.getElem?_toArray]
        exact cells_app (o := o) (ws := ws) (cs := cs.toList) (k := l.length * i.ez) hul (fun j u hj => by simpa using a6 j u hj) (by
          rw [hwl]
          have e : cs.toList.length = cs.size := Array.length_toList
          rw [e]
          clear hb hb' hfirst hmc
          omega) j u hj
    · have hm0 : m ≠ [] := fun e => hroom (by subst e; simpa using a2)
      obtain ⟨b, o', rfl, hcell⟩ := hmc hm0
      have hr := run_append_grow (P := P) w t ty i.elem y zv hu hy q3 ⟨g, o, none⟩ l.length cc us (by rw [hul, hys]) (fun j v hj => by rw [Addr.add_lit]; exact cells_at a3 a6 j v hj) ⟨b, o', none⟩ m.length cx ws (by rw [hwl, hys]) (fun j v hj => by rw [Addr.add_lit]; exact hcell j v hj) (by omega) (by omega) (growslice_fits (by omega) hb')
      exact ⟨_, _, hr, grow us cc 0 hul a5, by simp, fun b hb _ => heap_alloc_old w.drew _ hb, rfl, rfl, rfl⟩

theorem sound_append (hT : okT P c.T = true) {o : Oper} {s x : Operand} {t : Nat} {q : Call} (ho : o.op = .call q) (hcl : q.callee = .builtin .append) (hargs : q.args.toList = [s, x]) (hty : q.argTypes.toList = [t, t]) {i e : TI} (hi : look c.T t = some i) (he : look c.T i.elem = some e) (hsl : isSl i = true)
    {A : Ac} (hA : apOf c o.dst i s x = some A) (hI : Inv c B X w0 F0 F O a w δ) {k : List D → Option Out} {r : Out} (hg : goAc c A δ k = some r) (Q : Exit → Act → World → Prop) : o.wp P a w (Next c B X w0 F0 k r) Q := by
  have hti := tok hT hi
  have hte := tok hT he
  have e1 : q.args = #[s, x] := by rw [← Array.toArray_toList (xs := q.args), hargs]
  have e2 : q.argTypes = #[t, t] := by rw [← Array.toArray_toList (xs := q.argTypes), hty]
  have hex : ∀ v w', (Builtin.append_ #[t, t] o.type #[a.eval s, a.eval x]).run P w = .ok v w' → (execOp a.eval o).run P w = .ok (.value v) w' := by
    intro v w' h
    simp [execOp, ho, resolve, hcl, invoke, builtin, e1, e2, h]
  have appD_some : ∀ {a b y : D}, appD i.ez i.eb a b = some y → ∃ l m, (∃ z, a = .arr z l ∧ (z = i.ez ∨ l = [])) ∧ (∃ z, b = .arr z m ∧ (z = i.ez ∨ m = [])) ∧ y = .arr i.ez (l ++ m) ∧ (l.length + m.length) * i.eb ≤ 140737488355328 ∧ l.length + m.length ≤ 1152921504606846976 := by
    intro a b y h
    unfold appD at h
    split at h
    · split at h
      · rename_i hc
        cases h
        exact ⟨_, _, ⟨_, rfl, hc.1⟩, ⟨_, rfl, hc.2.1⟩, rfl, hc.2.2.1, hc.2.2.2⟩
      · cases h
    · cases h
  have srcz : ∀ {G : Nat → Prop} {z : Nat} {m : List D} {y : Value}, (z = i.ez ∨ m = []) → SrcR w G (.arr z m) y → SrcR w G (.arr i.ez m) y := by
    intro G z m y hz h
    rcases hz with rfl | rfl
    · exact h
    · intro z' l e
      cases e
      obtain ⟨A, cc, us, h1, h2, _, _⟩ := h _ _ rfl
      exact ⟨A, cc, us, h1, h2, by simp, fun h => absurd rfl h⟩
  have srcle : ∀ {lv lv' : Nat} {d : D} {y : Value}, lv ≤ lv' → SrcR w (FB F B lv) d y → SrcR w (FB F B lv') d y := by
    intro lv lv' d y hle h z l e
    obtain ⟨A, cc, us, h1, h2, h3, h4⟩ := h z l e
    exact ⟨A, cc, us, h1, RepL_mono (FB_le hle) (fun _ _ => rfl) _ _ h2, h3, h4⟩
  have main : ∀ (d : Nat) (rs rx : List Nat) (ls lx : Nat) (os ox : Option Nat) (chk : Bool) (A : Ac), o.dst = some d → srcOf c.K s = some (rs, ls, os) → srcOf c.K x = some (rx, lx, ox) → newIn c.K d i.ez (max ls (if chk then 0 else lx)) = true → apTo c d i chk rs rx os = some A → goAc c A δ k = some r → o.wp P a w (Next c B X w0 F0 k r) Q := by
    intro d rs rx ls lx os ox chk A hd hs hx hnew hA hg
    have chkK_some : ∀ {db : D} {kk : D → Option Out}, SrcR w (FB F B lx) db (a.eval x) → chkK chk db kk = some r → SrcR w (FB F B (if chk then 0 else lx)) db (a.eval x) ∧ kk db = some r := by
      intro db kk h hk
      cases chk
      · exact ⟨h, hk⟩
      · simp only [chkK] at hk
        obtain ⟨y, h1, h2⟩ := Option.bind_eq_some_iff.1 hk
        unfold chkA at h1
        split at h1
        case h_2 => cases h1
        split at h1
        case isFalse => cases h1
        rename_i z l hv
        cases h1
        refine ⟨?_, h2⟩
        intro z' l' e
        cases e
        obtain ⟨A, cc, us, g1, g2, g3, g4⟩ := h _ _ rfl
        exact ⟨A, cc, us, g1, RepL_isVs _ _ hv g2, g3, g4⟩
    unfold apTo at hA
    split at hA
    · rename_i ra
      split at hA
      case h_2 => cases hA
      rename_i hgv hze
      rw [beq_iff] at hze
      cases hA
      simp only [goAc] at hg
      obtain ⟨da, hg, hdr, hsa, hqa⟩ := src_ok hI hs hg
      rw [hdr] at hg
      have hg' : srcVal rx (getAll δ (app rx [])) (fun b => chkK chk b fun b => (appD i.ez i.eb da b).bind fun y => k (setMany δ ([d, ra] ++ ([] ++ depsAll c.K [d, ra])) [y, D.bad])) = some r := by rw [app_eq, List.append_nil]; exact hg
      obtain ⟨db, hg, _, hsb, _⟩ := src_ok hI hx hg'
      obtain ⟨hsb, hg⟩ := chkK_some hsb hg
      obtain ⟨y, hy, hk⟩ := Option.bind_eq_some_iff.1 hg
      obtain ⟨l, m, ⟨z1, rfl, hz1⟩, ⟨z2, rfl, hz2⟩, rfl, b1, b2⟩ := appD_some hy
      rcases hqa with ⟨h, _⟩ | ⟨r', z, io, h, _, hda, hav, hkr⟩
      · cases h
      cases h
      have hb : nth δ ra ≠ .bad := by rw [← hda]; simp
      obtain ⟨z', lv', hkr'⟩ := mayGive_some hgv
      rw [hkr] at hkr'
      simp only [Kd.own.injEq] at hkr'
      obtain ⟨rfl, rfl, rfl⟩ := hkr'
      have hown := hI.own hkr hb
      rw [← hda] at hown
      simp only [ownZ, hkr] at hze
      subst hze
      have hz : OwnV w (FB F B (max ls (if chk then 0 else lx))) (fun g => O g = some (ra, 0) ∧ B ≤ g) i.ez (.arr i.ez l) (av a ra) := by
        obtain ⟨l', el, h2, h3⟩ := hown
        cases el
        rcases h3 with ⟨h3, rfl⟩ | ⟨g, o', cc, us, cs, et, h3, a2, a3, a4, a5, a6, a7⟩
        · exact ⟨[], rfl, by simp, .inl ⟨h3, rfl⟩⟩
        · exact ⟨l, rfl, h2, .inr ⟨g, o', cc, us, cs, et, h3, a2, a3, a4, RepL_mono (FB_le (Nat.le_max_left _ _)) (fun _ _ => rfl) _ _ a5, a6, a7.1, a7.2 rfl⟩⟩
      obtain ⟨v, w', h1, h2, h3, h4, h5, h6, h7⟩ := append_run (P := P) (ty := o.type) hti hsl hte (fun b hb => ⟨(hI.fl b (FB_sub b hb)).1, fun h => by have := (hI.fl b (FB_sub b hb)).2; rw [h.1] at this; cases this⟩) hz (srcz hz2 (srcle (Nat.le_max_right ls _) hsb)) b1 b2
      obtain ⟨F', O', hI'⟩ := hI.install (ts := [ra]) (d := d) hnew (h2.own fun b _ hb => by
        rcases hb with hb | hb
        · exact ⟨hb.2, .inr ⟨_, hb.1, by simp⟩⟩
        · exact ⟨Nat.le_trans hI.bb hb, .inl hb⟩) h3 (fun b hb hp => h4 b hb fun hown => hp _ hown.1 (by simp)) h5 h6 h7
      exact many_skip hd (hex v w' (by rw [hav]; exact h1)) hI' hk Q
    · split at hA
      case h_2 => cases hA
      rename_i _ _ _
      cases hA
      simp only [goAc] at hg
      have hg' : srcVal rx (getAll δ (app rx [])) (fun b => chkK chk b fun b => (appD i.ez i.eb (.arr 0 []) b).bind fun y => k (setMany δ ([d] ++ ([] ++ depsAll c.K [d])) [y])) = some r := by rw [app_eq, List.append_nil]; exact hg
      obtain ⟨db, hg, _, hsb, _⟩ := src_ok hI hx hg'
      obtain ⟨hsb, hg⟩ := chkK_some hsb hg
      obtain ⟨y, hy, hk⟩ := Option.bind_eq_some_iff.1 hg
      obtain ⟨l, m, ⟨z1, e1', hz1⟩, ⟨z2, rfl, hz2⟩, rfl, b1, b2⟩ := appD_some hy
      cases e1'
      have hsv : a.eval s = .slice none 0 0 := by
        unfold srcOf at hs
        split at hs
        · split at hs <;> first | (simp at hs; done) | (split at hs <;> simp at hs)
        · rfl
        · cases hs
      obtain ⟨v, w', h1, h2, h3, h4, h5, h6, h7⟩ := append_run (P := P) (ty := o.type) (G := FB F B (max ls (if chk then 0 else lx))) (own := fun _ => False) hti hsl hte (fun b hb => ⟨(hI.fl b (FB_sub b hb)).1, id⟩) OwnV_empty (srcz hz2 (srcle (Nat.le_max_right ls _) hsb)) b1 b2
      obtain ⟨F', O', hI'⟩ := hI.fresh (d := d) hnew (h2.own fun b _ hb => hb.resolve_left id) h3 (fun b hb => h4 b hb id) h5 h6 h7
      exact many_skip hd (hex v w' (by rw [hsv]; exact h1)) hI' hk Q

  unfold apOf at hA
  split at hA
  case h_2 => cases hA
  rename_i d rs ls os rx lx ox hd hs hx
  split at hA
  · rename_i h1 h2
    rw [maxN_eq] at h2
    exact main d rs rx ls lx os ox false A hd hs hx h2 hA hg
  · rename_i h1 h2 h3
    exact main d rs rx ls lx os ox true A hd hs hx (by simpa using h3) hA hg
  · cases hA

end
end Go.V
