/-
  The operations on data keep the invariant.
-/
import Derived.Test.YtfjkapnonljdeaaDoorVg
namespace Go.V
open Go.RowKit

def goAc (c : Cx) (A : Ac) (δ : List D) (k : List D → Option Out) : Option Out :=
  match A with
  | .one rd d h => (h (getAll δ rd)).bind fun z => k (setMany δ (d :: deps d c.K 0) [z])
  | .many rd hw cw fn => fn (getAll δ rd) fun outs => k (setMany δ (hw ++ (cw ++ depsAll c.K hw)) outs)

/-- What an operation comes to. -/
def Next (c : Cx) (B : Nat) (X : Nat → Prop) (w0 : World) (F0 : Nat → Prop) (k : List D → Option Out) (r : Out) (a : Act) (w : World) : Prop :=
  ∃ F O δ, Inv c B X w0 F0 F O a w δ ∧ k δ = some r

section
variable {P : Program} {c : Cx} {B : Nat} {X : Nat → Prop} {w0 : World} {F0 F : Nat → Prop} {O : Nat → Option (Nat × Nat)} {a : Act} {w : World} {δ : List D}

theorem valsOf_eq : ∀ (xs : List Operand), valsOf xs (getAll δ (rdOf xs)) = xs.map (opD δ)
  | [] => rfl
  | .tmp t :: xs => by simp [valsOf, getAll, opD, valsOf_eq xs]
  | .const v :: xs => by simp [valsOf, rdOf, opD, valsOf_eq xs]
  | .func f :: xs => by simp [valsOf, rdOf, opD, valsOf_eq xs]
  | .global g :: xs => by simp [valsOf, rdOf, opD, valsOf_eq xs]

theorem maxN_eq (a b : Nat) : maxN a b = max a b := by
  unfold maxN
  cases h : Nat.ble a b
  · have : ¬ a ≤ b := fun hl => by rw [Nat.ble_eq_true_of_le hl] at h; cases h
    simp only
    omega
  · have := Nat.le_of_ble_eq_true h
    simp only
    omega
theorem ble_iff {a b : Nat} : Nat.ble a b = true ↔ a ≤ b := ⟨Nat.le_of_ble_eq_true, Nat.ble_eq_true_of_le⟩
theorem beq_iff {a b : Nat} : Nat.beq a b = true ↔ a = b := ⟨Nat.eq_of_beq_eq_true, fun h => by subst h; simp⟩

theorem lvAll_mem {K : List Kd} {n : Nat} : ∀ {xs : List Operand}, lvAll K xs ≤ n → ∀ x ∈ xs, lvOf K x ≤ n
  | [], _, x, hx => by simp at hx
  | y :: ys, h, x, hx => by
    simp only [lvAll, maxN_eq] at h
    rcases List.mem_cons.1 hx with rfl | hx
    · omega
    · exact lvAll_mem (by omega) x hx

theorem eval_tmp (a : Act) (t : Nat) : a.eval (.tmp t) = av a t := rfl

/-- An operand's data. -/
theorem Inv.opd (h : Inv c B X w0 F0 F O a w δ) {x : Operand} (hx : lvOf c.K x ≤ 2) : RepB w (FB F B (lvOf c.K x)) (opD δ x) (a.eval x) := by
  cases x with
  | tmp t =>
    simp only [lvOf] at hx ⊢
    split at hx
    · rename_i lv hk
      exact h.dat hk
    · omega
  | const v =>
    simp only [lvOf] at hx ⊢
    split at hx
    case h_2 => omega
    rename_i hv
    refine .inr ?_
    simp only [opD, Act.eval]
    unfold okC at hv
    split at hv <;> first
      | (cases hv; done)
      | exact RepC_nil
      | exact RepV_scalar rfl
  | func f =>
    refine .inr ?_
    simp only [Act.eval, RepV, RepC]
    exact ⟨[], rfl, RepL_nil.2 rfl⟩
  | global g => simp only [lvOf] at hx; omega

theorem wp_value {o : Oper} {y : Value} {K : Act → World → Prop} {Q : Exit → Act → World → Prop} {w' : World} (hr : (execOp a.eval o).run P w = .ok (.value y) w') (hK : K (a.put o.dst y) w') : o.wp P a w K Q := by
  unfold Oper.wp
  rw [hr]
  exact hK
theorem wp_skipv {o : Oper} {K : Act → World → Prop} {Q : Exit → Act → World → Prop} {w' : World} (hr : (execOp a.eval o).run P w = .ok .skip w') (hK : K (a.put o.dst undef) w') : o.wp P a w K Q := by
  unfold Oper.wp
  rw [hr]
  exact hK

/-- One slot written, no memory touched. -/
theorem one_sound {o : Oper} {rd : List Nat} {d : Nat} {h : List D → Option D} (hI : Inv c B X w0 F0 F O a w δ) (hd : o.dst = some d) {k : List D → Option Out} {r : Out} (hg : goAc c (.one rd d h) δ k = some r)
    (hrun : ∀ z, h (getAll δ rd) = some z → ∃ y, (execOp a.eval o).run P w = .ok (.value y) w ∧ PutOk c.K B F a w δ d z y) (Q : Exit → Act → World → Prop) : o.wp P a w (Next c B X w0 F0 k r) Q := by
  simp only [goAc] at hg
  obtain ⟨z, hz, hk⟩ := Option.bind_eq_some_iff.1 hg
  obtain ⟨y, hy, hp⟩ := hrun z hz
  exact wp_value hy ⟨F, O, _, by rw [hd]; exact hI.put hp, hk⟩

theorem RepB_le {lv lv' : Nat} (hl : lv ≤ lv') {z : D} {y : Value} (h : RepB w (FB F B lv) z y) : RepB w (FB F B lv') z y := h.imp id fun h => RepV_mono (FB_le hl) (fun _ _ => rfl) h

theorem data_sound {o : Oper} {xs : List Operand} {lv : Nat} {h : List D → Option D} {A : Ac} (hA : dataOp c o.dst xs lv h = some A) (hI : Inv c B X w0 F0 F O a w δ) {k : List D → Option Out} {r : Out} (hg : goAc c A δ k = some r)
    (hrun : (∀ x ∈ xs, lvOf c.K x ≤ 2 ∧ RepB w (FB F B (lvOf c.K x)) (opD δ x) (a.eval x)) → ∀ z, h (xs.map (opD δ)) = some z → ∃ y, (execOp a.eval o).run P w = .ok (.value y) w ∧ RepB w (FB F B lv) z y) (Q : Exit → Act → World → Prop) : o.wp P a w (Next c B X w0 F0 k r) Q := by
  unfold dataOp at hA
  split at hA
  · cases hA
  rename_i d hd
  split at hA
  case h_2 => cases hA
  rename_i l hk
  split at hA
  · cases hA
  rename_i hlv
  rw [ble_iff] at hlv
  have hops : ∀ x ∈ xs, lvOf c.K x ≤ 2 ∧ RepB w (FB F B (lvOf c.K x)) (opD δ x) (a.eval x) := fun x hx => ⟨lvAll_mem hlv x hx, hI.opd (lvAll_mem hlv x hx)⟩
  have putOk : ∀ z y, RepB w (FB F B l) z y → PutOk c.K B F a w δ d z y := fun z y hz => hz.imp id fun hz => by rw [hk]; exact hz
  split at hA
  · rename_i hle
    rw [ble_iff] at hle
    cases hA
    refine one_sound hI hd hg (fun z hz => ?_) Q
    rw [valsOf_eq] at hz
    obtain ⟨y, h1, h2⟩ := hrun hops z hz
    exact ⟨y, h1, putOk z y (RepB_le hle h2)⟩
  · split at hA
    case h_2 => cases hA
    cases hA
    refine one_sound hI hd hg (fun z hz => ?_) Q
    rw [valsOf_eq] at hz
    obtain ⟨z', hz', hc⟩ := Option.bind_eq_some_iff.1 hz
    obtain ⟨y, h1, h2⟩ := hrun hops z' hz'
    unfold chkV at hc
    split at hc
    case isFalse => cases hc
    rename_i hv
    cases hc
    refine ⟨y, h1, putOk z y (.inr (RepV_isV hv (h2.rep ?_)))⟩
    intro e
    subst e
    simp [D.isV] at hv

theorem run_v {o : Oper} {s : Sem Value} {y : Value} {w' : World} (he : execOp a.eval o = (do pure (.value (← s)))) (hs : s.run P w = .ok y w') : (execOp a.eval o).run P w = .ok (.value y) w' := by
  rw [he]
  simp [hs]

theorem RepB_sc {v : Value} (h : flat v = true) {G : Nat → Prop} {z : D} (hz : z = .v v) : RepB w G z v := .inr (hz ▸ RepV_scalar h)

theorem arg1_some {h : D → Option D} {l : List D} {z : D} (e : arg1 h l = some z) : ∃ a, l = [a] ∧ h a = some z := by
  unfold arg1 at e
  split at e
  · exact ⟨_, rfl, e⟩
  · cases e
theorem arg2_some {h : D → D → Option D} {l : List D} {z : D} (e : arg2 h l = some z) : ∃ a b, l = [a, b] ∧ h a b = some z := by
  unfold arg2 at e
  split at e
  · exact ⟨_, _, rfl, e⟩
  · cases e
theorem arg3_some {h : D → D → D → Option D} {l : List D} {z : D} (e : arg3 h l = some z) : ∃ a b x, l = [a, b, x] ∧ h a b x = some z := by
  unfold arg3 at e
  split at e
  · exact ⟨_, _, _, rfl, e⟩
  · cases e

/-- The statement for one operation. -/
def Sound (P : Program) (c : Cx) (o : Oper) : Prop :=
  ∀ (A : Ac), actOf c o = some A → ∀ (B : Nat) (X : Nat → Prop) (w0 : World) (F0 F : Nat → Prop) (O : Nat → Option (Nat × Nat)) (a : Act) (w : World) (δ : List D), Inv c B X w0 F0 F O a w δ →
    ∀ (k : List D → Option Out) (r : Out), goAc c A δ k = some r → ∀ Q, o.wp P a w (Next c B X w0 F0 k r) Q

theorem withT_some {t : Nat} {f : TI → Option Ac} {A : Ac} (h : withT c t f = some A) : ∃ i, look c.T t = some i ∧ f i = some A := by
  unfold withT at h
  split at h
  · exact ⟨_, ‹_›, h⟩
  · cases h

theorem tok (hT : okT P c.T = true) {t : Nat} {i : TI} (h : look c.T t = some i) : TOk P t i := tiChk_ok (okT_look hT h)

theorem sound_pick {o : Oper} {q x y : Operand} (ho : o.op = .pick q x y) : Sound P c o := by
  intro A hA B X w0 F0 F O a w δ hI k r hg Q
  simp only [actOf, ho] at hA
  refine data_sound hA hI hg (fun hx z hz => ?_) Q
  obtain ⟨d1, d2, d3, e, hz⟩ := arg3_some hz
  simp only [List.map_cons, List.map_nil, List.cons.injEq, and_true] at e
  obtain ⟨rfl, rfl, rfl⟩ := e
  have h1 := (hx q (by simp)).2
  have h2 := (hx x (by simp)).2
  have h3 := (hx y (by simp)).2
  rw [maxN_eq]
  obtain ⟨v, hv, hr⟩ := pick_run (P := P) h1 (RepB_le (Nat.le_max_left _ (lvOf c.K y)) h2) (RepB_le (Nat.le_max_right (lvOf c.K x) _) h3) hz
  refine ⟨v, ?_, hr⟩
  simp only [execOp, ho]
  simp only [Sem.run_bind, Sem.run_pure] at hv ⊢
  cases hb : (asBool (a.eval q)).run P w with
  | halt s t => rw [hb] at hv; simp at hv
  | ok b w' =>
    rw [hb] at hv
    simp only [Result.andThen_ok, Result.ok.injEq] at hv ⊢
    exact ⟨by rw [hv.1], hv.2⟩

theorem sound_binOp (hT : okT P c.T = true) {o : Oper} {op : BinOp} {t t' : Nat} {x y : Operand} (ho : o.op = .binOp op t x y t') : Sound P c o := by
  intro A hA B X w0 F0 F O a w δ hI k r hg Q
  simp only [actOf, ho] at hA
  obtain ⟨i, hi, hA⟩ := withT_some hA
  split at hA
  · rename_i hif
    refine data_sound hA hI hg (fun hx z hz => ?_) Q
    obtain ⟨d1, d2, e, hz⟩ := arg2_some hz
    simp only [List.map_cons, List.map_nil, List.cons.injEq, and_true] at e
    obtain ⟨rfl, rfl⟩ := e
    obtain ⟨v, hv, hr, hf⟩ := binI_run (P := P) (tok hT hi) hif x y (fun hn => by
      unfold isNilI at hn
      split at hn
      · exact ⟨_, rfl⟩
      · cases hn) (hx x (by simp)).2 (hx y (by simp)).2 hz
    exact ⟨v, run_v (by simp only [execOp, ho]) hv, RepB_sc hf hr⟩
  refine data_sound hA hI hg (fun hx z hz => ?_) Q
  obtain ⟨d1, d2, e, hz⟩ := arg2_some hz
  simp only [List.map_cons, List.map_nil, List.cons.injEq, and_true] at e
  obtain ⟨rfl, rfl⟩ := e
  obtain ⟨v, hv, hr, hf⟩ := bin_run (P := P) (tok hT hi) x y (hx x (by simp)).2 (hx y (by simp)).2 hz
  exact ⟨v, run_v (by simp only [execOp, ho]) hv, RepB_sc hf hr⟩

theorem sound_unOp {o : Oper} {op : UnOp} {t : Nat} {x : Operand} (ho : o.op = .unOp op t x) : Sound P c o := by
  intro A hA B X w0 F0 F O a w δ hI k r hg Q
  simp only [actOf, ho] at hA
  refine data_sound hA hI hg (fun hx z hz => ?_) Q
  obtain ⟨d1, e, hz⟩ := arg1_some hz
  simp only [List.map_cons, List.map_nil, List.cons.injEq, and_true] at e
  subst e
  obtain ⟨v, hv, hr, hf⟩ := un_run (P := P) (hx x (by simp)).2 hz
  exact ⟨v, run_v (by simp only [execOp, ho]) hv, RepB_sc hf hr⟩

theorem fieldOf_some {i ti : TI} {f off : Nat} (h : fieldOf c i f = some (off, ti)) : ∃ ty, i.fs[f]? = some (off, ty) ∧ look c.T ty = some ti := by
  unfold fieldOf at h
  split at h
  · rename_i o ty hf
    split at h
    · rename_i j hj
      simp at h
      obtain ⟨rfl, rfl⟩ := h
      rw [nthO_eq] at hf
      exact ⟨ty, hf, hj⟩
    · cases h
  · cases h

theorem sound_field (hT : okT P c.T = true) {o : Oper} {t f : Nat} {x : Operand} (ho : o.op = .field t x f) : Sound P c o := by
  intro A hA B X w0 F0 F O a w δ hI k r hg Q
  simp only [actOf, ho] at hA
  obtain ⟨i, hi, hA⟩ := withT_some hA
  split at hA
  case h_2 => cases hA
  rename_i off ti hf
  obtain ⟨ty, hf, hti⟩ := fieldOf_some hf
  refine data_sound hA hI hg (fun hx z hz => ?_) Q
  obtain ⟨d1, e, hz⟩ := arg1_some hz
  simp only [List.map_cons, List.map_nil, List.cons.injEq, and_true] at e
  subst e
  obtain ⟨y, hy, hr⟩ := fld_run (tok hT hi) (tok hT hti) hf (hx x (by simp)).2 hz
  exact ⟨y, run_v (by simp only [execOp, ho]) hy, .inr hr⟩

theorem sound_index (hT : okT P c.T = true) {o : Oper} {t : Nat} {x y : Operand} (ho : o.op = .index t x y) : Sound P c o := by
  intro A hA B X w0 F0 F O a w δ hI k r hg Q
  simp only [actOf, ho] at hA
  obtain ⟨i, hi, hA⟩ := withT_some hA
  unfold ixOf at hA
  split at hA
  · rename_i hs
    refine data_sound hA hI hg (fun hx z hz => ?_) Q
    obtain ⟨d1, d2, e, hz⟩ := arg2_some hz
    simp only [List.map_cons, List.map_nil, List.cons.injEq, and_true] at e
    obtain ⟨rfl, rfl⟩ := e
    obtain ⟨v, hv, hr, hf⟩ := char_run (P := P) (tok hT hi) hs (hx x (by simp)).2 (hx y (by simp)).2 hz
    exact ⟨v, run_v (by simp only [execOp, ho]) hv, RepB_sc hf hr⟩
  · split at hA
    · cases hA
    · rename_i n hn
      obtain ⟨e', he, hA⟩ := withT_some hA
      refine data_sound hA hI hg (fun hx z hz => ?_) Q
      obtain ⟨d1, d2, e, hz⟩ := arg2_some hz
      simp only [List.map_cons, List.map_nil, List.cons.injEq, and_true] at e
      obtain ⟨rfl, rfl⟩ := e
      obtain ⟨v, hv, hr⟩ := ixA_run (P := P) (tok hT hi) (tok hT he) (by intro h0; exact hn h0) rfl (hx x (by simp)).2 (hx y (by simp)).2 hz
      exact ⟨v, run_v (by simp only [execOp, ho]) hv, .inr hr⟩

theorem sound_makeFunc {o : Oper} {f : Nat} {u v : Array Operand} (ho : o.op = .makeFunc (.func f) u v) : Sound P c o := by
  intro A hA B X w0 F0 F O a w δ hI k r hg Q
  simp only [actOf, ho] at hA
  split at hA
  case h_2 => cases hA
  rename_i h1 h2
  refine data_sound hA hI hg (fun hx z hz => ?_) Q
  simp at hz
  subst hz
  have e1 : u = #[] := by simpa using h1
  have e2 : v = #[] := by simpa using h2
  subst e1 e2
  refine ⟨.func (.func f) #[] #[], run_v (s := Instr.makeFunc (.func f) #[] #[]) (by simp [execOp, ho]) rfl, .inr ?_⟩
  simp only [RepV, RepC]
  exact ⟨[], rfl, RepL_nil.2 rfl⟩

theorem srcOf_dat {K : List Kd} {t : Nat} {rd : List Nat} {lv : Nat} {r : Option Nat} (h : srcOf K (.tmp t) = some (rd, lv, r)) :
    (nthK K t = .dat lv ∧ rd = [t] ∧ r = none) ∨ (∃ z io, nthK K t = .own z lv io ∧ rd = [t] ∧ r = some t) ∨ (∃ q z io, nthK K t = .via q ∧ nthK K q = .own z lv io ∧ rd = [t, q] ∧ r = some q) := by
  simp only [srcOf] at h
  split at h
  · rename_i l hk
    simp at h
    obtain ⟨rfl, rfl, rfl⟩ := h
    exact .inl ⟨hk, rfl, rfl⟩
  · rename_i z l io hk
    simp at h
    obtain ⟨rfl, rfl, rfl⟩ := h
    exact .inr (.inl ⟨z, io, hk, rfl, rfl⟩)
  · rename_i q hk
    split at h
    · rename_i z l io hq
      simp at h
      obtain ⟨rfl, rfl, rfl⟩ := h
      exact .inr (.inr ⟨q, z, io, hk, hq, rfl, rfl⟩)
    · cases h
  · cases h

/-- What a slot owns, read as data: over all memory that is known and its own block. -/
theorem OwnV_rep {w : World} {F : Nat → Prop} {own : Nat → Prop} {z : Nat} {d : D} {y : Value} (h : OwnV w F own z d y) : RepV w (fun b => F b ∨ own b) d y := by
  obtain ⟨l, rfl, h2, h3⟩ := h
  simp only [RepV, RepC]
  rcases h3 with ⟨rfl, rfl⟩ | ⟨g, o, c, us, cs, e, rfl, a2, a3, a4, a5, a6, a7⟩
  · exact ⟨none, 0, [], rfl, Nat.le_refl _, RepL_nil.2 rfl, h2, fun h => absurd rfl h⟩
  · refine ⟨_, c, us, rfl, a2, RepL_mono (fun b hb => .inl hb) (fun _ _ => rfl) _ _ a5, h2, fun _ => ⟨g, o, rfl, .inr a7, fun i u hu => ?_⟩⟩
    simp [World.cell?, a3, a6 i u hu]

theorem Inv.own (h : Inv c B X w0 F0 F O a w δ) {s z lv : Nat} {io : Bool} (hk : nthK c.K s = .own z lv io) (hb : nth δ s ≠ .bad) : OwnV w (FB F B lv) (fun g => O g = some (s, 0) ∧ (io = false → B ≤ g)) z (nth δ s) (av a s) := by
  have h0 := (h.slot s).resolve_left hb
  rw [hk] at h0
  exact h0.resolve_left hb
theorem Inv.box (h : Inv c B X w0 F0 F O a w δ) {s n lv : Nat} {io : Bool} (hk : nthK c.K s = .box n lv io) (hb : nth δ s ≠ .bad) : BoxV w (FB F B lv) (fun g => O g = some (s, 0) ∧ (io = false → B ≤ g)) n (nth δ s) (av a s) := by
  have h0 := (h.slot s).resolve_left hb
  rw [hk] at h0
  exact h0.resolve_left hb
theorem Inv.via (h : Inv c B X w0 F0 F O a w δ) {s q : Nat} (hk : nthK c.K s = .via q) (hb : nth δ s ≠ .bad) : av a s = av a q ∧ nth δ s = .ref 0 0 ∧ nth δ q ≠ .bad ∧ isOwn c.K q = true := by
  have h0 := (h.slot s).resolve_left hb
  rw [hk] at h0
  exact h0
theorem Inv.ref (h : Inv c B X w0 F0 F O a w δ) {s q : Nat} (hk : nthK c.K s = .ref q) (hb : nth δ s ≠ .bad) : ∃ i f, nth δ s = .ref i f ∧ nth δ q ≠ .bad ∧ RefV (nthK c.K q) (av a q) i f (av a s) := by
  have h0 := (h.slot s).resolve_left hb
  rw [hk] at h0
  exact h0

theorem liveD_some {p x y : D} (h : liveD p x = some y) : p ≠ .bad ∧ x = y := by
  unfold liveD at h
  split at h
  · cases h
  · rename_i hp
    simp at h
    exact ⟨hp, h⟩

theorem RefV_ptr {k : Kd} {y p : Value} {i f : Nat} (h : RefV k y i f p) : ∃ g o, p = .pointer (some ⟨g, o, none⟩) := by
  unfold RefV at h
  split at h
  · obtain ⟨g, o, n, cc, _, e⟩ := h; exact ⟨g, _, e⟩
  · obtain ⟨g, _, e⟩ := h; exact ⟨g, _, e⟩
  · exact h.elim

theorem sound_nilCheck {o : Oper} {x : Operand} (ho : o.op = .nilCheck x) : Sound P c o := by
  intro A hA B X w0 F0 F O a w δ hI k r hg Q
  simp only [actOf, ho] at hA
  have dat : dataOp c o.dst [x] (lvOf c.K x) (arg1 nilD) = some A → o.wp P a w (Next c B X w0 F0 k r) Q := by
    intro hA
    refine data_sound hA hI hg (fun hx z hz => ?_) Q
    obtain ⟨d1, e, hz⟩ := arg1_some hz
    simp only [List.map_cons, List.map_nil, List.cons.injEq, and_true] at e
    subst e
    obtain ⟨h1, h2⟩ := nil_run (P := P) (hx x (by simp)).2 hz o x a.eval ho rfl
    exact ⟨_, h1, .inr h2⟩
  have run : ∀ t g o', x = .tmp t → av a t = .pointer (some ⟨g, o', none⟩) → (execOp a.eval o).run P w = .ok (.value (av a t)) w := by
    intro t g o' hx hv
    subst hx
    simp [execOp, ho, eval_tmp, hv]
  unfold ncOf at hA
  split at hA
  · rename_i t
    split at hA
    · rename_i n lv io hk
      split at hA
      · cases hA
      rename_i d hd
      split at hA
      case h_2 => cases hA
      rename_i rr hkd
      split at hA
      case h_2 => cases hA
      rename_i hrt
      rw [beq_iff] at hrt
      subst hrt
      cases hA
      refine one_sound hI hd hg (fun z hz => ?_) Q
      obtain ⟨d1, e, hz⟩ := arg1_some hz
      simp only [getAll, List.cons.injEq, and_true] at e
      subst e
      obtain ⟨h1, rfl⟩ := liveD_some hz
      obtain ⟨m, us, g, e, _, a1, _⟩ := hI.box hk h1
      refine ⟨_, run _ g 0 rfl a1, .inr ?_⟩
      rw [hkd]
      refine ⟨0, 0, rfl, h1, ?_⟩
      rw [hk]
      exact ⟨g, a1, a1⟩
    · rename_i rr hk
      split at hA
      · cases hA
      rename_i d hd
      split at hA
      case h_2 => cases hA
      rename_i r' hkd
      split at hA
      case h_2 => cases hA
      rename_i hrt
      rw [beq_iff] at hrt
      subst hrt
      cases hA
      refine one_sound hI hd hg (fun z hz => ?_) Q
      obtain ⟨d1, e, hz⟩ := arg1_some hz
      simp only [getAll, List.cons.injEq, and_true] at e
      subst e
      obtain ⟨h1, rfl⟩ := liveD_some hz
      obtain ⟨ii, ff, g1, g2, g3⟩ := hI.ref hk h1
      obtain ⟨g, o', e⟩ := RefV_ptr g3
      refine ⟨_, run _ g o' rfl e, .inr ?_⟩
      rw [hkd]
      exact ⟨ii, ff, g1, g2, g3⟩
    · exact dat hA
  · exact dat hA

/-- A slice that is read as a whole. -/
theorem src_rep (hI : Inv c B X w0 F0 F O a w δ) {t : Nat} {rd : List Nat} {lv : Nat} {q : Option Nat} (h : srcOf c.K (.tmp t) = some (rd, lv, q)) {d : D}
    (hd : (match rd with
      | [_] => some (nth (getAll δ rd) 0)
      | _ => liveD (nth (getAll δ rd) 0) (nth (getAll δ rd) 1)) = some d) : ∃ G, RepB w G d (av a t) := by
  rcases srcOf_dat h with ⟨hk, rfl, rfl⟩ | ⟨z, io, hk, rfl, rfl⟩ | ⟨s, z, io, hk, hs, rfl, rfl⟩
  · simp [getAll, nth] at hd
    subst hd
    exact ⟨_, hI.dat hk⟩
  · simp [getAll, nth] at hd
    subst hd
    by_cases hb : nth δ t = .bad
    · exact ⟨fun _ => True, .inl hb⟩
    · exact ⟨_, .inr (OwnV_rep (hI.own hk hb))⟩
  · simp only [getAll, nth] at hd
    obtain ⟨h1, rfl⟩ := liveD_some hd
    obtain ⟨g1, g2, g3, g4⟩ := hI.via hk h1
    rw [g1]
    exact ⟨_, .inr (OwnV_rep (hI.own hs g3))⟩

theorem lnOf_sound (hT : okT P c.T = true) {o : Oper} {x : Operand} {t : Nat} {str : Bool} (ho : o.op = .call { callee := .builtin .len, args := #[x], argTypes := #[t] }) {i : TI} (hi : look c.T t = some i)
    (hs : str = false → isSl i = true) (hs' : str = true → i.str = true) {A : Ac} (hA : lnOf c o.dst str x = some A) (hI : Inv c B X w0 F0 F O a w δ) {k : List D → Option Out} {r : Out} (hg : goAc c A δ k = some r) (Q : Exit → Act → World → Prop) : o.wp P a w (Next c B X w0 F0 k r) Q := by
  have run : ∀ (G : Nat → Prop) (d z : D), RepB w G d (a.eval x) → lenD str d = some z → ∃ v, (execOp a.eval o).run P w = .ok (.value v) w ∧ z = .v v ∧ flat v = true := by
    intro G d z hd hz
    obtain ⟨v, h1, h2, h3⟩ := len_run (P := P) (t := t) (ty := o.type) hd (fun h => ⟨_, (isSl_ok (tok hT hi) (hs h)).1⟩) (fun h => ((tok hT hi).str (hs' h)).1) hz
    refine ⟨v, ?_, h2, h3⟩
    simp only [execOp, ho, resolve, invoke, builtin, Sem.run_bind, Sem.run_pure, Result.andThen_ok, List.map_toArray, List.map_cons, List.map_nil, h1]
  have dat : ∀ A', dataOp c o.dst [x] 0 (arg1 (lenD str)) = some A' → goAc c A' δ k = some r → o.wp P a w (Next c B X w0 F0 k r) Q := by
    intro A' hA' hg'
    refine data_sound hA' hI hg' (fun hx z hz => ?_) Q
    obtain ⟨d1, e, hz⟩ := arg1_some hz
    simp only [List.map_cons, List.map_nil, List.cons.injEq, and_true] at e
    subst e
    obtain ⟨v, h1, h2, h3⟩ := run _ _ z (hx x (by simp)).2 hz
    exact ⟨v, h1, RepB_sc h3 h2⟩
  unfold lnOf at hA
  split at hA
  · rename_i t'
    split at hA
    · exact dat A hA hg
    · split at hA
      case h_2 => cases hA
      rename_i d rd lv q hd hsrc
      split at hA
      case h_2 => cases hA
      rename_i lv' hk
      cases hA
      refine one_sound hI hd hg (fun z hz => ?_) Q
      have key : ∃ G dd, RepB w G dd (av a t') ∧ lenD str dd = some z := by
        have hsrc' := hsrc
        rcases srcOf_dat hsrc' with ⟨h1, rfl, rfl⟩ | ⟨_, _, h1, rfl, rfl⟩ | ⟨s, _, _, h1, h2, rfl, rfl⟩
        · obtain ⟨G, hG⟩ := src_rep hI hsrc (d := nth δ t') (by simp [getAll, nth])
          exact ⟨G, _, hG, by simpa [getAll, nth] using hz⟩
        · obtain ⟨G, hG⟩ := src_rep hI hsrc (d := nth δ t') (by simp [getAll, nth])
          exact ⟨G, _, hG, by simpa [getAll, nth] using hz⟩
        · simp only [getAll, nth] at hz
          obtain ⟨dd, e1, e2⟩ := Option.bind_eq_some_iff.1 hz
          obtain ⟨G, hG⟩ := src_rep hI hsrc (d := dd) (by simpa [getAll, nth] using e1)
          exact ⟨G, dd, hG, e2⟩
      obtain ⟨G, dd, h1, h2⟩ := key
      obtain ⟨v, e1, e2, e3⟩ := run G dd z h1 h2
      exact ⟨v, e1, (RepB_sc (G := FB F B lv') e3 e2).imp id fun h => by rw [hk]; exact h⟩
  · exact dat A hA hg

end
end Go.V
