/-
  A call keeps the invariant.
-/
import Derived.Test.YtfjkapnonljdeaaDoorVr
namespace Go.V
open Go.RowKit

section
variable {P : Program} {c : Cx} {B : Nat} {X : Nat → Prop} {w0 : World} {F0 F : Nat → Prop} {O : Nat → Option (Nat × Nat)} {a : Act} {w : World} {δ : List D}

theorem BoxV_mono' {w w' : World} {F F' : Nat → Prop} {own own' : Nat → Prop} {n : Nat} {d : D} {y : Value} (hF : ∀ b, F b → F' b) (hw : ∀ b, F b → w'.heap[b]? = w.heap[b]?)
    (ho : ∀ g, V.blk y = some g → own g → own' g ∧ w'.heap[g]? = w.heap[g]?) (h : BoxV w F own n d y) : BoxV w' F' own' n d y := by
  obtain ⟨l, us, g, e, a1, rfl, a3, a4, a5, a6, a7⟩ := h
  exact ⟨l, us, g, e, a1, rfl, (ho g rfl a7).2.trans a3, RepL_mono hF hw _ _ a4, a5, a6, (ho g rfl a7).1⟩
theorem BoxV.blk {F : Nat → Prop} {own : Nat → Prop} {n : Nat} {d : D} {y : Value} (h : BoxV w F own n d y) : ∀ b, V.blk y = some b → own b ∧ b < w.heap.size := by
  intro b hb
  obtain ⟨l, us, g, e, a1, rfl, a3, a4, a5, a6, a7⟩ := h
  simp [V.blk] at hb
  subst hb
  exact ⟨a7, (Array.getElem?_eq_some_iff.1 a3).1⟩

def owIx : List Ag → Nat → Nat → Option Nat
  | [], _, _ => none
  | .io _ q :: l, r, i => if q = r then some i else owIx l r (i + 1)
  | .d _ _ :: l, r, i => owIx l r (i + 1)
  | .bor _ _ :: l, r, i => owIx l r (i + 1)
theorem owIx_mem : ∀ {l : List Ag} {r i j : Nat}, owIx l r i = some j → r ∈ agIo l
  | .io _ q :: l, r, i, j, h => by
    simp only [owIx] at h
    split at h
    · rename_i e; subst e; simp [agIo]
    · simp [agIo, owIx_mem h]
  | .d _ _ :: l, r, i, j, h => by simpa [agIo] using owIx_mem (l := l) h
  | .bor _ _ :: l, r, i, j, h => by simpa [agIo] using owIx_mem (l := l) h
theorem ioAt_mem : ∀ {l : List Ag} {r j : Nat}, ioAt l j = some r → r ∈ agIo l
  | .io _ q :: l, r, 0, h => by simp [ioAt] at h; simp [agIo, h]
  | .io _ q :: l, r, j + 1, h => by simp only [agIo, List.mem_cons]; exact .inr (ioAt_mem (l := l) h)
  | .d _ _ :: l, r, 0, h => by simp [ioAt] at h
  | .bor _ _ :: l, r, 0, h => by simp [ioAt] at h
  | .d _ _ :: l, r, j + 1, h => by simpa [agIo] using ioAt_mem (l := l) h
  | .bor _ _ :: l, r, j + 1, h => by simpa [agIo] using ioAt_mem (l := l) h
theorem nodupN_cons {a : Nat} {l : List Nat} (h : nodupN (a :: l) = true) : a ∉ l ∧ nodupN l = true := by
  simp only [nodupN, memN_eq] at h
  split at h
  · cases h
  · rename_i h1
    exact ⟨by simpa using h1, h⟩
theorem owIx_at : ∀ {l : List Ag} {r i j : Nat}, nodupN (agIo l) = true → ioAt l j = some r → owIx l r i = some (i + j)
  | .io _ q :: l, r, i, 0, _, h => by simp [ioAt] at h; simp [owIx, h]
  | .io _ q :: l, r, i, j + 1, hn, h => by
    obtain ⟨h1, h2⟩ := nodupN_cons hn
    have h3 := ioAt_mem (l := l) h
    have hne : ¬ q = r := fun e => h1 (by rw [e]; exact h3)
    simp only [owIx]
    rw [if_neg hne, owIx_at (l := l) h2 h]
    congr 1; omega
  | .d _ _ :: l, r, i, 0, _, h => by simp [ioAt] at h
  | .bor _ _ :: l, r, i, 0, _, h => by simp [ioAt] at h
  | .d _ _ :: l, r, i, j + 1, hn, h => by simp only [owIx]; rw [owIx_at (l := l) hn h]; congr 1; omega
  | .bor _ _ :: l, r, i, j + 1, hn, h => by simp only [owIx]; rw [owIx_at (l := l) hn h]; congr 1; omega

/-- What is known of the roots that a call writes. -/
def IoArg (c : Cx) (a : Act) (δ : List D) : List Ag → List Kd → List Operand → Prop
  | [], [], [] => True
  | .io _ r :: l, m :: pm, x :: xs => (nth δ r ≠ .bad ∧ a.eval x = av a r ∧ ((∃ z lv io, m = .own z lv true ∧ nthK c.K r = .own z lv io ∧ lv ≠ 1) ∨ ∃ n lv io, m = .box n lv true ∧ nthK c.K r = .box n lv io ∧ lv ≠ 1)) ∧ IoArg c a δ l pm xs
  | _ :: l, m :: pm, _ :: xs => isIo m = false ∧ IoArg c a δ l pm xs
  | _, _, _ => False

theorem okPm_tail {m : Kd} {pm : List Kd} (h : okPm (m :: pm) = true) : okPm pm = true ∧ (∀ z lv, m = .own z lv true → lv ≠ 1) ∧ ∀ n lv, m = .box n lv true → lv ≠ 1 := by
  cases m with
  | dat lv =>
    simp only [okPm] at h
    split at h
    case h_2 => cases h
    exact ⟨h, fun _ _ e => (by cases e), fun _ _ e => (by cases e)⟩
  | own z lv io =>
    cases io
    · simp [okPm] at h
    simp only [okPm] at h
    split at h
    case h_2 => cases h
    rename_i h1 h2
    exact ⟨h, fun _ l e => by cases e; intro e; subst e; simp at h1, fun _ _ e => (by cases e)⟩
  | box z lv io =>
    cases io
    · simp [okPm] at h
    simp only [okPm] at h
    split at h
    case h_2 => cases h
    rename_i h1 h2
    exact ⟨h, fun _ _ e => (by cases e), fun _ l e => by cases e; intro e; subst e; simp at h1⟩
  | _ => simp [okPm] at h

theorem agOf_bor {K : List Kd} {x : Operand} {m : Kd} {t r : Nat} (h : agOf K x m = some (.bor t r)) : ∃ lv, m = .dat lv := by
  cases m with
  | dat lv => exact ⟨lv, rfl⟩
  | own z lv io =>
    exfalso
    cases io
    · simp [agOf] at h
    · simp only [agOf] at h
      repeat (split at h <;> try cases h)
  | box z lv io =>
    exfalso
    cases io
    · simp [agOf] at h
    · simp only [agOf] at h
      repeat (split at h <;> try cases h)
  | _ => simp [agOf] at h

theorem agOf_io {K : List Kd} {x : Operand} {m : Kd} {t r : Nat} (h : agOf K x m = some (.io t r)) : x = .tmp t ∧ ((∃ z lv io, m = .own z lv true ∧ ((t = r ∧ nthK K t = .own z lv io) ∨ (nthK K t = .via r ∧ nthK K r = .own z lv io))) ∨
    ∃ n lv io, m = .box n lv true ∧ ((t = r ∧ nthK K t = .box n lv io) ∨ (nthK K t = .ref r ∧ nthK K r = .box n lv io))) := by
  cases m with
  | dat lv =>
    exfalso
    simp only [agOf] at h
    repeat (split at h <;> try cases h)
  | own z lv io =>
    cases io
    · simp [agOf] at h
    · simp only [agOf] at h
      split at h
      case h_2 => cases h
      split at h
      · rename_i hk
        split at h
        case h_2 => cases h
        rename_i h1 h2
        rw [beq_iff] at h1 h2
        cases h
        exact ⟨rfl, .inl ⟨_, _, _, rfl, .inl ⟨rfl, by rw [hk, h1, h2]⟩⟩⟩
      · rename_i hk
        split at h
        case h_2 => cases h
        rename_i hk2
        split at h
        case h_2 => cases h
        rename_i h1 h2
        rw [beq_iff] at h1 h2
        cases h
        exact ⟨rfl, .inl ⟨_, _, _, rfl, .inr ⟨hk, by rw [hk2, h1, h2]⟩⟩⟩
      · cases h
  | box z lv io =>
    cases io
    · simp [agOf] at h
    · simp only [agOf] at h
      split at h
      case h_2 => cases h
      split at h
      · rename_i hk
        split at h
        case h_2 => cases h
        rename_i h1 h2
        rw [beq_iff] at h1 h2
        cases h
        exact ⟨rfl, .inr ⟨_, _, _, rfl, .inl ⟨rfl, by rw [hk, h1, h2]⟩⟩⟩
      · rename_i hk
        split at h
        case h_2 => cases h
        rename_i hk2
        split at h
        case h_2 => cases h
        rename_i h1 h2
        rw [beq_iff] at h1 h2
        cases h
        exact ⟨rfl, .inr ⟨_, _, _, rfl, .inr ⟨hk, by rw [hk2, h1, h2]⟩⟩⟩
      · cases h
  | _ => simp [agOf] at h

theorem io_arg (hI : Inv c B X w0 F0 F O a w δ) : ∀ (xs : List Operand) (pm : List Kd) (ags : List Ag) (ds : List D), agsOf c.K xs pm = some ags → okPm pm = true → asmV ags (getAll δ (agRd ags)) = some ds → IoArg c a δ ags pm xs
  | [], [], ags, ds, h, _, _ => by
    simp only [agsOf, Option.some.injEq] at h
    subst h
    trivial
  | [], _ :: _, _, _, h, _, _ => by simp [agsOf] at h
  | _ :: _, [], _, _, h, _, _ => by simp [agsOf] at h
  | x :: xs, m :: pm, ags, ds, h, hpm, hd => by
    simp only [agsOf] at h
    split at h
    case h_2 => cases h
    rename_i g l hg hl
    cases h
    obtain ⟨hp1, hp2, hp3⟩ := okPm_tail hpm
    cases g with
    | d y chk =>
      have hnio : isIo m = false := by
        cases m with
        | own z lv io => cases io <;> first | rfl | (simp only [agOf] at hg; repeat (split at hg <;> try cases hg))
        | box z lv io => cases io <;> first | rfl | (simp only [agOf] at hg; repeat (split at hg <;> try cases hg))
        | _ => rfl
      have hd' : ∃ ds', asmV l (getAll δ (agRd l)) = some ds' := by
        cases y with
        | tmp t =>
          simp only [app, getAll, asmV] at hd
          split at hd
          · obtain ⟨ds', h1, _⟩ := Option.map_eq_some_iff.1 hd
            exact ⟨ds', h1⟩
          · obtain ⟨i, _, hd⟩ := Option.bind_eq_some_iff.1 hd
            obtain ⟨ds', h1, _⟩ := Option.map_eq_some_iff.1 hd
            exact ⟨ds', h1⟩
        | const v =>
          simp only [agRd, app, asmV] at hd
          obtain ⟨ds', h1, _⟩ := Option.map_eq_some_iff.1 hd
          exact ⟨ds', h1⟩
        | func v =>
          simp only [agRd, app, asmV] at hd
          obtain ⟨ds', h1, _⟩ := Option.map_eq_some_iff.1 hd
          exact ⟨ds', h1⟩
        | global v => simp [asmV] at hd
      obtain ⟨ds', hd'⟩ := hd'
      exact ⟨hnio, io_arg hI xs pm l ds' hl hp1 hd'⟩
    | bor t r =>
      have hnio : isIo m = false := by
        obtain ⟨lv, e⟩ := agOf_bor hg
        rw [e]; rfl
      have hd' : ∃ ds', asmV l (getAll δ (agRd l)) = some ds' := by
        cases htr : Nat.beq t r
        · simp only [agRd, htr, getAll, asmV] at hd
          obtain ⟨i, _, hd⟩ := Option.bind_eq_some_iff.1 hd
          obtain ⟨ds', h1, _⟩ := Option.map_eq_some_iff.1 hd
          exact ⟨ds', h1⟩
        · simp only [agRd, htr, getAll, asmV] at hd
          obtain ⟨ds', h1, _⟩ := Option.map_eq_some_iff.1 hd
          exact ⟨ds', h1⟩
      obtain ⟨ds', hd'⟩ := hd'
      exact ⟨hnio, io_arg hI xs pm l ds' hl hp1 hd'⟩
    | io t r =>
      obtain ⟨rfl, hk⟩ := agOf_io hg
      have main : (nth δ r ≠ .bad ∧ (t = r ∨ nth δ t = .ref 0 0)) ∧ ∃ ds', asmV l (getAll δ (agRd l)) = some ds' := by
        cases htr : Nat.beq t r
        · simp only [agRd, htr, getAll, asmV] at hd
          obtain ⟨i, hc, hd⟩ := Option.bind_eq_some_iff.1 hd
          obtain ⟨i', hc', hd⟩ := Option.bind_eq_some_iff.1 hd
          obtain ⟨ds', h1, _⟩ := Option.map_eq_some_iff.1 hd
          obtain ⟨hb, rfl⟩ := liveD_some hc'
          unfold ref0 at hc
          split at hc
          case h_2 => cases hc
          rename_i hr0
          cases hc
          exact ⟨⟨hb, .inr hr0⟩, ds', h1⟩
        · have e := beq_iff.1 htr
          subst e
          simp only [agRd, htr, getAll, asmV] at hd
          obtain ⟨i', hc', hd⟩ := Option.bind_eq_some_iff.1 hd
          obtain ⟨ds', h1, _⟩ := Option.map_eq_some_iff.1 hd
          exact ⟨⟨(liveD_some hc').1, .inl rfl⟩, ds', h1⟩
      obtain ⟨⟨hb, hre⟩, ds', hd'⟩ := main
      refine ⟨⟨hb, ?_, ?_⟩, io_arg hI xs pm l ds' hl hp1 hd'⟩
      · rcases hre with e | hr0
        · rw [e]; rfl
        · rcases hk with ⟨z, lv, io, _, h2⟩ | ⟨n, lv, io, _, h2⟩
          · rcases h2 with ⟨e, _⟩ | ⟨h3, h4⟩
            · rw [e]; rfl
            · exact (hI.via h3 (by rw [hr0]; simp)).1
          · rcases h2 with ⟨e, _⟩ | ⟨h3, h4⟩
            · rw [e]; rfl
            · obtain ⟨ii, ff, h5, _, h6⟩ := hI.ref h3 (by rw [hr0]; simp)
              rw [hr0] at h5
              cases h5
              rw [h4] at h6
              obtain ⟨g0, e1, e2⟩ := h6
              rw [eval_tmp, e1, e2]
      · rcases hk with ⟨z, lv, io, h1, h2⟩ | ⟨n, lv, io, h1, h2⟩
        · refine .inl ⟨z, lv, io, h1, ?_, hp2 z lv h1⟩
          rcases h2 with ⟨e, h2⟩ | ⟨_, h2⟩
          · rw [← e]; exact h2
          · exact h2
        · refine .inr ⟨n, lv, io, h1, ?_, hp3 n lv h1⟩
          rcases h2 with ⟨e, h2⟩ | ⟨_, h2⟩
          · rw [← e]; exact h2
          · exact h2

/-- What the roots hold after the call. -/
def IoNew (w' : World) (F' : Nat → Prop) (k : Kd) (u : D) (y : Value) : Prop :=
  u ≠ .bad ∧ match k with
    | .own z lv _ => lv ≠ 1 ∧ OwnV w' (FB F' 0 lv) (fun _ => True) z u y
    | .box n lv _ => lv ≠ 1 ∧ BoxV w' (FB F' 0 lv) (fun _ => True) n u y
    | _ => False

theorem io_new {w' : World} {F' : Nat → Prop} : ∀ (ags : List Ag) (pm : List Kd) (xs : List Operand) (us : List D), IoArg c a δ ags pm xs → UsOk w' F' pm us (xs.map a.eval) →
    us.length = (agIo ags).length ∧ ∀ (m r : Nat), (agIo ags)[m]? = some r → nth δ r ≠ .bad ∧ ∃ u : D, us[m]? = some u ∧ IoNew w' F' (nthK c.K r) u (av a r)
  | [], [], [], us, _, hu => by
    cases us with
    | nil => simp [agIo]
    | cons u us => simp [UsOk] at hu
  | .io t r :: l, m :: pm, x :: xs, us, h, hu => by
    obtain ⟨⟨h1, h2, h3⟩, h4⟩ := h
    simp only [List.map_cons, UsOk] at hu
    have hio : isIo m = true := by rcases h3 with ⟨z, lv, io, rfl, _⟩ | ⟨n, lv, io, rfl, _⟩ <;> rfl
    rw [if_pos hio] at hu
    cases us with
    | nil => exact hu.elim
    | cons u us =>
      obtain ⟨u1, u2, u3⟩ := hu
      obtain ⟨g1, g2⟩ := io_new l pm xs us h4 u3
      refine ⟨by simp [agIo, g1], fun j q hj => ?_⟩
      cases j with
      | zero =>
        simp only [agIo, List.getElem?_cons_zero, Option.some.injEq] at hj
        subst hj
        refine ⟨h1, u, rfl, u1, ?_⟩
        rw [h2] at u2
        have u2 := u2.resolve_left u1
        rcases h3 with ⟨z, lv, io, rfl, hk, hlv⟩ | ⟨n, lv, io, rfl, hk, hlv⟩
        · rw [hk]; exact ⟨hlv, u2⟩
        · rw [hk]; exact ⟨hlv, u2⟩
      | succ j =>
        simp only [agIo, List.getElem?_cons_succ] at hj
        exact g2 j q hj
  | .d y chk :: l, m :: pm, x :: xs, us, h, hu => by
    obtain ⟨h1, h2⟩ := h
    simp only [List.map_cons, UsOk, h1] at hu
    exact io_new l pm xs us h2 hu
  | .bor y chk :: l, m :: pm, x :: xs, us, h, hu => by
    obtain ⟨h1, h2⟩ := h
    simp only [List.map_cons, UsOk, h1] at hu
    exact io_new l pm xs us h2 hu
  | [], [], _ :: _, _, h, _ => h.elim
  | [], _ :: _, _, _, h, _ => h.elim
  | .io _ _ :: _, [], _, _, h, _ => h.elim
  | .io _ _ :: _, _ :: _, [], _, h, _ => h.elim
  | .d _ _ :: _, [], _, _, h, _ => h.elim
  | .d _ _ :: _, _ :: _, [], _, h, _ => h.elim
  | .bor _ _ :: _, [], _, _, h, _ => h.elim
  | .bor _ _ :: _, _ :: _, [], _, h, _ => h.elim

theorem outs_eq (us : List D) : ∀ (ios : List Nat) (j : Nat), j + ios.length ≤ us.length → clOf.go us j ios = (us.drop j).take ios.length
  | [], j, _ => by simp [clOf.go]
  | _ :: l, j, h => by
    simp only [List.length_cons] at h
    simp only [clOf.go]
    rw [outs_eq us l (j + 1) (by omega)]
    have hj : j < us.length := by omega
    rw [List.drop_eq_getElem_cons hj, List.length_cons, List.take_succ_cons, nth_eq, List.getD_eq_getElem?_getD, List.getElem?_eq_getElem hj]
    rfl

theorem setMany_at : ∀ (ss : List Nat) (ds δ : List D) (m s : Nat), nodupN ss = true → ss[m]? = some s → s < δ.length → nth (setMany δ ss ds) s = nth ds m
  | t :: ss, [], δ, m, s, hn, hm, hl => by
    rw [nth_kill _ _ _ (List.mem_of_getElem? hm)]
  | t :: ss, d :: ds, δ, 0, s, hn, hm, hl => by
    obtain ⟨h1, h2⟩ := nodupN_cons hn
    simp at hm
    subst hm
    simp only [setMany]
    rw [nth_setMany_notin _ _ _ _ h1, nth_setAt_eq, if_pos hl]
  | t :: ss, d :: ds, δ, m + 1, s, hn, hm, hl => by
    obtain ⟨h1, h2⟩ := nodupN_cons hn
    simp only [setMany]
    rw [setMany_at ss ds _ m s h2 (by simpa using hm) (by rw [len_setAt]; exact hl)]

theorem nodup_app {d : Nat} {l : List Nat} (h1 : memN d l = false) (h2 : nodupN l = true) : nodupN ([d] ++ l) = true := by
  simp only [List.cons_append, List.nil_append, nodupN, h1]
  exact h2

theorem apartN_eq : ∀ {l m : List Nat}, apartN l m = true → ∀ x ∈ l, x ∉ m
  | a :: l, m, h, x, hx => by
    simp only [apartN, memN_eq] at h
    split at h
    · cases h
    · rename_i h1
      rcases List.mem_cons.1 hx with rfl | hx
      · simpa using h1
      · exact apartN_eq h x hx

theorem root_lt {K : List Kd} {r : Nat} (h : isRoot K r) : r < K.length := by
  by_cases hd : r < K.length
  · exact hd
  · exfalso
    have : ∀ (K : List Kd) (r : Nat), ¬ r < K.length → nthK K r = .no := by
      intro K
      induction K with
      | nil => intro r _; rfl
      | cons k K ih =>
        intro r hr
        cases r with
        | zero => simp at hr
        | succ r => exact ih r (by simpa using hr)
    rw [isRoot, this K r hd] at h
    exact h

theorem io0_tail {m : Kd} {pm : List Kd} (h : io0 (m :: pm) = true) : io0 pm = true ∧ (∀ z lv io, m = .own z lv io → lv = 0) ∧ ∀ n lv io, m = .box n lv io → lv = 0 := by
  cases m with
  | own z lv io =>
    simp only [io0] at h
    split at h
    case h_2 => cases h
    rename_i h0
    exact ⟨h, fun _ _ _ e => by cases e; exact beq_iff.1 h0, fun _ _ _ e => (by cases e)⟩
  | box z lv io =>
    simp only [io0] at h
    split at h
    case h_2 => cases h
    rename_i h0
    exact ⟨h, fun _ _ _ e => (by cases e), fun _ _ _ e => by cases e; exact beq_iff.1 h0⟩
  | _ => exact ⟨by simpa only [io0] using h, fun _ _ _ e => (by cases e), fun _ _ _ e => (by cases e)⟩

theorem io0_at : ∀ (ags : List Ag) (pm : List Kd) (xs : List Operand), IoArg c a δ ags pm xs → io0 pm = true → ∀ (m r : Nat), (agIo ags)[m]? = some r → ∀ lv, ((∃ z io, nthK c.K r = .own z lv io) ∨ ∃ n io, nthK c.K r = .box n lv io) → lv = 0
  | [], _, _, _, _, m, r, hm, _, _ => by simp [agIo] at hm
  | .io t q :: l, m :: pm, x :: xs, h, h0, j, r, hj, lv, hk => by
    obtain ⟨⟨_, _, h3⟩, h4⟩ := h
    obtain ⟨g1, g2, g3⟩ := io0_tail h0
    cases j with
    | zero =>
      simp only [agIo, List.getElem?_cons_zero, Option.some.injEq] at hj
      subst hj
      rcases h3 with ⟨z, lv', io, rfl, hk', _⟩ | ⟨n, lv', io, rfl, hk', _⟩
      · have := g2 z lv' true rfl
        subst this
        rw [hk'] at hk
        rcases hk with ⟨_, _, e⟩ | ⟨_, _, e⟩ <;> cases e
        rfl
      · have := g3 n lv' true rfl
        subst this
        rw [hk'] at hk
        rcases hk with ⟨_, _, e⟩ | ⟨_, _, e⟩ <;> cases e
        rfl
    | succ j => exact io0_at l pm xs h4 g1 j r (by simpa [agIo] using hj) lv hk
  | .d _ _ :: l, m :: pm, x :: xs, h, h0, j, r, hj, lv, hk => io0_at l pm xs h.2 (io0_tail h0).1 j r (by simpa [agIo] using hj) lv hk
  | .bor _ _ :: l, m :: pm, x :: xs, h, h0, j, r, hj, lv, hk => io0_at l pm xs h.2 (io0_tail h0).1 j r (by simpa [agIo] using hj) lv hk
  | .io _ _ :: _, [], _, h, _, _, _, _, _, _ => h.elim
  | .io _ _ :: _, _ :: _, [], h, _, _, _, _, _, _ => h.elim
  | .d _ _ :: _, [], _, h, _, _, _, _, _, _ => h.elim
  | .d _ _ :: _, _ :: _, [], h, _, _, _, _, _, _ => h.elim
  | .bor _ _ :: _, [], _, h, _, _, _, _, _, _ => h.elim
  | .bor _ _ :: _, _ :: _, [], h, _, _, _, _, _, _ => h.elim

/-- What the caller knows after the call: the general step. 'g': who gets a result's new block ('none': it is data from now on). -/
theorem call_step (hI : Inv c B X w0 F0 F O a w δ) {S : FS} {ags : List Ag} {xs : List Operand} {ds rs us : List D} {F' : Nat → Prop} {R : Nat → Option Nat} {vs : List Value} {w' : World} {v : Value} {dst : Option Nat} {x : List D}
    (hags : agsOf c.K xs S.pm = some ags) (hpm : okPm S.pm = true) (hds : asmV ags (getAll δ (agRd ags)) = some ds) (hnd : nodupN (agIo ags) = true)
    (hbor : agBor ags = [] ∨ (noAny S.rm = true ∧ io0 S.pm = true))
    (hpost : CallPost S (xs.map a.eval).toArray rs us w (fun b => F b ∨ ∃ r ∈ agBor ags, O b = some (r, 0)) (fun b => match O b with
      | some (r, 0) => owIx ags r 0
      | _ => none) F' R vs w')
    (hdx : (dst = none ∧ x = []) ∨ ∃ d y, dst = some d ∧ x = [y] ∧ memN d (agIo ags) = false) (g : Nat → Option (Nat × Nat)) (hg : ∀ j p, g j = some p → ∀ d, dst = some d → p.1 = d) (hgn : dst = none → ∀ j, g j = none)
    (hU : ∀ (F2 : Nat → Prop) (O2 : Nat → Option (Nat × Nat)), (∀ lv b, (agBor ags = [] ∨ lv ≤ 1) → FB F' w.heap.size lv b → FB F2 B lv b) → (∀ b j, R b = some j → O2 b = g j ∧ B ≤ b ∧ (g j = none → F2 b)) → ∀ d y, dst = some d → x = [y] → d < δ.length → SlotU c.K B F2 O2 (a.put dst v) w' d y) :
    ∃ F2 O2, Inv c B X w0 F0 F2 O2 (a.put dst v) w' (setMany δ (dst.toList ++ (agIo ags ++ depsAll c.K dst.toList)) (x ++ us)) := by
  have hB := hI.bb
  have hioA := io_arg hI xs S.pm ags ds hags hpm hds
  obtain ⟨hul, hun⟩ := io_new (c := c) (a := a) (δ := δ) ags S.pm xs us hioA (by simpa using hpost.us)
  -- what the call may have written
  have hkeep : ∀ b, b < w.heap.size → (∀ p, O b = some p → p.1 ∉ agIo ags) → w'.heap[b]? = w.heap[b]? := by
    intro b hb hp
    refine hpost.keep b hb ?_
    split
    · rename_i r he
      cases h : owIx ags r 0 with
      | none => rfl
      | some j => exact absurd (owIx_mem h) (hp _ he)
    · rfl
  have hRn : ∀ b, b < w.heap.size → R b = none := fun b hb => by
    cases h : R b with
    | none => rfl
    | some j => have := (hpost.rn b j h).1; omega
  let F2 : Nat → Prop := fun b => F b ∨ (F' b ∧ w.heap.size ≤ b) ∨ ∃ j, R b = some j ∧ g j = none
  let O2 : Nat → Option (Nat × Nat) := fun b => match R b with
    | some j => g j
    | none => O b
  have hO2n : ∀ b, R b = none → O2 b = O b := fun b h => by simp only [O2, h]
  have hO2s : ∀ b j, R b = some j → O2 b = g j := fun b j h => by simp only [O2, h]
  have hOlt : ∀ b, w.heap.size ≤ b → O b = none := fun b hb => by
    cases h : O b with
    | none => rfl
    | some p => have := (hI.ol b p h).1; omega
  have hlv : ∀ lv b, (agBor ags = [] ∨ lv ≤ 1) → FB F' w.heap.size lv b → FB F2 B lv b := by
    intro lv b hbl hb
    match lv, hbl, hb with
    | 0, _, hb => exact hb.elim
    | 1, _, hb => exact ⟨.inr (.inl hb), Nat.le_trans hB hb.2⟩
    | n + 2, hbl, hb =>
      have he : agBor ags = [] := hbl.resolve_right (by omega)
      rcases (hpost.fn b hb).1 with h1 | h1
      · rcases h1 with h1 | ⟨r, hr, _⟩
        · exact .inl h1
        · rw [he] at hr; cases hr
      · exact .inr (.inl ⟨hb, h1⟩)
  have hnd2 : nodupN (dst.toList ++ agIo ags) = true := by
    rcases hdx with ⟨rfl, _⟩ | ⟨d, y, rfl, _, hm⟩
    · exact hnd
    · exact nodup_app hm hnd
  have hlen : (x ++ us).length = (dst.toList ++ agIo ags).length := by
    rcases hdx with ⟨rfl, rfl⟩ | ⟨d, y, rfl, rfl, _⟩ <;> simp [hul]
  have hlt : ∀ r, isRoot c.K r → r < δ.length := fun r hr => by
    rw [hI.ld]
    exact root_lt hr
  have hgetio : ∀ (m r : Nat), (agIo ags)[m]? = some r → isRoot c.K r → nth (setMany δ (dst.toList ++ agIo ags) (x ++ us)) r = nth us m := by
    intro m r hm hr
    rcases hdx with ⟨rfl, rfl⟩ | ⟨d, y, rfl, rfl, _⟩
    · exact setMany_at _ _ _ m r hnd (by simpa using hm) (hlt r hr)
    · have := setMany_at (δ := δ) ([d] ++ agIo ags) ([y] ++ us) (m := m + 1) (s := r) hnd2 (by simpa using hm) (hlt r hr)
      simpa [nth] using this
  have hrootIo : ∀ (m r : Nat), (agIo ags)[m]? = some r → isRoot c.K r := by
    intro m r hm
    obtain ⟨_, u, _, hn⟩ := hun m r hm
    obtain ⟨_, hn⟩ := hn
    unfold isRoot
    generalize nthK c.K r = kk at hn
    cases kk <;> first | exact hn.elim | trivial
  refine ⟨F2, O2, hI.many hlen (by cases dst <;> simp [Act.put]) (by cases dst <;> rfl) (fun s hs => ?_) (fun r hr _ hb => ?_) (fun s hs => ?_) (fun _ hb => .inl hb) (fun b hb => ?_) (fun b p hp hm => ?_) (fun b hb => ?_) (fun b p hp => ?_) (fun b hb => ?_) hpost.size hpost.os hpost.tape hpost.output (fun b hb hx => ?_)⟩
  · cases dst with
    | none => rfl
    | some d => exact av_put_ne fun e => hs (by simp [e])
  · obtain ⟨m, hm⟩ := List.getElem?_of_mem hr
    obtain ⟨_, u, hu, hn⟩ := hun m r hm
    rw [hgetio m r hm (hrootIo m r hm), nth_eq, List.getD_eq_getElem?_getD, hu]
    exact hn.1
  · rcases List.mem_append.1 hs with hs | hs
    · rcases hdx with ⟨rfl, _⟩ | ⟨d, y, rfl, rfl, _⟩
      · cases hs
      · have : s = d := by simpa using hs
        subst this
        by_cases hsl : s < δ.length
        · have e := setMany_at (δ := δ) ([s] ++ agIo ags) ([y] ++ us) (m := 0) (s := s) hnd2 rfl hsl
          simp only [Option.toList_some] at e ⊢
          rw [e]
          exact hU F2 O2 hlv (fun b j hj => ⟨hO2s b j hj, Nat.le_trans hB (hpost.rn b j hj).1, fun hn => .inr (.inr ⟨j, hj, hn⟩)⟩) s y rfl rfl hsl
        · refine .inl ?_
          have : ∀ (l : List D) (n : Nat), ¬ n < l.length → nth l n = .bad := fun l n h => by
            rw [nth_eq, List.getD_eq_getElem?_getD, List.getElem?_eq_none (by omega)]; rfl
          exact this _ _ (by rw [len_setMany]; exact hsl)
    · have hs' := hs
      obtain ⟨m, hm⟩ := List.getElem?_of_mem hs
      have hr := hrootIo m s hm
      obtain ⟨hb, u, hu, hn⟩ := hun m s hm
      rw [hgetio m s hm hr, nth_eq, List.getD_eq_getElem?_getD, hu]
      have hav : av (a.put dst v) s = av a s := by
        cases dst with
        | none => rfl
        | some d =>
          refine av_put_ne ?_
          rcases hdx with ⟨h, _⟩ | ⟨d', y, h, _, hm'⟩
          · cases h
          · cases h
            rintro rfl
            rw [memN_eq] at hm'
            exact (of_decide_eq_false hm') hs'
      refine .inr ?_
      obtain ⟨hn1, hn2⟩ := hn
      have hbl : ∀ lv, lv ≠ 1 → (agBor ags = [] ∨ lv ≤ 1) → ∀ b, FB F' 0 lv b → FB F2 B lv b := by
        intro lv h1 h2 b hb
        refine hlv lv b h2 ?_
        match lv, h1 with
        | 0, _ => exact hb
        | n + 2, _ => exact hb
      have hlv1 : ∀ lv, (∃ z io, nthK c.K s = .own z lv io) ∨ (∃ n io, nthK c.K s = .box n lv io) → agBor ags = [] ∨ lv ≤ 1 := by
        intro lv hk
        rcases hbor with h | ⟨_, h0⟩
        · exact .inl h
        · right
          have := io0_at ags S.pm xs hioA h0 m s hm lv hk
          omega
      generalize hks : nthK c.K s = kk at hn2
      cases kk with
      | own z lv io =>
        refine .inr ?_
        obtain ⟨h1, h2⟩ := hn2
        rw [hav]
        have hown := (hI.own hks hb).blk
        exact OwnV_mono' (hbl lv h1 (hlv1 lv (.inl ⟨z, io, hks⟩))) (fun _ _ => rfl) (fun b hbk _ => ⟨⟨(hO2n b (hRn b (hown b hbk).2)).trans (hown b hbk).1.1, (hown b hbk).1.2⟩, rfl⟩) h2
      | box n lv io =>
        refine .inr ?_
        obtain ⟨h1, h2⟩ := hn2
        rw [hav]
        have hown := (hI.box hks hb).blk
        exact BoxV_mono' (hbl lv h1 (hlv1 lv (.inr ⟨n, io, hks⟩))) (fun _ _ => rfl) (fun b hbk _ => ⟨⟨(hO2n b (hRn b (hown b hbk).2)).trans (hown b hbk).1.1, (hown b hbk).1.2⟩, rfl⟩) h2
      | _ => exact hn2.elim
  · exact hkeep b (hI.fl b hb).1 fun p hp => by rw [(hI.fl b hb).2] at hp; cases hp
  · have hb := (hI.ol b p hp).1
    exact ⟨(hO2n b (hRn b hb)).trans hp, hkeep b hb fun q hq => by rw [hp] at hq; cases hq; exact fun hm' => hm (List.mem_append_right _ hm')⟩
  · rcases hb with hb | hb | ⟨j, hj, hn⟩
    · obtain ⟨h1, h2⟩ := hI.fl b hb
      exact ⟨Nat.lt_of_lt_of_le h1 hpost.size, (hO2n b (hRn b h1)).trans h2⟩
    · obtain ⟨_, h1, h2⟩ := hpost.fn b hb.1
      exact ⟨h1, (hO2n b h2).trans (hOlt b hb.2)⟩
    · exact ⟨(hpost.rn b j hj).2, (hO2s b j hj).trans hn⟩
  · cases h : R b with
    | none =>
      rw [hO2n b h] at hp
      exact ⟨Nat.lt_of_lt_of_le (hI.ol b p hp).1 hpost.size, (hI.ol b p hp).2⟩
    | some j => exact ⟨(hpost.rn b j h).2, .inl (Nat.le_trans hB (hpost.rn b j h).1)⟩
  · rcases hb with hb | hb | ⟨j, hj, _⟩
    · exact .inl hb
    · exact .inr (Nat.le_trans hB hb.2)
    · exact .inr (Nat.le_trans hB (hpost.rn b j hj).1)
  · refine hkeep b (Nat.lt_of_lt_of_le hb hB) fun p hp => ?_
    rcases (hI.ol b p hp).2 with h1 | h1
    · omega
    · exact absurd h1 hx

theorem noAny_at : ∀ {ms : List Kd}, noAny ms = true → ∀ i lv, (nthK ms i = .dat lv ∨ ∃ z io, nthK ms i = .own z lv io) → lv ≤ 1
  | [], _, i, lv, hk => by simp [nthK] at hk
  | m :: ms, h, i, lv, hk => by
    have : (∀ l, m = .dat l → l ≤ 1) ∧ (∀ z l io, m = .own z l io → l ≤ 1) ∧ noAny ms = true := by
      cases m with
      | dat a =>
        simp only [noAny] at h
        split at h
        case h_2 => cases h
        rename_i e
        exact ⟨fun l e' => by cases e'; exact ble_iff.1 e, fun _ _ _ e => (by cases e), h⟩
      | own z a io =>
        simp only [noAny] at h
        split at h
        case h_2 => cases h
        rename_i e
        exact ⟨fun _ e => (by cases e), fun _ l _ e' => by cases e'; exact ble_iff.1 e, h⟩
      | _ => simp [noAny] at h
    obtain ⟨h1, h2, h3⟩ := this
    cases i with
    | zero =>
      simp only [nthK] at hk
      rcases hk with hk | ⟨z, io, hk⟩
      · exact h1 lv hk
      · exact h2 z lv io hk
    | succ i => exact noAny_at h3 i lv hk

theorem callee_run {o : Oper} {q : Call} {f : Nat} (ho : o.op = .call q) (hf : q.callee = .value (.func f)) : (execOp a.eval o).run P w = (callFunc f (q.args.map a.eval)).run P w := by
  simp [execOp, ho, resolve, hf, Deferred.ofValue, Act.eval, invoke]

theorem sound_call (hS : ∀ f S, look c.S f = some S → Meets c.G P f S) {o : Oper} {q : Call} {f : Nat} {S : FS} (ho : o.op = .call q) (hf : q.callee = .value (.func f)) (hlk : look c.S f = some S) {A : Ac} (hA : clOf c o.dst S q.args.toList = some A) (hI : Inv c B X w0 F0 F O a w δ)
    {k : List D → Option Out} {r : Out} (hg : goAc c A δ k = some r) (Q : Exit → Act → World → Prop) : o.wp P a w (Next c B X w0 F0 k r) Q := by
  have hM := hS f S hlk
  unfold clOf at hA
  split at hA
  · cases hA
  rename_i ags hags
  simp only at hA
  split at hA
  case h_2 => cases hA
  rename_i hokB hnd hpm
  have hbor : agBor ags = [] ∨ (noAny S.rm = true ∧ io0 S.pm = true ∧ apartN (agBor ags) (agIo ags) = true) := by
    split at hokB
    · rename_i e; exact .inl e
    · split at hokB
      · rename_i h1 h2; exact .inr ⟨h1, h2, hokB⟩
      · cases hokB
  have hbor' : agBor ags = [] ∨ (noAny S.rm = true ∧ io0 S.pm = true) := hbor.imp id fun h => ⟨h.1, h.2.1⟩
  -- the call itself
  have call : ∀ (ds rs us : List D), asmV ags (getAll δ (agRd ags)) = some ds → S.f ds = some (.ret rs us) → (∀ v w' F' R vs, v = resV vs → CallPost S (q.args.toList.map a.eval).toArray rs us w (fun b => F b ∨ ∃ r ∈ agBor ags, O b = some (r, 0)) (fun b => match O b with
      | some (r, 0) => owIx ags r 0
      | _ => none) F' R vs w' → Next c B X w0 F0 k r (a.put o.dst v) w') → o.wp P a w (Next c B X w0 F0 k r) Q := by
    intro ds rs us h1 h2 h3
    have hargs := args_ok (F' := fun b => F b ∨ ∃ r ∈ agBor ags, O b = some (r, 0)) (ow := fun b => match O b with
      | some (r, 0) => owIx ags r 0
      | _ => none) hI (fun _ h => .inl h) q.args.toList S.pm ags 0 ds hags hpm h1 (fun r hr b hb => .inr ⟨r, hr, hb⟩) (fun j r hj b hb => by simp only [hb]; rw [owIx_at hnd hj])
    have he := hM ds rs us h2 (q.args.toList.map a.eval).toArray w _ _ (gOk_mono (fun _ h => Or.inl h) (fun _ _ => rfl) hI.gl) (by simpa using hargs) (fun b hb => ?_) (fun b i hb => ?_) o a (Next c B X w0 F0 k r) Q (fun v w' hp => ?_)
    · unfold Oper.wp
      rw [callee_run ho hf]
      have : q.args.map a.eval = (q.args.toList.map a.eval).toArray := by rw [← List.map_toArray, Array.toArray_toList]
      rw [this]
      exact he
    · rcases hb with hb | ⟨r', hr, hb⟩
      · obtain ⟨g1, g2⟩ := hI.fl b hb
        exact ⟨g1, by simp only [g2]⟩
      · refine ⟨(hI.ol b _ hb).1, ?_⟩
        simp only [hb]
        cases h : owIx ags r' 0 with
        | none => rfl
        | some j =>
          rcases hbor with h0 | ⟨_, _, h0⟩
          · rw [h0] at hr; cases hr
          · exact absurd (owIx_mem h) (apartN_eq h0 r' hr)
    · split at hb
      · rename_i r' hr; exact (hI.ol b _ hr).1
      · cases hb
    · obtain ⟨F', R, vs, h4, h5⟩ := hp
      exact h3 v w' F' R vs h4 h5
  have asm : ∀ (K : List D → List D → Option Out), asmK [] ags (getAll δ (agRd ags)) (fun ds => callK (S.f ds) K) = some r → ∃ ds rs us, asmV ags (getAll δ (agRd ags)) = some ds ∧ S.f ds = some (.ret rs us) ∧ K rs us = some r := by
    intro K h
    rw [asmK_eq] at h
    obtain ⟨ds, h1, h2⟩ := Option.bind_eq_some_iff.1 h
    simp only [List.nil_append] at h2
    unfold callK at h2
    split at h2
    · rename_i rs us h3
      exact ⟨ds, rs, us, h1, h3, h2⟩
    · cases h2
  have uslen : ∀ {ds rs us : List D} {F' : Nat → Prop} {R : Nat → Option Nat} {vs : List Value} {w' : World} {F1 : Nat → Prop} {ow : Nat → Option Nat}, asmV ags (getAll δ (agRd ags)) = some ds → CallPost S (q.args.toList.map a.eval).toArray rs us w F1 ow F' R vs w' → clOf.outs us (agIo ags) = us := by
    intro ds rs us F' R vs w' F1 ow h1 h2
    have h3 := (io_new (c := c) (a := a) (δ := δ) ags S.pm q.args.toList us (io_arg hI _ _ _ _ hags hpm h1) (by simpa using h2.us)).1
    unfold clOf.outs
    rw [outs_eq us _ 0 (by omega), List.drop_zero, ← h3, List.take_length]
  have hlv0 : ∀ i lv, (nthK S.rm i = .dat lv ∨ ∃ z io, nthK S.rm i = .own z lv io) → agBor ags = [] ∨ lv ≤ 1 := fun i lv hk => hbor'.imp id fun h => noAny_at h.1 i lv hk
  split at hA
  · rename_i hd
    split at hA
    case h_2 => cases hA
    rename_i hrm
    cases hA
    obtain ⟨ds, rs, us, h1, h2, h3⟩ := asm _ hg
    refine call ds rs us h1 h2 (fun v w' F' R vs hv hp => ?_)
    obtain ⟨F2, O2, hI'⟩ := call_step (v := v) (dst := none) (x := []) hI hags hpm h1 hnd hbor' hp (.inl ⟨rfl, rfl⟩) (fun _ => none) (fun _ _ h => by cases h) (fun _ _ => rfl) (fun _ _ _ _ _ _ h => by cases h)
    rw [uslen h1 hp] at h3
    exact ⟨F2, O2, _, by rw [hd]; exact hI', h3⟩
  · rename_i d hd
    split at hA
    · rename_i h1' h2' hrm
      cases hA
      obtain ⟨ds, rs, us, h1, h2, h3⟩ := asm _ hg
      refine call ds rs us h1 h2 (fun v w' F' R vs hv hp => ?_)
      obtain ⟨F2, O2, hI'⟩ := call_step (v := v) (dst := some d) (x := [.bad]) hI hags hpm h1 hnd hbor' hp (.inr ⟨d, .bad, rfl, rfl, h2'⟩) (fun _ => none) (fun _ _ h => by cases h) (fun _ _ => rfl) (fun _ _ _ _ d y _ h _ => by
        simp only [List.cons.injEq, and_true] at h
        exact .inl h.symm)
      rw [uslen h1 hp] at h3
      exact ⟨F2, O2, _, by rw [hd]; exact hI', h3⟩
    · rename_i kd h1' h2' hrm
      cases hA
      obtain ⟨ds, rs, us, h1, h2, h3⟩ := asm _ hg
      refine call ds rs us h1 h2 (fun v w' F' R vs hv hp => ?_)
      have hvl := hp.len
      rw [hrm] at hvl
      obtain ⟨y, rfl⟩ := List.length_eq_one_iff.1 hvl
      simp only [resV] at hv
      subst hv
      have hres := hp.res 0
      rw [hrm] at hres
      simp only [nthK, List.getD_cons_zero] at hres
      rw [hrm] at h1'
      have hlv := hlv0 0
      rw [hrm] at hlv
      simp only [nthK] at hlv
      have fin : ∀ (g : Nat → Option (Nat × Nat)), (∀ j p, g j = some p → p.1 = d) → (∀ (F2 : Nat → Prop) (O2 : Nat → Option (Nat × Nat)), (∀ lv b, (agBor ags = [] ∨ lv ≤ 1) → FB F' w.heap.size lv b → FB F2 B lv b) → (∀ b j, R b = some j → O2 b = g j ∧ B ≤ b ∧ (g j = none → F2 b)) → d < δ.length → SlotU c.K B F2 O2 (a.put (some d) v) w' d (nth rs 0)) →
          Next c B X w0 F0 k r (a.put o.dst v) w' := by
        intro g hg' hU
        obtain ⟨F2, O2, hI'⟩ := call_step (v := v) (dst := some d) (x := [nth rs 0]) hI hags hpm h1 hnd hbor' hp (.inr ⟨d, nth rs 0, rfl, rfl, h2'⟩) g (fun j p h d' e => by cases e; exact hg' j p h) (fun h => by cases h) (fun F2 O2 h4 h5 d' y' e1 e2 h6 => by
          cases e1
          simp only [List.cons.injEq, and_true] at e2
          subst e2
          exact hU F2 O2 h4 h5 h6)
        rw [uslen h1 hp] at h3
        exact ⟨F2, O2, _, by rw [hd]; exact hI', h3⟩
      have hsz : d < δ.length → av (a.put (some d) v) d = v := fun h => av_put_eq (by rw [hI.la, ← hI.ld]; exact h)
      by_cases hb : nth rs 0 = .bad
      · exact fin (fun _ => none) (fun _ _ h => by cases h) (fun _ _ _ _ _ => .inl hb)
      have hres := hres.resolve_left hb
      cases kd with
      | dat lv =>
        simp only [rmFit] at h1'
        split at h1'
        case h_2 => cases h1'
        rename_i l hkd
        rw [ble_iff] at h1'
        refine fin (fun _ => none) (fun _ _ h => by cases h) (fun F2 O2 h4 h5 h6 => .inr ?_)
        rw [hkd, hsz h6]
        exact .inr (RepV_mono (fun b hb => FB_le h1' _ (h4 lv b (hlv lv (.inl rfl)) hb)) (fun _ _ => rfl) hres)
      | own z lv io =>
        cases io
        case true =>
          simp only [rmFit] at h1'
          split at h1'
          · simp [sameKs] at h1'
          · cases h1'
        simp only [rmFit] at h1'
        have hlv' := hlv lv (.inr ⟨z, false, rfl⟩)
        rcases newIn_some h1' with ⟨l, hkd, hle⟩ | ⟨l, hkd, h1l, hle⟩
        · refine fin (fun _ => some (d, 0)) (fun _ _ h => by cases h; rfl) (fun F2 O2 h4 h5 h6 => .inr ?_)
          rw [hkd, hsz h6]
          exact .inr (OwnV_mono' (fun b hb => FB_le hle _ (h4 lv b hlv' hb)) (fun _ _ => rfl) (fun b _ hb => ⟨⟨(h5 b 0 hb.1).1, fun _ => (h5 b 0 hb.1).2.1⟩, rfl⟩) hres)
        · refine fin (fun _ => none) (fun _ _ h => by cases h) (fun F2 O2 h4 h5 h6 => .inr ?_)
          rw [hkd, hsz h6]
          refine .inr (RepV_mono (fun b hb => ?_) (fun _ _ => rfl) (OwnV_rep hres))
          rcases hb with hb | ⟨hb1, hb2⟩
          · exact FB_le hle _ (h4 lv b hlv' hb)
          · obtain ⟨_, g2, g3⟩ := h5 b 0 hb1
            match l, h1l with
            | 1, _ => exact ⟨g3 rfl, g2⟩
            | _ + 2, _ => exact g3 rfl
      | _ => exact hres.elim
    · rename_i h1' h2' hn0 hn1
      cases hA
      obtain ⟨ds, rs, us, h1, h2, h3⟩ := asm _ hg
      refine call ds rs us h1 h2 (fun v w' F' R vs hv hp => ?_)
      have hvl := hp.len
      have hfit : ∃ ns, nthK c.K d = .tup ns ∧ sameKs S.rm ns = true := by
        unfold rmFit at h1'
        split at h1'
        · rename_i e; exact absurd e (hn1 _)
        · rename_i e; exact absurd e (hn1 _)
        · rename_i e; exact absurd e hn0
        · split at h1'
          · exact ⟨_, ‹_›, h1'⟩
          · cases h1'
      obtain ⟨ns, hkd, hsame⟩ := hfit
      have hv2 : v = .tuple vs.toArray := by
        rw [hv]
        unfold resV
        split
        · rename_i y
          exfalso
          have : S.rm.length = 1 := by rw [← hvl]; rfl
          obtain ⟨kk, e⟩ := List.length_eq_one_iff.1 this
          exact hn1 _ e
        · rfl
      obtain ⟨F2, O2, hI'⟩ := call_step (v := v) (dst := some d) (x := [.tup rs]) hI hags hpm h1 hnd hbor' hp (.inr ⟨d, .tup rs, rfl, rfl, h2'⟩) (fun j => some (d, j + 1)) (fun j p h d' e => by cases e; cases h; rfl) (fun h => by cases h) (fun F2 O2 h4 h5 d' y' e1 e2 h6 => by
        cases e1
        simp only [List.cons.injEq, and_true] at e2
        subst e2
        refine .inr ?_
        rw [hkd, av_put_eq (by rw [hI.la, ← hI.ld]; exact h6), hv2]
        refine ⟨rs, vs.toArray, rfl, rfl, fun i => ?_⟩
        obtain ⟨e1, e2⟩ := sameKs_at hsame i
        rw [e1]
        have hgd : vs.toArray.getD i undef = vs.getD i undef := by simp
        rw [hgd]
        rcases hp.res i with hb | hres
        · exact .inl hb
        rcases e2 with e2 | ⟨lv, e2⟩ | ⟨z, lv, e2⟩
        · rw [e2] at hres; exact hres.elim
        · rw [e2] at hres ⊢
          exact .inr (RepV_mono (fun b hb => h4 lv b (hlv0 i lv (.inl e2)) hb) (fun _ _ => rfl) hres)
        · rw [e2] at hres ⊢
          exact .inr (OwnV_mono' (fun b hb => h4 lv b (hlv0 i lv (.inr ⟨z, false, e2⟩)) hb) (fun _ _ => rfl) (fun b _ hb => ⟨⟨(h5 b i hb.1).1, fun _ => (h5 b i hb.1).2.1⟩, rfl⟩) hres))
      rw [uslen h1 hp] at h3
      exact ⟨F2, O2, _, by rw [hd]; exact hI', h3⟩
    · cases hA

end
end Go.V
