/-
  Steps that write several slots, or memory: the general steps.
-/
import Derived.Test.YtfjkapnonljdeaaDoorVj
namespace Go.V
open Go.RowKit

/-- What may stand in a slot that is written, with no word of other slots. -/
def SlotU (K : List Kd) (B : Nat) (F : Nat → Prop) (O : Nat → Option (Nat × Nat)) (a : Act) (w : World) (s : Nat) (d : D) : Prop :=
  d = .bad ∨ match nthK K s with
    | .via _ => False
    | .ref _ => False
    | .tup ms => ∃ l vs, d = .tup l ∧ av a s = .tuple vs ∧ ∀ i, Lone B F O w (s, i + 1) (nthK ms i) (nth l i) (vs.getD i undef)
    | .no => True
    | k => Lone B F O w (s, 0) k d (av a s)

section
variable {P : Program} {c : Cx} {B : Nat} {X : Nat → Prop} {w0 : World} {F0 F : Nat → Prop} {O : Nat → Option (Nat × Nat)} {a : Act} {w : World} {δ : List D}

theorem SlotU.ok {K : List Kd} {F : Nat → Prop} {O : Nat → Option (Nat × Nat)} {a : Act} {w : World} {δ : List D} {s : Nat} (h : SlotU K B F O a w s (nth δ s)) : SlotOk K B F O a w δ s := by
  unfold SlotU at h
  unfold SlotOk
  rcases h with h | h
  · exact .inl h
  · refine .inr ?_
    generalize nthK K s = k at h
    cases k <;> first | exact h | exact h.elim

/-- Several slots written, memory changed. -/
theorem Inv.many (h : Inv c B X w0 F0 F O a w δ) {hw cw : List Nat} {outs : List D} {F' : Nat → Prop} {O' : Nat → Option (Nat × Nat)} {a' : Act} {w' : World}
    (hlen : outs.length = (hw ++ cw).length) (la : a'.tmps.size = a.tmps.size) (df : a'.defers = a.defers) (hav : ∀ s, s ∉ hw → av a' s = av a s)
    (hcw : ∀ r ∈ cw, r ∉ hw → nth δ r ≠ .bad → nth (setMany δ (hw ++ cw) outs) r ≠ .bad)
    (hU : ∀ s ∈ hw ++ cw, SlotU c.K B F' O' a' w' s (nth (setMany δ (hw ++ cw) outs) s))
    (hF : ∀ b, F b → F' b) (hw' : ∀ b, F b → w'.heap[b]? = w.heap[b]?)
    (ho : ∀ b p, O b = some p → p.1 ∉ hw ++ cw → O' b = some p ∧ w'.heap[b]? = w.heap[b]?)
    (fl : ∀ b, F' b → b < w'.heap.size ∧ O' b = none) (ol : ∀ b p, O' b = some p → b < w'.heap.size ∧ (B ≤ b ∨ X b)) (fn : ∀ b, F' b → F b ∨ B ≤ b) (sz : w.heap.size ≤ w'.heap.size)
    (os : w'.os = w.os) (tape : w'.tape = w.tape) (output : w'.output = w.output) (keep : ∀ b, b < B → ¬ X b → w'.heap[b]? = w.heap[b]?) :
    Inv c B X w0 F0 F' O' a' w' (setMany δ (hw ++ (cw ++ depsAll c.K hw)) outs) := by
  rw [← List.append_assoc, setMany_append _ _ _ _ hlen]
  have nd : ∀ s, nth (setMany (setMany δ (hw ++ cw) outs) (depsAll c.K hw) []) s = nth (setMany δ (hw ++ cw) outs) s ∨ nth (setMany (setMany δ (hw ++ cw) outs) (depsAll c.K hw) []) s = .bad := fun s => nth_setMany_or _ _ s
  refine h.step (fun s => s ∈ hw ++ cw) la (by rw [len_setMany, len_setMany]) df (fun s hs => ⟨hav s fun hm => hs (List.mem_append_left _ hm), ?_⟩) hF hw' ho (fun s r hs hv hb => ?_) (fun s hs => ?_) fl ol fn sz os tape output keep
  · rcases nd s with e | e
    · exact .inl (e.trans (nth_setMany_notin _ _ _ _ hs))
    · exact .inr e
  · by_cases hr : r ∈ hw
    · exact absurd (nth_kill _ _ _ (mem_depsAll hv hw hr)) hb
    · refine ⟨hav r hr, ?_⟩
      have e : nth (setMany (setMany δ (hw ++ cw) outs) (depsAll c.K hw) []) s = nth (setMany δ (hw ++ cw) outs) s := (nd s).resolve_right hb
      rw [e, nth_setMany_notin _ _ _ _ hs] at hb
      obtain ⟨h1, h2⟩ := h.root hv hb
      rw [nth_setMany_notin _ _ _ _ (root_notinAll h1 hw)]
      by_cases hc : r ∈ cw
      · exact hcw r hc hr h2
      · rw [nth_setMany_notin _ _ _ _ (fun hm => (List.mem_append.1 hm).elim hr hc)]
        exact h2
  · rcases nd s with e | e
    · refine SlotU.ok ?_
      rw [e]
      exact hU s hs
    · exact .inl e

/-- The block of a value. -/
def blk : Value → Option Nat
  | .slice (some ⟨g, _, _⟩) _ _ => some g
  | .pointer (some ⟨g, _, _⟩) => some g
  | _ => none
def giveO (O : Nat → Option (Nat × Nat)) (y : Value) (x : Option (Nat × Nat)) : Nat → Option (Nat × Nat) := fun b => if blk y = some b then x else O b
def addF (F : Nat → Prop) (y : Value) : Nat → Prop := fun b => F b ∨ blk y = some b

theorem OwnV.blk {F : Nat → Prop} {own : Nat → Prop} {z : Nat} {d : D} {y : Value} (h : OwnV w F own z d y) : ∀ b, blk y = some b → own b ∧ b < w.heap.size := by
  intro b hb
  obtain ⟨l, _, _, h3⟩ := h
  rcases h3 with ⟨rfl, _⟩ | ⟨g, o, c, us, cs, e, rfl, a2, a3, a4, a5, a6, a7⟩
  · simp [V.blk] at hb
  · simp [V.blk] at hb
    subst hb
    exact ⟨a7, (Array.getElem?_eq_some_iff.1 a3).1⟩
theorem OwnV.own {F : Nat → Prop} {own own' : Nat → Prop} {z : Nat} {d : D} {y : Value} (h : OwnV w F own z d y) (ho : ∀ b, V.blk y = some b → own b → own' b) : OwnV w F own' z d y := by
  obtain ⟨l, h1, h2, h3⟩ := h
  refine ⟨l, h1, h2, ?_⟩
  rcases h3 with h3 | ⟨g, o, c, us, cs, e, rfl, a2, a3, a4, a5, a6, a7⟩
  · exact .inl h3
  · exact .inr ⟨g, o, c, us, cs, e, rfl, a2, a3, a4, a5, a6, ho g rfl a7⟩
theorem OwnV_mono' {w w' : World} {F F' : Nat → Prop} {own own' : Nat → Prop} {z : Nat} {d : D} {y : Value} (hF : ∀ b, F b → F' b) (hw : ∀ b, F b → w'.heap[b]? = w.heap[b]?)
    (ho : ∀ g, V.blk y = some g → own g → own' g ∧ w'.heap[g]? = w.heap[g]?) (h : OwnV w F own z d y) : OwnV w' F' own' z d y := by
  obtain ⟨l, h1, h2, h3⟩ := h
  refine ⟨l, h1, h2, ?_⟩
  rcases h3 with h3 | ⟨g, o, c, us, cs, e, rfl, a2, a3, a4, a5, a6, a7⟩
  · exact .inl h3
  · exact .inr ⟨g, o, c, us, cs, e, rfl, a2, (ho g rfl a7).2.trans a3, a4, RepL_mono hF hw _ _ a5, a6, (ho g rfl a7).1⟩

theorem setMany_dead : ∀ (ts : List Nat) (δ : List D) (s : Nat), s ∈ ts → nth (setMany δ ts (ts.map fun _ => D.bad)) s = .bad
  | t :: ts, δ, s, h => by
    simp only [List.map_cons, setMany]
    by_cases hs : s ∈ ts
    · exact setMany_dead ts _ s hs
    · rw [nth_setMany_notin _ _ _ _ hs]
      have : s = t := by simpa [hs] using h
      subst this
      rw [nth_setAt_eq]
      split <;> rfl

theorem newIn_some {K : List Kd} {d z lv : Nat} (h : newIn K d z lv = true) : (∃ l, nthK K d = .own z l false ∧ lv ≤ l) ∨ ∃ l, nthK K d = .dat l ∧ 1 ≤ l ∧ lv ≤ l := by
  unfold newIn at h
  split at h
  · rename_i z' l hk
    split at h
    · rename_i hz
      rw [beq_iff] at hz
      subst hz
      exact .inl ⟨l, hk, ble_iff.1 h⟩
    · cases h
  · rename_i l hk
    split at h
    · rename_i h1
      exact .inr ⟨l, hk, ble_iff.1 h1, ble_iff.1 h⟩
    · cases h
  · cases h

theorem nth_install {δ : List D} {d s : Nat} {ts : List Nat} {x : D} (hs : s ∈ d :: ts) : nth (setMany δ (d :: ts) (x :: ts.map fun _ => D.bad)) s = .bad ∨ (s = d ∧ d < δ.length ∧ nth (setMany δ (d :: ts) (x :: ts.map fun _ => D.bad)) s = x) := by
  simp only [setMany]
  by_cases ht : s ∈ ts
  · exact .inl (setMany_dead ts _ s ht)
  · rw [nth_setMany_notin _ _ _ _ ht]
    have : s = d := by simpa [ht] using hs
    subst this
    rw [nth_setAt_eq]
    split
    · exact .inr ⟨rfl, ‹_›, rfl⟩
    · exact .inl rfl

/-- A slice is put into a slot: one of new memory, or one that other slots gave up. -/
theorem Inv.install (h : Inv c B X w0 F0 F O a w δ) {d z lv : Nat} {ts : List Nat} {x : D} {y : Value} {w' : World} (hk : newIn c.K d z lv = true)
    (hv : OwnV w' (FB F B lv) (fun g => B ≤ g ∧ (w.heap.size ≤ g ∨ ∃ p, O g = some p ∧ p.1 ∈ ts)) z x y)
    (sz : w.heap.size ≤ w'.heap.size) (hw : ∀ b, b < w.heap.size → (∀ p, O b = some p → p.1 ∉ ts) → w'.heap[b]? = w.heap[b]?)
    (os : w'.os = w.os) (tape : w'.tape = w.tape) (output : w'.output = w.output) :
    ∃ F' O', Inv c B X w0 F0 F' O' (a.put (some d) y) w' (setMany δ ((d :: ts) ++ ([] ++ depsAll c.K (d :: ts))) (x :: ts.map fun _ => .bad)) := by
  have hblk : ∀ b, V.blk y = some b → (B ≤ b ∧ (w.heap.size ≤ b ∨ ∃ p, O b = some p ∧ p.1 ∈ ts)) ∧ b < w'.heap.size := hv.blk
  have hFb : ∀ b, F b → V.blk y ≠ some b := fun b hb e => by
    obtain ⟨⟨_, h1⟩, _⟩ := hblk b e
    obtain ⟨h2, h3⟩ := h.fl b hb
    rcases h1 with h1 | ⟨p, h1, _⟩
    · omega
    · rw [h3] at h1; cases h1
  have hwF : ∀ b, F b → w'.heap[b]? = w.heap[b]? := fun b hb => hw b (h.fl b hb).1 fun p hp => by rw [(h.fl b hb).2] at hp; cases hp
  have hwK : ∀ b, b < B → ¬ X b → w'.heap[b]? = w.heap[b]? := fun b hb hx => hw b (Nat.lt_of_lt_of_le hb h.bb) fun p hp => by
    rcases (h.ol b p hp).2 with h1 | h1
    · omega
    · exact absurd h1 hx
  have hoO : ∀ (x' : Option (Nat × Nat)) b p, O b = some p → p.1 ∉ (d :: ts) ++ [] → giveO O y x' b = some p ∧ w'.heap[b]? = w.heap[b]? := fun x' b p hp hm => by
    have hm' : p.1 ∉ ts := fun hm' => hm (by simp [hm'])
    have hlt := (h.ol b p hp).1
    refine ⟨?_, hw b hlt fun p' hp' => by rw [hp] at hp'; cases hp'; exact hm'⟩
    unfold giveO
    rw [if_neg]
    · exact hp
    · intro e
      obtain ⟨⟨_, h1⟩, _⟩ := hblk b e
      rcases h1 with h1 | ⟨p', h1, h2⟩
      · omega
      · rw [hp] at h1; cases h1; exact hm' h2
  have hol : ∀ (x' : Option (Nat × Nat)) b p, giveO O y x' b = some p → b < w'.heap.size ∧ (B ≤ b ∨ X b) := fun x' b p hp => by
    unfold giveO at hp
    split at hp
    · rename_i e
      exact ⟨(hblk b e).2, .inl (hblk b e).1.1⟩
    · obtain ⟨h1, h2⟩ := h.ol b p hp
      exact ⟨by omega, h2⟩
  have hav : ∀ s, s ∉ d :: ts → av (a.put (some d) y) s = av a s := fun s hs => av_put_ne fun e => hs (by simp [e])
  have hlen : (x :: ts.map fun _ => D.bad).length = ((d :: ts) ++ []).length := by simp
  rcases newIn_some hk with ⟨l, hk, hl⟩ | ⟨l, hk, h1l, hl⟩
  · refine ⟨F, giveO O y (some (d, 0)), h.many hlen size_put rfl hav (by simp) (fun s hs => ?_) (fun _ hb => hb) hwF (hoO _) (fun b hb => ?_) (hol _) (fun _ hb => .inl hb) sz os tape output hwK⟩
    · rw [List.append_nil] at hs ⊢
      rcases nth_install (δ := δ) (x := x) hs with e | ⟨rfl, hd, e⟩
      · exact .inl e
      · refine .inr ?_
        rw [hk, e, av_put_eq (by rw [h.la, ← h.ld]; exact hd)]
        refine .inr ?_
        exact OwnV_mono' (FB_le hl) (fun _ _ => rfl) (fun g hg ho => ⟨⟨by unfold giveO; rw [if_pos hg], fun _ => ho.1⟩, rfl⟩) hv
    · refine ⟨Nat.lt_of_lt_of_le (h.fl b hb).1 sz, ?_⟩
      unfold giveO
      rw [if_neg (hFb b hb)]
      exact (h.fl b hb).2
  · refine ⟨addF F y, giveO O y none, h.many hlen size_put rfl hav (by simp) (fun s hs => ?_) (fun _ hb => .inl hb) hwF (hoO _) (fun b hb => ?_) (hol _) (fun b hb => ?_) sz os tape output hwK⟩
    · rw [List.append_nil] at hs ⊢
      rcases nth_install (δ := δ) (x := x) hs with e | ⟨rfl, hd, e⟩
      · exact .inl e
      · refine .inr ?_
        rw [hk, e, av_put_eq (by rw [h.la, ← h.ld]; exact hd)]
        refine .inr ?_
        refine RepV_mono (fun b hb => ?_) (fun _ _ => rfl) (OwnV_rep (hv.own (own' := fun g => B ≤ g ∧ V.blk y = some g) fun b hb ho => ⟨ho.1, hb⟩))
        rcases hb with hb | ⟨hb1, hb2⟩
        · exact FB_le hl _ (FB_mono (fun _ h => .inl h) _ hb)
        · have hx : addF F y b := .inr hb2
          match l, h1l with
          | 1, _ => exact ⟨hx, hb1⟩
          | _ + 2, _ => exact hx
    · rcases hb with hb | hb
      · refine ⟨Nat.lt_of_lt_of_le (h.fl b hb).1 sz, ?_⟩
        unfold giveO
        rw [if_neg (hFb b hb)]
        exact (h.fl b hb).2
      · exact ⟨(hblk b hb).2, by unfold giveO; rw [if_pos hb]⟩
    · rcases hb with hb | hb
      · exact .inl hb
      · exact .inr (hblk b hb).1.1

theorem many_skip {o : Oper} {F' : Nat → Prop} {O' : Nat → Option (Nat × Nat)} {y : Value} {w' : World} {d : Nat} {δ' : List D} (hd : o.dst = some d) {k : List D → Option Out} {r : Out}
    (hr : (execOp a.eval o).run P w = .ok (.value y) w') (hI : Inv c B X w0 F0 F' O' (a.put (some d) y) w' δ') (hk : k δ' = some r) (Q : Exit → Act → World → Prop) : o.wp P a w (Next c B X w0 F0 k r) Q :=
  wp_value hr ⟨F', O', δ', by rw [hd]; exact hI, hk⟩

theorem mayGive_some {K : List Kd} {r : Nat} (h : mayGive K r = true) : ∃ z lv, nthK K r = .own z lv false := by
  unfold mayGive at h
  split at h
  · exact ⟨_, _, ‹_›⟩
  · cases h

/-- A slice changes its owner: as it is, or a part of it. -/
theorem Inv.pass (h : Inv c B X w0 F0 F O a w δ) {d r z lv : Nat} {x : D} {y : Value} (hk : newIn c.K d z lv = true)
    (hv : OwnV w (FB F B lv) (fun g => O g = some (r, 0) ∧ B ≤ g) z x y) :
    ∃ F' O', Inv c B X w0 F0 F' O' (a.put (some d) y) w (setMany δ ([d, r] ++ ([] ++ depsAll c.K [d, r])) [x, .bad]) :=
  h.install (ts := [r]) hk (hv.own fun _ _ ho => ⟨ho.2, .inr ⟨_, ho.1, by simp⟩⟩) (Nat.le_refl _) (fun _ _ _ => rfl) rfl rfl rfl

/-- A new slice. -/
theorem Inv.fresh (h : Inv c B X w0 F0 F O a w δ) {d z lv : Nat} {x : D} {y : Value} {w' : World} (hk : newIn c.K d z lv = true)
    (hv : OwnV w' (FB F B lv) (fun g => w.heap.size ≤ g) z x y) (sz : w.heap.size ≤ w'.heap.size) (hw : ∀ b, b < w.heap.size → w'.heap[b]? = w.heap[b]?)
    (os : w'.os = w.os) (tape : w'.tape = w.tape) (output : w'.output = w.output) :
    ∃ F' O', Inv c B X w0 F0 F' O' (a.put (some d) y) w' (setMany δ ([d] ++ ([] ++ depsAll c.K [d])) [x]) :=
  h.install (ts := []) hk (hv.own fun _ _ ho => ⟨Nat.le_trans h.bb ho, .inl ho⟩) sz (fun b hb _ => hw b hb) os tape output

theorem OwnV_empty {F : Nat → Prop} {own : Nat → Prop} {z : Nat} : OwnV w F own z (.arr z []) (.slice none 0 0) := ⟨[], rfl, by simp, .inl ⟨rfl, rfl⟩⟩

/-- Slots made void. -/
theorem Inv.dead (h : Inv c B X w0 F0 F O a w δ) (d : Nat) (ts : List Nat) (y : Value) :
    Inv c B X w0 F0 F O (a.put (some d) y) w (setMany δ ((d :: ts) ++ ([] ++ depsAll c.K (d :: ts))) (.bad :: ts.map fun _ => .bad)) := by
  refine h.many (by simp) size_put rfl (fun s hs => av_put_ne fun e => hs (by simp [e])) (by simp) (fun s hs => .inl ?_) (fun _ hb => hb) (fun _ _ => rfl) (fun _ _ hp _ => ⟨hp, rfl⟩) h.fl h.ol (fun _ hb => .inl hb) (Nat.le_refl _) rfl rfl rfl (fun _ _ _ => rfl)
  rw [List.append_nil] at hs ⊢
  rcases nth_install (δ := δ) (x := .bad) hs with e | ⟨_, _, e⟩ <;> exact e

/-- An owned slice goes over, as it is. -/
theorem Inv.over (h : Inv c B X w0 F0 F O a w δ) {d r z lv : Nat} (hr : nthK c.K r = .own z lv false) (hk : newIn c.K d z lv = true) :
    ∃ F' O', Inv c B X w0 F0 F' O' (a.put (some d) (av a r)) w (setMany δ ([d, r] ++ ([] ++ depsAll c.K [d, r])) [nth δ r, .bad]) := by
  by_cases hb : nth δ r = .bad
  · rw [hb]
    exact ⟨F, O, h.dead d [r] _⟩
  · exact h.pass hk ((h.own hr hb).own fun _ _ ho => ⟨ho.1, ho.2 rfl⟩)

theorem sameKs_at : ∀ {ms ns : List Kd}, sameKs ms ns = true → ∀ i, nthK ns i = nthK ms i ∧ (nthK ms i = .no ∨ (∃ lv, nthK ms i = .dat lv) ∨ ∃ z lv, nthK ms i = .own z lv false)
  | [], [], _, i => by simp [nthK]
  | m :: ms, n :: ns, h, i => by
    have : n = m ∧ ((∃ lv, m = .dat lv) ∨ ∃ z lv, m = .own z lv false) ∧ sameKs ms ns = true := by
      cases m with
      | dat a =>
        cases n <;> simp only [sameKs] at h <;> try cases h
        split at h
        case h_2 => cases h
        rename_i e
        rw [beq_iff] at e
        subst e
        exact ⟨rfl, .inl ⟨_, rfl⟩, h⟩
      | own z a io =>
        cases io
        case true => cases n <;> simp [sameKs] at h
        cases n with
        | own z' a' io' =>
          cases io'
          case true => simp [sameKs] at h
          simp only [sameKs] at h
          split at h
          case h_2 => cases h
          rename_i e1 e2
          rw [beq_iff] at e1 e2
          subst e1 e2
          exact ⟨rfl, .inr ⟨_, _, rfl⟩, h⟩
        | _ => simp [sameKs] at h
      | _ => cases n <;> simp [sameKs] at h
    obtain ⟨rfl, h1, h2⟩ := this
    cases i with
    | zero => exact ⟨rfl, .inr h1⟩
    | succ i => exact sameKs_at h2 i
  | [], _ :: _, h, _ => by simp [sameKs] at h
  | m :: _, [], h, _ => by cases m <;> first | (simp [sameKs] at h; done) | (rename_i io; cases io <;> simp [sameKs] at h)

/-- A tuple goes over. -/
theorem Inv.overT (h : Inv c B X w0 F0 F O a w δ) {d t : Nat} {ms ns : List Kd} (ht : nthK c.K t = .tup ms) (hd : nthK c.K d = .tup ns) (hs' : sameKs ms ns = true) (hdt : Nat.beq d t = false) :
    ∃ F' O', Inv c B X w0 F0 F' O' (a.put (some d) (av a t)) w (setMany δ ([d, t] ++ ([] ++ depsAll c.K [d, t])) [nth δ t, .bad]) := by
  have hne : d ≠ t := fun e => by subst e; simp at hdt
  refine ⟨F, fun b => match O b with
    | some p => if p.1 = t ∧ p.2 ≠ 0 then some (d, p.2) else some p
    | none => none, h.many rfl size_put rfl (fun s hs => av_put_ne fun e => hs (by simp [e])) (by simp) (fun s hs => ?_) (fun _ hb => hb) (fun _ _ => rfl) (fun b p hp hm => ⟨?_, rfl⟩) (fun b hb => ⟨(h.fl b hb).1, by simp only [(h.fl b hb).2]⟩) (fun b p hp => ?_) (fun _ hb => .inl hb) (Nat.le_refl _) rfl rfl rfl (fun _ _ _ => rfl)⟩
  · rw [List.append_nil] at hs ⊢
    rcases nth_install (δ := δ) (x := nth δ t) (ts := [t]) hs with e | ⟨rfl, hl, e⟩
    · exact .inl e
    · simp only [List.map_cons, List.map_nil] at e
      rw [e]
      by_cases hb : nth δ t = .bad
      · exact .inl hb
      have h0 := (h.slot t).resolve_left hb
      rw [ht] at h0
      obtain ⟨l, vs, h1, h2, h3⟩ := h0
      refine .inr ?_
      rw [hd, av_put_eq (by rw [h.la, ← h.ld]; exact hl)]
      refine ⟨l, vs, h1, h2, fun i => ?_⟩
      rw [(sameKs_at hs' i).1]
      exact Lone_mono (fun _ hb => hb) (fun _ _ => rfl) (fun g hg => ⟨by simp [hg], rfl⟩) (h3 i)
  · have : p.1 ≠ t := fun e => hm (by simp [e])
    simp only [hp, this, false_and, if_false]
  · cases hO : O b with
    | none => simp only [hO] at hp; cases hp
    | some q => exact h.ol b q hO

theorem newIn_own {K : List Kd} {d z z' lv lv' : Nat} (hk : nthK K d = .own z' lv' false) (h1 : Nat.beq z z' = true) (h2 : Nat.ble lv lv' = true) : newIn K d z lv = true := by simp only [newIn, hk, h1, h2]
theorem newIn_dat {K : List Kd} {d z lv lv' : Nat} (hk : nthK K d = .dat lv') (h1 : Nat.ble 1 lv' = true) (h2 : Nat.ble lv lv' = true) : newIn K d z lv = true := by simp only [newIn, hk, h1, h2]

/-! ### copies and changes of owner -/
theorem sound_mv {o : Oper} {x : Operand} (ho : o.op = .move x ∨ o.op = .assign x) {A : Ac} (hA : mvOf c o.dst x o.type = some A) (hI : Inv c B X w0 F0 F O a w δ)
    {k : List D → Option Out} {r : Out} (hg : goAc c A δ k = some r) (Q : Exit → Act → World → Prop) : o.wp P a w (Next c B X w0 F0 k r) Q := by
  have hex : (execOp a.eval o).run P w = .ok (.value (a.eval x)) w := by
    rcases ho with ho | ho <;> simp [execOp, ho]
  have dat : ∀ (lv : Nat) (A : Ac), lv = lvOf c.K x → dataOp c o.dst [x] lv (arg1 some) = some A → goAc c A δ k = some r → o.wp P a w (Next c B X w0 F0 k r) Q := by
    intro lv A hlv hA hg
    refine data_sound hA hI hg (fun hx z hz => ?_) Q
    obtain ⟨d1, e, hz⟩ := arg1_some hz
    simp only [List.map_cons, List.map_nil, List.cons.injEq, and_true] at e
    subst e
    cases hz
    exact ⟨_, hex, by rw [hlv]; exact (hx x (by simp)).2⟩
  have via : ∀ (t rr d : Nat), x = .tmp t → o.dst = some d → nthK c.K d = .via rr → isOwn c.K rr = true → (nth δ t ≠ .bad → nth δ rr ≠ .bad ∧ av a t = av a rr) → (goAc c (.one [t] d fun is => (arg1 fun x => liveD x (.ref 0 0)) is) δ k = some r) → o.wp P a w (Next c B X w0 F0 k r) Q := by
    intro t rr d hx hd hk hown hb hg
    subst hx
    refine one_sound hI hd hg (fun z hz => ?_) Q
    obtain ⟨d1, e, hz⟩ := arg1_some hz
    simp only [getAll, List.cons.injEq, and_true] at e
    subst e
    obtain ⟨h1, rfl⟩ := liveD_some hz
    obtain ⟨h2, h3⟩ := hb h1
    refine ⟨_, hex, .inr ?_⟩
    rw [hk]
    exact ⟨h3, rfl, h2, hown⟩
  have over : ∀ (t rr d z lv : Nat), x = .tmp t → o.dst = some d → av a t = av a rr → nthK c.K rr = .own z lv false → newIn c.K d z lv = true → k (setMany δ ([d, rr] ++ ([] ++ depsAll c.K [d, rr])) [nth δ rr, .bad]) = some r → o.wp P a w (Next c B X w0 F0 k r) Q := by
    intro t rr d z lv hx hd hav hkr hkd hk
    subst hx
    obtain ⟨F', O', hI'⟩ := hI.over hkr hkd
    exact many_skip hd hex (by rw [eval_tmp, hav]; exact hI') hk Q
  have over2 : ∀ (t rr d z lv : Nat), x = .tmp t → o.dst = some d → nthK c.K t = .via rr → nthK c.K rr = .own z lv false → newIn c.K d z lv = true →
      goAc c (.many [t, rr] [d, rr] [] fun is k => nthC is 0 fun p => nthC is 1 fun x => (liveD p x).bind fun y => k [y, .bad]) δ k = some r → o.wp P a w (Next c B X w0 F0 k r) Q := by
    intro t rr d z lv hx hd hkt hkr hkd hg
    simp only [goAc, getAll, nthC] at hg
    obtain ⟨y, h1, h2⟩ := Option.bind_eq_some_iff.1 hg
    obtain ⟨hb, rfl⟩ := liveD_some h1
    exact over t rr d z lv hx hd (hI.via hkt hb).1 hkr hkd h2
  unfold mvOf at hA
  split at hA
  · rename_i t
    split at hA
    · rename_i z lv io hk
      split at hA
      · cases hA
      rename_i d hd
      split at hA
      · rename_i rr hkd
        split at hA
        case h_2 => cases hA
        rename_i hrt
        rw [beq_iff] at hrt
        subst hrt
        cases hA
        exact via rr rr d rfl hd hkd (by simp [isOwn, hk]) (fun hb => ⟨hb, rfl⟩) hg
      · rename_i z' lv' hkd
        split at hA
        case h_2 => cases hA
        rename_i h1 h2
        cases hA
        refine over t t d z lv rfl hd rfl hk (newIn_own hkd h1 h2) ?_
        simpa only [goAc, getAll, nthC] using hg
      · rename_i lv' hkd
        split at hA
        case h_2 => cases hA
        rename_i h1 h2
        cases hA
        refine over t t d z lv rfl hd rfl hk (newIn_dat hkd h1 h2) ?_
        simpa only [goAc, getAll, nthC] using hg
      · cases hA
    · rename_i rr hk
      split at hA
      · cases hA
      rename_i d hd
      split at hA
      case h_2 => cases hA
      rename_i z lv io hkr
      split at hA
      · rename_i r' hkd
        split at hA
        case h_2 => cases hA
        rename_i hrt
        rw [beq_iff] at hrt
        subst hrt
        cases hA
        exact via t rr d rfl hd hkd (by simp [isOwn, hkr]) (fun hb => ⟨(hI.via hk hb).2.2.1, (hI.via hk hb).1⟩) hg
      · rename_i z' lv' hkd
        split at hA
        case h_2 => cases hA
        rename_i h1 h2
        cases hA
        exact over2 t rr d z lv rfl hd hk hkr (newIn_own hkd h1 h2) hg
      · rename_i lv' hkd
        split at hA
        case h_2 => cases hA
        rename_i h1 h2
        cases hA
        exact over2 t rr d z lv rfl hd hk hkr (newIn_dat hkd h1 h2) hg
      · cases hA
    · rename_i n lv io hk
      split at hA
      · cases hA
      rename_i d hd
      split at hA
      case h_2 => cases hA
      rename_i rr hkd
      split at hA
      case h_2 => cases hA
      rename_i hrt
      rw [beq_iff] at hrt
      subst hrt
      cases hA
      refine one_sound hI hd hg (fun z hz => ?_) Q
      obtain ⟨d1, e, hz⟩ := arg1_some hz
      simp only [getAll, List.cons.injEq, and_true] at e
      subst e
      obtain ⟨h1, rfl⟩ := liveD_some hz
      refine ⟨_, hex, .inr ?_⟩
      rw [hkd]
      obtain ⟨m, us, g, e, _, a1, _⟩ := hI.box hk h1
      refine ⟨0, 0, rfl, h1, ?_⟩
      rw [hk]
      exact ⟨g, a1, a1⟩
    · rename_i rr hk
      split at hA
      · cases hA
      rename_i d hd
      split at hA
      case h_2 => cases hA
      rename_i r' hkd
      split at hA
      case h_2 => cases hA
      rename_i hrt
      rw [beq_iff] at hrt
      subst hrt
      cases hA
      refine one_sound hI hd hg (fun z hz => ?_) Q
      obtain ⟨d1, e, hz⟩ := arg1_some hz
      simp only [getAll, List.cons.injEq, and_true] at e
      subst e
      obtain ⟨h1, rfl⟩ := liveD_some hz
      refine ⟨_, hex, .inr ?_⟩
      rw [hkd]
      exact hI.ref hk h1
    · rename_i lv hk
      exact dat lv _ (by simp [lvOf, hk]) hA hg
    · rename_i ms hk
      split at hA
      · cases hA
      rename_i d hd
      split at hA
      case h_2 => cases hA
      rename_i ns hkd
      split at hA
      case h_2 => cases hA
      rename_i h1 h2
      cases hA
      obtain ⟨F', O', hI'⟩ := hI.overT hk hkd h1 h2
      refine many_skip hd hex (by rw [eval_tmp]; exact hI') ?_ Q
      simpa only [goAc, getAll, nthC] using hg
    · cases hA
  · split at hA
    · cases hA
    rename_i d hd
    split at hA
    · rename_i z lv hk
      cases hA
      simp only [goAc] at hg
      obtain ⟨F', O', hI'⟩ := hI.fresh (d := d) (z := z) (lv := lv) (w' := w) (by simp [newIn, hk]) OwnV_empty (Nat.le_refl _) (fun _ _ => rfl) rfl rfl rfl
      exact many_skip hd hex hI' hg Q
    · have hA0 := withT_some hA
      clear hA
      obtain ⟨i, hi, hA⟩ := hA0
      refine data_sound hA hI hg (fun hx z hz => ?_) Q
      cases hz
      refine ⟨_, hex, .inr ?_⟩
      simp only [Act.eval, RepV]
      exact RepC_nil
    · cases hA
  · exact dat _ _ rfl hA hg

end
end Go.V
