/-
  Appends, parts of owned slices, parts of tuples: they keep the invariant.
-/
import Derived.Test.YtfjkapnonljdeaaDoorVo
namespace Go.V
open Go.RowKit

section
variable {P : Program} {c : Cx} {B : Nat} {X : Nat → Prop} {w0 : World} {F0 F : Nat → Prop} {O : Nat → Option (Nat × Nat)} {a : Act} {w : World} {δ : List D}

theorem getAll_append : ∀ (x y : List Nat), getAll δ (x ++ y) = getAll δ x ++ getAll δ y
  | [], _ => rfl
  | s :: x, y => by simp [getAll, getAll_append x y]
theorem getAll_len : ∀ (x : List Nat), (getAll δ x).length = x.length
  | [] => rfl
  | _ :: x => by simp [getAll, getAll_len x]

/-- What a slice reads as. -/
def SrcR (w : World) (G : Nat → Prop) (d : D) (y : Value) : Prop :=
  ∀ z l, d = .arr z l → ∃ A cc us, y = .slice A l.length cc ∧ RepL w G l us ∧ (∀ e ∈ l, e.width = z) ∧ (l ≠ [] → ∃ b o, A = some ⟨b, o, none⟩ ∧ CellsAt w b o us)

theorem SrcR_dat {G : Nat → Prop} {d : D} {y : Value} (h : RepB w G d y) : SrcR w G d y := by
  intro z l e
  subst e
  obtain ⟨A, cc, us, h1, _, h3, h4, h5⟩ := RepV_arr (h.rep (by simp))
  exact ⟨A, cc, us, h1, h3, h4, fun hne => by
    obtain ⟨b, o, e, _, hc⟩ := h5 hne
    exact ⟨b, o, e, hc⟩⟩
theorem SrcR_own {G own : Nat → Prop} {z : Nat} {d : D} {y : Value} (h : OwnV w G own z d y) : SrcR w G d y := by
  intro z' l e
  subst e
  obtain ⟨l', e, h2, h3⟩ := h
  cases e
  rcases h3 with ⟨rfl, rfl⟩ | ⟨g, o, cc, us, cs, e, rfl, a2, a3, a4, a5, a6, a7⟩
  · exact ⟨none, 0, [], rfl, RepL_nil.2 rfl, h2, fun h => absurd rfl h⟩
  · exact ⟨_, cc, us, rfl, a5, h2, fun _ => ⟨g, o, rfl, cells_at a3 a6⟩⟩

theorem src_ok (hI : Inv c B X w0 F0 F O a w δ) {x : Operand} {rd more : List Nat} {lv : Nat} {q : Option Nat} (h : srcOf c.K x = some (rd, lv, q)) {kk : D → Option Out} {rr : Out} (hk : srcVal rd (getAll δ (app rd more)) kk = some rr) :
    ∃ dx, kk dx = some rr ∧ dropN (lenN rd) (getAll δ (app rd more)) = getAll δ more ∧ SrcR w (FB F B lv) dx (a.eval x) ∧
      ((q = none ∧ (rd = [] → x = .const (.slice none 0 0) ∧ dx = .arr 0 [])) ∨ ∃ r z io, q = some r ∧ rd ≠ [] ∧ dx = nth δ r ∧ a.eval x = av a r ∧ nthK c.K r = .own z lv io) := by
  rw [app_eq] at hk ⊢
  have hdrop : dropN (lenN rd) (getAll δ (rd ++ more)) = getAll δ more := by
    rw [dropN_eq, lenN_eq, getAll_append, ← getAll_len (δ := δ) rd, List.drop_left]
  unfold srcOf at h
  split at h
  · rename_i t
    split at h
    · rename_i l hkt
      simp at h
      obtain ⟨rfl, rfl, rfl⟩ := h
      simp only [srcVal, getAll, List.singleton_append] at hk
      exact ⟨_, hk, hdrop, SrcR_dat (hI.dat hkt), .inl ⟨rfl, fun e => by cases e⟩⟩
    · rename_i z l io hkt
      simp at h
      obtain ⟨rfl, rfl, rfl⟩ := h
      simp only [srcVal, getAll, List.singleton_append] at hk
      refine ⟨_, hk, hdrop, ?_, .inr ⟨t, z, io, rfl, by simp, rfl, rfl, hkt⟩⟩
      by_cases hb : nth δ t = .bad
      · intro z' l' e
        rw [hb] at e; cases e
      · exact SrcR_own (hI.own hkt hb)
    · rename_i s hkt
      split at h
      case h_2 => cases h
      rename_i z l io hks
      simp at h
      obtain ⟨rfl, rfl, rfl⟩ := h
      simp only [srcVal, nthC_eq, getAll, List.cons_append, List.nil_append, nth] at hk
      obtain ⟨y, h1, h2⟩ := Option.bind_eq_some_iff.1 hk
      obtain ⟨hb, rfl⟩ := liveD_some h1
      obtain ⟨g1, g2, g3, g4⟩ := hI.via hkt hb
      refine ⟨_, h2, hdrop, ?_, .inr ⟨s, z, io, rfl, by simp, rfl, g1, hks⟩⟩
      rw [eval_tmp, g1]
      exact SrcR_own (hI.own hks g3)
    · cases h
  · simp at h
    obtain ⟨rfl, rfl, rfl⟩ := h
    simp only [srcVal] at hk
    refine ⟨_, hk, hdrop, ?_, .inl ⟨rfl, fun _ => ⟨rfl, rfl⟩⟩⟩
    intro z l e
    cases e
    exact ⟨none, 0, [], rfl, RepL_nil.2 rfl, by simp, fun h => absurd rfl h⟩
  · cases h

theorem RepL_isVs {w w' : World} {G G' : Nat → Prop} : ∀ (l : List D) (us : List Value), l.all D.isV = true → RepL w G l us → RepL w' G' l us
  | [], us, _, h => by rw [RepL_nil] at h ⊢; exact h
  | d :: l, us, hv, h => by
    obtain ⟨v1, v2, rfl, h1, h2⟩ := RepL_cons.1 h
    simp only [List.all_cons, Bool.and_eq_true] at hv
    refine RepL_cons.2 ⟨v1, v2, rfl, ?_, RepL_isVs l v2 hv.2 h2⟩
    cases d with
    | v x => simpa only [RepC] using h1
    | agg m =>
      simp only [RepC] at h1 ⊢
      exact ⟨RepL_isV m v1 hv.1 h1.1, h1.2⟩
    | _ => simp [D.isV] at hv

theorem append_room_run {t ty e : Nat} {i : TypeInfo} (ht : P.underlying t = some (.slice e)) (hi : P.info? e = some i) {g o et sLen sCap m cx : Nat} {cur : Array Value} (hg : w.heap[g]? = some (.cells cur et (0, 0))) {A : Option Addr} {news : List Value}
    (hx : (Builtin.firstCells i.size m (.slice A m cx)).run P w = .ok news.toArray w) (h1 : ∀ u ∈ news, u.oneCell' = true) (hroom : sLen + m ≤ sCap) (hfit : o + sLen * i.size + news.length ≤ cur.size) :
    (Builtin.append_ #[t, t] ty #[.slice (some ⟨g, o, none⟩) sLen sCap, .slice A m cx]).run P w =
      .ok (.slice (some ⟨g, o, none⟩) (sLen + m) sCap) (w.setRow g (cur.toList.take (o + sLen * i.size) ++ news ++ cur.toList.drop (o + sLen * i.size + news.length)).toArray) := by
  have hst := run_storeCells_at P g (o + sLen * i.size) et news 0 cur w hg (by simpa using hfit) h1
  simp only [Nat.add_zero] at hst
  simp [Builtin.append_, run_underlying ht, sizeOf, typeInfo, hi, Builtin.lenOf, hroom, hx, Addr.add_lit, hst]

theorem first_run {G : Nat → Prop} {z m cx : Nat} {l : List D} {us : List Value} {A : Option Addr} (hl : l.length = m) (hr : RepL w G l us) (hw : ∀ e ∈ l, e.width = z) (hc : l ≠ [] → ∃ b o, A = some ⟨b, o, none⟩ ∧ CellsAt w b o us) :
    (Builtin.firstCells z m (.slice A m cx)).run P w = .ok us.toArray w := by
  have hul := RepL_length l us hr hw
  cases A with
  | none =>
    have : l = [] := by
      by_cases h : l = []
      · exact h
      · obtain ⟨b, o, e, _⟩ := hc h
        cases e
    subst this
    rw [RepL_nil] at hr
    subst hr
    exact run_firstCells_none w z m m cx
  | some ad =>
    refine run_firstCells_some w z m ad m cx us (by rw [hul, hl]) (fun j v hj => ?_)
    obtain ⟨b, o, e, hcell⟩ := hc (by
      intro e
      subst e
      rw [RepL_nil] at hr
      subst hr
      simp at hj)
    cases e
    rw [Addr.add_lit]
    exact hcell j v hj

theorem RepL_one {G : Nat → Prop} : ∀ (l : List D) (us : List Value), RepL w G l us → ∀ u ∈ us, u.oneCell' = true
  | [], us, h => by rw [RepL_nil] at h; subst h; simp
  | d :: l, us, h => by
    obtain ⟨v1, v2, rfl, h1, h2⟩ := RepL_cons.1 h
    intro u hu
    rcases List.mem_append.1 hu with hu | hu
    · rcases RepC_kind h1 with ⟨m, rfl⟩ | hs
      · simp only [RepC] at h1
        exact ((RepL_single _ _ h1.2 h1.1).2.1 u hu).1
      · obtain ⟨y, rfl, _, hy⟩ := RepC_len _ _ hs h1
        simp at hu
        subst hu
        exact hy
    · exact RepL_one l v2 h2 u hu

theorem cells_app {us ws cs : List Value} {o k : Nat} (hu : us.length = k) (h : ∀ (j : Nat) (u : Value), us[j]? = some u → cs[o + j]? = some u) (hc : o + k + ws.length ≤ cs.length) :
    ∀ (j : Nat) (u : Value), (us ++ ws)[j]? = some u → (cs.take (o + k) ++ ws ++ cs.drop (o + k + ws.length))[o + j]? = some u := by
  intro j u hj
  have l1 : (cs.take (o + k)).length = o + k := by rw [List.length_take]; omega
  rcases Nat.lt_or_ge j us.length with hju | hju
  · rw [List.getElem?_append_left hju] at hj
    rw [List.append_assoc, List.getElem?_append_left (by omega), List.getElem?_take_of_lt (by omega)]
    exact h j u hj
  · rw [List.getElem?_append_right hju] at hj
    have hjw := (List.getElem?_eq_some_iff.1 hj).1
    rw [List.append_assoc, List.getElem?_append_right (by omega), l1, List.getElem?_append_left (by omega)]
    rw [← hj]
    congr 1
    omega

/-- An append: to what is owned, or to nil. -/
theorem append_run {t ty : Nat} {i e : TI} (hi : TOk P t i) (hsl : isSl i = true) (he : TOk P i.elem e) {G own : Nat → Prop} (hG : ∀ b, G b → b < w.heap.size ∧ ¬ own b) {l m : List D} {ys yx : Value} (hs : OwnV w G own i.ez (.arr i.ez l) ys) (hx : SrcR w G (.arr i.ez m) yx)
    (hb : (l.length + m.length) * i.eb ≤ 140737488355328) (hb2 : l.length + m.length ≤ 1152921504606846976) :
    ∃ v w', (Builtin.append_ #[t, t] ty #[ys, yx]).run P w = .ok v w' ∧ OwnV w' G (fun g => own g ∨ w.heap.size ≤ g) i.ez (.arr i.ez (l ++ m)) v ∧ w.heap.size ≤ w'.heap.size ∧ (∀ b, b < w.heap.size → ¬ own b → w'.heap[b]? = w.heap[b]?) ∧
      w'.os = w.os ∧ w'.tape = w.tape ∧ w'.output = w.output := by
  obtain ⟨hu, _, hez, heb, y, hy, hys, hyb⟩ := isSl_ok hi hsl
  obtain ⟨y', zv, q1, q2, q3, q4, q5⟩ := he.info
  rw [hy] at q1
  cases q1
  have hzs : zv.cells.size = i.ez := by
    obtain ⟨z', hz1, _, _, hz4⟩ := he.zero
    have h1 := hz1 w
    simp [zeroValue, typeInfo, hy, q3] at h1
    subst h1
    rw [hz4, he.zl, ← q2, hys]
  obtain ⟨A, cx, ws, hyx, hm, hmw, hmc⟩ := hx _ _ rfl
  subst hyx
  have hwl := RepL_length m ws hm hmw
  obtain ⟨l', el, hlw, hrest⟩ := hs
  cases el
  have grow : ∀ (us : List Value) (old cap' : Nat), us.length = l.length * i.ez → RepL w G l us → OwnV (w.drew.alloc (.cells (us.toArray ++ ws.toArray ++ Builtin.zeroCells zv.cells (grownCap w (l.length + m.length) old i.elem - (l.length + m.length))) i.elem)) G (fun g => own g ∨ w.heap.size ≤ g) i.ez (.arr i.ez (l ++ m)) (.slice (some ⟨w.heap.size, 0, none⟩) (l.length + m.length) (grownCap w (l.length + m.length) old i.elem)) := by
    intro us old _ hul hr
    have hge := grownCap_ge w (l.length + m.length) old i.elem
    have := OwnV_new (w := w.drew) (F := G) (z := i.ez) (n := l.length + m.length) (cap := grownCap w (l.length + m.length) old i.elem) (t := i.elem) (l := l ++ m) (us := us ++ ws) (cs := us.toArray ++ ws.toArray ++ Builtin.zeroCells zv.cells (grownCap w (l.length + m.length) old i.elem - (l.length + m.length)))
      ((RepL_append _ _ _).2 ⟨_, _, rfl, RepL_mono (w := w) (w' := w.drew) (fun _ h => h) (fun _ _ => rfl) _ _ hr, RepL_mono (w := w) (w' := w.drew) (fun _ h => h) (fun _ _ => rfl) _ _ hm⟩) (fun d hd => (List.mem_append.1 hd).elim (hlw d) (hmw d)) (by simp) hge (by
        simp only [Array.size_append, List.size_toArray, size_zeroCells, hzs, hul, hwl, ← Nat.add_mul]
        exact Nat.mul_le_mul_right _ (by omega)) (fun j u hj => by
        rw [Array.getElem?_append_left]
        · simpa using hj
        · simp only [Array.size_append, List.size_toArray]
          have := (List.getElem?_eq_some_iff.1 hj).1
          simpa using this) (fun b hb => (hG b hb).1)
    exact this.own fun _ _ h => .inr h
  have hfirst := first_run (P := P) (w := w) (m := m.length) (cx := cx) rfl hm hmw hmc
  have hb' : (l.length + m.length) * y.bytes ≤ 140737488355328 := by rw [hyb]; exact hb
  rcases hrest with ⟨rfl, rfl⟩ | ⟨g, o, cc, us, cs, et, rfl, a2, a3, a4, a5, a6, a7⟩
  · by_cases hm0 : m = []
    · subst hm0
      refine ⟨.slice none 0 0, w, ?_, ⟨[], rfl, by simp, .inl ⟨rfl, rfl⟩⟩, Nat.le_refl _, fun _ _ _ => rfl, rfl, rfl, rfl⟩
      have hws : ws = [] := RepL_nil.1 hm
      subst hws
      simp only [List.length_nil] at hfirst
      rw [← hys] at hfirst
      simp [Builtin.append_, run_underlying hu, sizeOf, typeInfo, hy, Builtin.lenOf, hfirst]
    · obtain ⟨b, o, rfl, hcell⟩ := hmc hm0
      have hmp : 0 < m.length := List.length_pos_iff.2 hm0
      simp only [List.length_nil, Nat.zero_add] at hb' hb2
      have hr := run_append_nil (P := P) w t ty i.elem y zv hu hy q3 ⟨b, o, none⟩ m.length cx ws (by rw [hwl, hys]) (fun j v hj => by rw [Addr.add_lit]; exact hcell j v hj) hmp (by omega) (by omega)
      have hg := grow [] 0 0 (by simp) (RepL_nil.2 rfl)
      simp only [List.length_nil, Nat.zero_add, List.nil_append, Array.empty_append] at hg
      exact ⟨_, _, hr, hg, by simp, fun b hb _ => heap_alloc_old w.drew _ hb, rfl, rfl, rfl⟩
  · have hul := RepL_length l us a5 hlw
    by_cases hroom : l.length + m.length ≤ cc
    · have hlen : (l.length + m.length) * i.ez ≤ cc * i.ez := Nat.mul_le_mul_right _ hroom
      rw [Nat.add_mul] at hlen
      have hr := append_room_run (P := P) (ty := ty) (o := o) hu hy a3 (A := A) (news := ws) (sLen := l.length) (sCap := cc) (by rw [hys]; exact hfirst) (RepL_one _ _ hm) hroom (by rw [hys, hwl]; omega)
      have hFg : ∀ b, G b → b ≠ g := fun b hb e => (hG b hb).2 (e ▸ a7)
      refine ⟨_, _, hr, ?_, by rw [setRow_size]; exact Nat.le_refl _, fun b _ hb => setRow_other w g b _ fun e => hb (e ▸ a7), rfl, rfl, rfl⟩
      refine ⟨l ++ m, rfl, fun d hd => (List.mem_append.1 hd).elim (hlw d) (hmw d), .inr ⟨g, o, cc, us ++ ws, _, et, by rw [List.length_append], by rw [List.length_append]; exact hroom, setRow_heap w g cs _ et (0, 0) a3, ?_, ?_, ?_, .inl a7⟩⟩
      · simp only [List.size_toArray, List.length_append, List.length_take, List.length_drop, Array.length_toList, hys, hwl]
        omega
      · exact (RepL_append _ _ _).2 ⟨_, _, rfl, RepL_mono (fun _ h => h) (fun b hb => setRow_other w g b _ (hFg b hb)) _ _ a5, RepL_mono (fun _ h => h) (fun b hb => setRow_other w g b _ (hFg b hb)) _ _ hm⟩
      · intro j u hj
        rw [hys]
        simp only [List.getElem?_toArray]
        exact cells_app (o := o) (ws := ws) (cs := cs.toList) (k := l.length * i.ez) hul (fun j u hj => by simpa using a6 j u hj) (by
          rw [hwl]
          have e : cs.toList.length = cs.size := Array.length_toList
          rw [e]
          clear hb hb' hfirst hmc
          omega) j u hj
    · have hm0 : m ≠ [] := fun e => hroom (by subst e; simpa using a2)
      obtain ⟨b, o', rfl, hcell⟩ := hmc hm0
      have hr := run_append_grow (P := P) w t ty i.elem y zv hu hy q3 ⟨g, o, none⟩ l.length cc us (by rw [hul, hys]) (fun j v hj => by rw [Addr.add_lit]; exact cells_at a3 a6 j v hj) ⟨b, o', none⟩ m.length cx ws (by rw [hwl, hys]) (fun j v hj => by rw [Addr.add_lit]; exact hcell j v hj) (by omega) (by omega) (growslice_fits (by omega) hb')
      exact ⟨_, _, hr, grow us cc 0 hul a5, by simp, fun b hb _ => heap_alloc_old w.drew _ hb, rfl, rfl, rfl⟩

theorem sound_append (hT : okT P c.T = true) {o : Oper} {s x : Operand} {t : Nat} {q : Call} (ho : o.op = .call q) (hcl : q.callee = .builtin .append) (hargs : q.args.toList = [s, x]) (hty : q.argTypes.toList = [t, t]) {i e : TI} (hi : look c.T t = some i) (he : look c.T i.elem = some e) (hsl : isSl i = true)
    {A : Ac} (hA : apOf c o.dst i s x = some A) (hI : Inv c B X w0 F0 F O a w δ) {k : List D → Option Out} {r : Out} (hg : goAc c A δ k = some r) (Q : Exit → Act → World → Prop) : o.wp P a w (Next c B X w0 F0 k r) Q := by
  have hti := tok hT hi
  have hte := tok hT he
  have e1 : q.args = #[s, x] := by rw [← Array.toArray_toList (xs := q.args), hargs]
  have e2 : q.argTypes = #[t, t] := by rw [← Array.toArray_toList (xs := q.argTypes), hty]
  have hex : ∀ v w', (Builtin.append_ #[t, t] o.type #[a.eval s, a.eval x]).run P w = .ok v w' → (execOp a.eval o).run P w = .ok (.value v) w' := by
    intro v w' h
    simp [execOp, ho, resolve, hcl, invoke, builtin, e1, e2, h]
  have appD_some : ∀ {a b y : D}, appD i.ez i.eb a b = some y → ∃ l m, (∃ z, a = .arr z l ∧ (z = i.ez ∨ l = [])) ∧ (∃ z, b = .arr z m ∧ (z = i.ez ∨ m = [])) ∧ y = .arr i.ez (l ++ m) ∧ (l.length + m.length) * i.eb ≤ 140737488355328 ∧ l.length + m.length ≤ 1152921504606846976 := by
    intro a b y h
    unfold appD at h
    split at h
    · split at h
      · rename_i hc
        cases h
        exact ⟨_, _, ⟨_, rfl, hc.1⟩, ⟨_, rfl, hc.2.1⟩, rfl, hc.2.2.1, hc.2.2.2⟩
      · cases h
    · cases h
  have srcz : ∀ {G : Nat → Prop} {z : Nat} {m : List D} {y : Value}, (z = i.ez ∨ m = []) → SrcR w G (.arr z m) y → SrcR w G (.arr i.ez m) y := by
    intro G z m y hz h
    rcases hz with rfl | rfl
    · exact h
    · intro z' l e
      cases e
      obtain ⟨A, cc, us, h1, h2, _, _⟩ := h _ _ rfl
      exact ⟨A, cc, us, h1, h2, by simp, fun h => absurd rfl h⟩
  have srcle : ∀ {lv lv' : Nat} {d : D} {y : Value}, lv ≤ lv' → SrcR w (FB F B lv) d y → SrcR w (FB F B lv') d y := by
    intro lv lv' d y hle h z l e
    obtain ⟨A, cc, us, h1, h2, h3, h4⟩ := h z l e
    exact ⟨A, cc, us, h1, RepL_mono (FB_le hle) (fun _ _ => rfl) _ _ h2, h3, h4⟩
  have main : ∀ (d : Nat) (rs rx : List Nat) (ls lx : Nat) (os ox : Option Nat) (chk : Bool) (A : Ac), o.dst = some d → srcOf c.K s = some (rs, ls, os) → srcOf c.K x = some (rx, lx, ox) → newIn c.K d i.ez (max ls (if chk then 0 else lx)) = true → apTo c d i chk rs rx os = some A → goAc c A δ k = some r → o.wp P a w (Next c B X w0 F0 k r) Q := by
    intro d rs rx ls lx os ox chk A hd hs hx hnew hA hg
    have chkK_some : ∀ {db : D} {kk : D → Option Out}, SrcR w (FB F B lx) db (a.eval x) → chkK chk db kk = some r → SrcR w (FB F B (if chk then 0 else lx)) db (a.eval x) ∧ kk db = some r := by
      intro db kk h hk
      cases chk
      · exact ⟨h, hk⟩
      · simp only [chkK] at hk
        obtain ⟨y, h1, h2⟩ := Option.bind_eq_some_iff.1 hk
        unfold chkA at h1
        split at h1
        case h_2 => cases h1
        split at h1
        case isFalse => cases h1
        rename_i z l hv
        cases h1
        refine ⟨?_, h2⟩
        intro z' l' e
        cases e
        obtain ⟨A, cc, us, g1, g2, g3, g4⟩ := h _ _ rfl
        exact ⟨A, cc, us, g1, RepL_isVs _ _ hv g2, g3, g4⟩
    unfold apTo at hA
    split at hA
    · rename_i ra
      split at hA
      case h_2 => cases hA
      rename_i hgv hze
      rw [beq_iff] at hze
      cases hA
      simp only [goAc] at hg
      obtain ⟨da, hg, hdr, hsa, hqa⟩ := src_ok hI hs hg
      rw [hdr] at hg
      have hg' : srcVal rx (getAll δ (app rx [])) (fun b => chkK chk b fun b => (appD i.ez i.eb da b).bind fun y => k (setMany δ ([d, ra] ++ ([] ++ depsAll c.K [d, ra])) [y, D.bad])) = some r := by rw [app_eq, List.append_nil]; exact hg
      obtain ⟨db, hg, _, hsb, _⟩ := src_ok hI hx hg'
      obtain ⟨hsb, hg⟩ := chkK_some hsb hg
      obtain ⟨y, hy, hk⟩ := Option.bind_eq_some_iff.1 hg
      obtain ⟨l, m, ⟨z1, rfl, hz1⟩, ⟨z2, rfl, hz2⟩, rfl, b1, b2⟩ := appD_some hy
      rcases hqa with ⟨h, _⟩ | ⟨r', z, io, h, _, hda, hav, hkr⟩
      · cases h
      cases h
      have hb : nth δ ra ≠ .bad := by rw [← hda]; simp
      obtain ⟨z', lv', hkr'⟩ := mayGive_some hgv
      rw [hkr] at hkr'
      simp only [Kd.own.injEq] at hkr'
      obtain ⟨rfl, rfl, rfl⟩ := hkr'
      have hown := hI.own hkr hb
      rw [← hda] at hown
      simp only [ownZ, hkr] at hze
      subst hze
      have hz : OwnV w (FB F B (max ls (if chk then 0 else lx))) (fun g => O g = some (ra, 0) ∧ B ≤ g) i.ez (.arr i.ez l) (av a ra) := by
        obtain ⟨l', el, h2, h3⟩ := hown
        cases el
        rcases h3 with ⟨h3, rfl⟩ | ⟨g, o', cc, us, cs, et, h3, a2, a3, a4, a5, a6, a7⟩
        · exact ⟨[], rfl, by simp, .inl ⟨h3, rfl⟩⟩
        · exact ⟨l, rfl, h2, .inr ⟨g, o', cc, us, cs, et, h3, a2, a3, a4, RepL_mono (FB_le (Nat.le_max_left _ _)) (fun _ _ => rfl) _ _ a5, a6, a7.1, a7.2 rfl⟩⟩
      obtain ⟨v, w', h1, h2, h3, h4, h5, h6, h7⟩ := append_run (P := P) (ty := o.type) hti hsl hte (fun b hb => ⟨(hI.fl b (FB_sub b hb)).1, fun h => by have := (hI.fl b (FB_sub b hb)).2; rw [h.1] at this; cases this⟩) hz (srcz hz2 (srcle (Nat.le_max_right ls _) hsb)) b1 b2
      obtain ⟨F', O', hI'⟩ := hI.install (ts := [ra]) (d := d) hnew (h2.own fun b _ hb => by
        rcases hb with hb | hb
        · exact ⟨hb.2, .inr ⟨_, hb.1, by simp⟩⟩
        · exact ⟨Nat.le_trans hI.bb hb, .inl hb⟩) h3 (fun b hb hp => h4 b hb fun hown => hp _ hown.1 (by simp)) h5 h6 h7
      exact many_skip hd (hex v w' (by rw [hav]; exact h1)) hI' hk Q
    · split at hA
      case h_2 => cases hA
      rename_i _ _ _
      cases hA
      simp only [goAc] at hg
      have hg' : srcVal rx (getAll δ (app rx [])) (fun b => chkK chk b fun b => (appD i.ez i.eb (.arr 0 []) b).bind fun y => k (setMany δ ([d] ++ ([] ++ depsAll c.K [d])) [y])) = some r := by rw [app_eq, List.append_nil]; exact hg
      obtain ⟨db, hg, _, hsb, _⟩ := src_ok hI hx hg'
      obtain ⟨hsb, hg⟩ := chkK_some hsb hg
      obtain ⟨y, hy, hk⟩ := Option.bind_eq_some_iff.1 hg
      obtain ⟨l, m, ⟨z1, e1', hz1⟩, ⟨z2, rfl, hz2⟩, rfl, b1, b2⟩ := appD_some hy
      cases e1'
      have hsv : a.eval s = .slice none 0 0 := by
        unfold srcOf at hs
        split at hs
        · split at hs <;> first | (simp at hs; done) | (split at hs <;> simp at hs)
        · rfl
        · cases hs
      obtain ⟨v, w', h1, h2, h3, h4, h5, h6, h7⟩ := append_run (P := P) (ty := o.type) (G := FB F B (max ls (if chk then 0 else lx))) (own := fun _ => False) hti hsl hte (fun b hb => ⟨(hI.fl b (FB_sub b hb)).1, id⟩) OwnV_empty (srcz hz2 (srcle (Nat.le_max_right ls _) hsb)) b1 b2
      obtain ⟨F', O', hI'⟩ := hI.fresh (d := d) hnew (h2.own fun b _ hb => hb.resolve_left id) h3 (fun b hb => h4 b hb id) h5 h6 h7
      exact many_skip hd (hex v w' (by rw [hsv]; exact h1)) hI' hk Q

  unfold apOf at hA
  split at hA
  case h_2 => cases hA
  rename_i d rs ls os rx lx ox hd hs hx
  split at hA
  · rename_i h1 h2
    rw [maxN_eq] at h2
    exact main d rs rx ls lx os ox false A hd hs hx h2 hA hg
  · rename_i h1 h2 h3
    exact main d rs rx ls lx os ox true A hd hs hx (by simpa using h3) hA hg
  · cases hA

end
end Go.V
