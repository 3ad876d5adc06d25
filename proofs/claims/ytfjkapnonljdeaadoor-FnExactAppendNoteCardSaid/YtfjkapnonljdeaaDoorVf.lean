/-
  What the operations on data do when they are run.
-/
import Derived.Test.YtfjkapnonljdeaaDoorVe
namespace Go.V
open Go.RowKit

def RepB (w : World) (F : Nat → Prop) (d : D) (y : Value) : Prop := d = .bad ∨ RepV w F d y

section
variable {P : Program} {w : World} {F G : Nat → Prop}

theorem RepB.rep {d : D} {y : Value} (h : RepB w F d y) (hd : d ≠ .bad) : RepV w F d y := h.resolve_left hd
theorem RepB_v {x y : Value} (h : RepB w F (.v x) y) : y = x ∧ flat x = true := RepV_v.1 (h.rep (by simp))
theorem RepV_scalar {x : Value} (hx : flat x = true) : RepV w F (.v x) x := RepV_v.2 ⟨rfl, hx⟩

theorem allEq_run : ∀ (fs : List Field) (n : Nat) (c : List Nat) (l m : List D) (us vs xs ys : List Value) (q : Bool), eqOk P n fs c = true → allEq c l m = some q → xs.length = n → ys.length = n → RepL w F l us → RepL w G m vs →
    (Op.eqFields 9999 (xs ++ us).toArray (ys ++ vs).toArray fs).run P w = .ok q w
  | [], n, [], l, m, us, vs, xs, ys, q, _, he, _, _, _, _ => by
    cases l <;> cases m <;> simp [allEq] at he
    subst he
    simp [Op.eqFields]
  | f :: fs, n, c :: cs, l, m, us, vs, xs, ys, q, hk, he, hx, hy, hu, hv => by
    simp only [eqOk, Bool.and_eq_true, bne_iff_ne, ne_eq, beq_iff_eq] at hk
    obtain ⟨⟨⟨h1, h2⟩, h3⟩, h4⟩ := hk
    have fin : ∀ (a b : Value) (l' m' : List D) (us' vs' : List Value) (r : Bool), us = a :: us' → vs = b :: vs' → RepL w F l' us' → RepL w G m' vs' → (allEq cs l' m').map (r && ·) = some q →
        (isAgg f.type).run P w = .ok false w → (Op.equalIn 9999 f.type a b).run P w = .ok r w → (Op.eqFields 9999 (xs ++ us).toArray (ys ++ vs).toArray (f :: fs)).run P w = .ok q w := by
      intro a b l' m' us' vs' r e1 e2 g1 g2 g4 p0 p3
      subst e1 e2
      have p1 : (part f.type (xs ++ a :: us').toArray f.offset).run P w = .ok a w := by simp [part, p0, h2, hx]
      have p2 : (part f.type (ys ++ b :: vs').toArray f.offset).run P w = .ok b w := by simp [part, p0, h2, hy]
      obtain ⟨q', g3, g5⟩ := Option.map_eq_some_iff.1 g4
      simp only [Op.eqFields, h1, not_false_eq_true, if_true, ne_eq, Sem.run_bind, p1, p2, p3, Result.andThen_ok, Sem.run_ite]
      cases r
      · simp at g5; simp [g5]
      · simp only [Bool.not_true, Bool.false_eq_true, if_false, Bool.true_and] at g5 ⊢
        subst g5
        have ih := allEq_run fs (n + 1) cs l' m' us' vs' (xs ++ [a]) (ys ++ [b]) q' h4 g3 (by simp [hx]) (by simp [hy]) g1 g2
        simpa using ih
    unfold allEq at he
    split at he
    · cases ‹_ :: _ = []›
    · rename_i c' k a l' k' b m' _
      split at he
      · rename_i hkk
        subst hkk
        obtain ⟨v1, v2, rfl, r1, r2⟩ := RepL_cons.1 hu
        obtain ⟨u1, u2, rfl, s1, s2⟩ := RepL_cons.1 hv
        simp only [RepC] at r1 s1
        obtain ⟨rfl, _⟩ := r1
        obtain ⟨rfl, _⟩ := s1
        cases ‹c :: cs = _›
        unfold scOk at h3
        split at h3 <;> simp at h3
        rename_i kk hu
        exact fin _ _ _ _ _ _ _ rfl rfl r2 s2 he (by simp [isAgg, run_underlying hu]) (run_equalIn_int w _ _ _ _ _ _ hu)
      · cases he
    · rename_i c' a l' b m' _
      obtain ⟨v1, v2, rfl, r1, r2⟩ := RepL_cons.1 hu
      obtain ⟨u1, u2, rfl, s1, s2⟩ := RepL_cons.1 hv
      simp only [RepC] at r1 s1
      obtain ⟨rfl, _⟩ := r1
      obtain ⟨rfl, _⟩ := s1
      cases ‹c :: cs = _›
      unfold scOk at h3
      split at h3 <;> simp at h3
      rename_i hu
      exact fin _ _ _ _ _ _ _ rfl rfl r2 s2 he (by simp [isAgg, run_underlying hu]) (run_equalIn_bool' w _ _ _ _ hu)
    · rename_i c' a l' b m' _
      obtain ⟨v1, v2, rfl, r1, r2⟩ := RepL_cons.1 hu
      obtain ⟨u1, u2, rfl, s1, s2⟩ := RepL_cons.1 hv
      simp only [RepC] at r1 s1
      obtain ⟨rfl, _⟩ := r1
      obtain ⟨rfl, _⟩ := s1
      cases ‹c :: cs = _›
      unfold scOk at h3
      split at h3 <;> simp at h3
      rename_i hu
      exact fin _ _ _ _ _ _ _ rfl rfl r2 s2 he (by simp [isAgg, run_underlying hu]) (run_equalIn_string w _ _ _ _ hu)
    · cases he
  | [], n, _ :: _, _, _, _, _, _, _, _, hk, _, _, _, _, _ => by simp [eqOk] at hk
  | _ :: _, n, [], _, _, _, _, _, _, _, hk, _, _, _, _, _ => by simp [eqOk] at hk

theorem bin_int {op : BinOp} {t : Nat} {k : IntKind} {a b : Int} {z : D} (h : intBin op k a b = some z) : ∃ v, (binOp op t (.int k a) (.int k b)).run P w = .ok v w ∧ z = .v v ∧ flat v = true := by
  cases op <;> simp only [intBin, Option.some.injEq] at h
  case quo =>
    split at h <;> simp at h
    rename_i hb
    exact ⟨_, by simp [binOp_quo, Op.intDiv, hb], h.symm, rfl⟩
  case rem =>
    split at h <;> simp at h
    rename_i hb
    exact ⟨_, by simp [binOp_rem, Op.intDiv, hb], h.symm, rfl⟩
  case shl => cases h
  case shr => cases h
  all_goals
    subst h
    refine ⟨_, ?_, rfl, rfl⟩
    first
    | simp [binOp_add, Op.intArith]; done
    | simp [binOp_sub, Op.intArith]; done
    | simp [binOp_mul, Op.intArith]; done
    | simp [binOp_and, intBits_and]; done
    | simp [binOp_or, intBits_or]; done
    | simp [binOp_xor, intBits_xor]; done
    | simp [binOp_andNot, intBits_andNot]; done
    | simp [binOp_eql]; done
    | simp [binOp_neq]; done
    | simp [binOp_lss]; done
    | simp [binOp_leq]; done
    | simp [binOp_gtr]; done
    | simp [binOp_geq]; done

theorem bin_str {op : BinOp} {t : Nat} {a b : ByteArray} {z : D} (h : strBin op a b = some z) : ∃ v, (binOp op t (.string a) (.string b)).run P w = .ok v w ∧ z = .v v ∧ flat v = true := by
  have e : binOp op t (.string a) (.string b) = Op.stringOp op a b := by cases op <;> rfl
  rw [e]
  cases op <;> simp only [strBin, Option.some.injEq] at h <;> try (cases h; done)
  case add =>
    split at h <;> simp at h
    rename_i hb
    subst h
    refine ⟨_, ?_, rfl, rfl⟩
    have : ¬ (((a.size + b.size : Nat) : Int) > IntKind.i64.max) := by rw [IntKind.max_i64]; omega
    simp only [Op.stringOp, if_neg this, Sem.run_pure]
  all_goals
    subst h
    exact ⟨_, by simp [Op.stringOp], rfl, rfl⟩

theorem bin_run {op : BinOp} {t : Nat} {i : TI} (hi : TOk P t i) {a b z : D} {x y : Value} (ox oy : Operand) (ha : RepB w F a x) (hb : RepB w G b y) (h : bin op i.bl i.eq a b = some z) :
    ∃ v, (do eqGuard op t ox oy x y; binOp op t x y : Sem Value).run P w = .ok v w ∧ z = .v v ∧ flat v = true := by
  unfold bin at h
  split at h
  · rename_i k a' _ b'
    obtain ⟨rfl, _⟩ := RepB_v ha
    obtain ⟨rfl, _⟩ := RepB_v hb
    split at h <;> simp at h
    rename_i h0
    subst h
    refine ⟨_, ?_, rfl, rfl⟩
    rw [eqGuard_at_int]
    simp [binOp_shl, Op.shift, Int.not_lt.2 h0]
  · rename_i k a' _ b'
    obtain ⟨rfl, _⟩ := RepB_v ha
    obtain ⟨rfl, _⟩ := RepB_v hb
    split at h <;> simp at h
    rename_i h0
    subst h
    refine ⟨_, ?_, rfl, rfl⟩
    rw [eqGuard_at_int]
    simp [binOp_shr, Op.shift, Int.not_lt.2 h0]
  · rename_i k a' k' b' _ _
    obtain ⟨rfl, _⟩ := RepB_v ha
    obtain ⟨rfl, _⟩ := RepB_v hb
    by_cases hk : k = k'
    case neg => rw [if_neg hk] at h; cases h
    rw [if_pos hk] at h
    subst hk
    obtain ⟨v, h1, h2, h3⟩ := bin_int (P := P) (w := w) (t := t) h
    refine ⟨v, ?_, h2, h3⟩
    rw [eqGuard_at_int]
    simpa using h1
  · obtain ⟨rfl, _⟩ := RepB_v ha
    obtain ⟨rfl, _⟩ := RepB_v hb
    obtain ⟨v, h1, h2, h3⟩ := bin_str (P := P) (w := w) (t := t) h
    refine ⟨v, ?_, h2, h3⟩
    rw [eqGuard_at_string]
    simpa using h1
  · obtain ⟨rfl, _⟩ := RepB_v ha
    obtain ⟨rfl, _⟩ := RepB_v hb
    split at h <;> simp at h
    rename_i hbl
    subst h
    refine ⟨_, ?_, rfl, rfl⟩
    rw [eqGuard_at_bool]
    simp [binOp, Op.equal, Op.maxDepth, run_equalIn_bool' w _ t _ _ (hi.bl hbl)]
  · obtain ⟨rfl, _⟩ := RepB_v ha
    obtain ⟨rfl, _⟩ := RepB_v hb
    split at h <;> simp at h
    rename_i hbl
    subst h
    refine ⟨_, ?_, rfl, rfl⟩
    rw [eqGuard_at_bool]
    simp [binOp, Op.equal, Op.maxDepth, run_equalIn_bool' w _ t _ _ (hi.bl hbl)]
  · split at h
    · cases h
    · rename_i he
      obtain ⟨q, hq, rfl⟩ := Option.map_eq_some_iff.1 h
      obtain ⟨us, rfl, r1⟩ := ha.rep (by simp)
      obtain ⟨vs, rfl, s1⟩ := hb.rep (by simp)
      simp only [RepC] at r1 s1
      obtain ⟨fs, f1, f2, f3, f4, f5⟩ := hi.eq he
      have hfs : P.fieldsOf t = fs := by simp [Program.fieldsOf, f1]
      refine ⟨_, ?_, rfl, rfl⟩
      have key := allEq_run (P := P) fs.toList 0 i.eq _ _ us vs [] [] q f2 hq rfl rfl r1.1 s1.1
      simp only [List.nil_append] at key
      simp only [Sem.run_bind, run_eqGuard_agg w _ _ _ _ _ _ f4, Result.andThen_ok, run_eql_struct, run_equalIn_agg w 9999 t _ _ (by rw [hfs]; exact f1) f5, hfs, key]
  · split at h
    · cases h
    · rename_i he
      obtain ⟨q, hq, rfl⟩ := Option.map_eq_some_iff.1 h
      obtain ⟨us, rfl, r1⟩ := ha.rep (by simp)
      obtain ⟨vs, rfl, s1⟩ := hb.rep (by simp)
      simp only [RepC] at r1 s1
      obtain ⟨fs, f1, f2, f3, f4, f5⟩ := hi.eq he
      have hfs : P.fieldsOf t = fs := by simp [Program.fieldsOf, f1]
      refine ⟨_, ?_, rfl, rfl⟩
      have key := allEq_run (P := P) fs.toList 0 i.eq _ _ us vs [] [] q f2 hq rfl rfl r1.1 s1.1
      simp only [List.nil_append] at key
      simp only [Sem.run_bind, run_eqGuard_agg w _ _ _ _ _ _ f4, Result.andThen_ok, run_neq_struct, run_equalIn_agg w 9999 t _ _ (by rw [hfs]; exact f1) f5, hfs, key]
  · cases h

theorem binI_run {op : BinOp} {t : Nat} {i : TI} (hi : TOk P t i) (hf : i.ifc = true) {a b z : D} {x y : Value} {nc : Bool} (ox oy : Operand) (hc : nc = true → ∃ v, oy = .const v) (ha : RepB w F a x) (hb : RepB w G b y) (h : binI nc op a b = some z) :
    ∃ v, (do eqGuard op t ox oy x y; binOp op t x y : Sem Value).run P w = .ok v w ∧ z = .v v ∧ flat v = true := by
  obtain ⟨ms, hu⟩ := hi.ifc hf
  have eq1 : ∀ (tx : TypeId) (v : Value), (Op.equal t (.iface tx v) .nilIface).run P w = .ok false w := fun tx v => by
    have h : ∀ d : Nat, (Op.equalIn (d + 1) t (.iface tx v) .nilIface).run P w = .ok false w := fun d => by
      simp [Op.equalIn, run_underlying hu]
    simp [Op.equal, Op.maxDepth, h 9999]
  have eq2 : (Op.equal t .nilIface .nilIface).run P w = .ok true w := by
    have h : ∀ d : Nat, (Op.equalIn (d + 1) t .nilIface .nilIface).run P w = .ok true w := fun d => by
      simp [Op.equalIn, run_underlying hu]
    simp [Op.equal, Op.maxDepth, h 9999]
  have g1 : ∀ (op : BinOp) (tx : TypeId) (v : Value), (eqGuard op t ox oy (.iface tx v) .nilIface).run P w = .ok () w := fun op tx v => by
    cases op <;> simp [eqGuard]
  have g2 : nc = true → ∀ op : BinOp, (eqGuard op t ox oy .nilIface .nilIface).run P w = .ok () w := fun hn op => by
    obtain ⟨v, rfl⟩ := hc hn
    cases op <;> simp [eqGuard]
  unfold binI at h
  split at h
  · obtain ⟨tx, v, e⟩ := ha.rep (by simp)
    obtain ⟨rfl, _⟩ := RepB_v hb
    simp only [List.cons.injEq, and_true] at e
    subst e
    cases h
    refine ⟨_, ?_, rfl, rfl⟩
    simp only [Sem.run_bind, g1, Result.andThen_ok, binOp, eq1]
    rfl
  · obtain ⟨tx, v, e⟩ := ha.rep (by simp)
    obtain ⟨rfl, _⟩ := RepB_v hb
    simp only [List.cons.injEq, and_true] at e
    subst e
    cases h
    refine ⟨_, ?_, rfl, rfl⟩
    simp only [Sem.run_bind, g1, Result.andThen_ok, binOp, eq1]
    rfl
  · obtain ⟨rfl, _⟩ := RepB_v ha
    obtain ⟨rfl, _⟩ := RepB_v hb
    split at h
    case isFalse => cases h
    rename_i hn
    cases h
    refine ⟨_, ?_, rfl, rfl⟩
    simp only [Sem.run_bind, g2 hn, Result.andThen_ok, binOp, eq2]
    rfl
  · obtain ⟨rfl, _⟩ := RepB_v ha
    obtain ⟨rfl, _⟩ := RepB_v hb
    split at h
    case isFalse => cases h
    rename_i hn
    cases h
    refine ⟨_, ?_, rfl, rfl⟩
    simp only [Sem.run_bind, g2 hn, Result.andThen_ok, binOp, eq2]
    rfl
  · cases h

theorem un_run {op : UnOp} {a z : D} {x : Value} (ha : RepB w F a x) (h : un op a = some z) : ∃ v, (Op.unary op x).run P w = .ok v w ∧ z = .v v ∧ flat v = true := by
  unfold un at h
  split at h
  · obtain ⟨rfl, _⟩ := RepB_v ha
    simp at h; subst h
    exact ⟨_, by simp [Op.unary, Op.intArith], rfl, rfl⟩
  · obtain ⟨rfl, _⟩ := RepB_v ha
    simp at h; subst h
    exact ⟨_, by simp [Op.unary], rfl, rfl⟩
  · cases h

theorem pick_run {q a b z : D} {xq xa xb : Value} (hq : RepB w F q xq) (ha : RepB w G a xa) (hb : RepB w G b xb) (h : pickD q a b = some z) : ∃ y, (do pure (if ← asBool xq then xa else xb) : Sem Value).run P w = .ok y w ∧ RepB w G z y := by
  unfold pickD at h
  split at h
  · obtain ⟨rfl, _⟩ := RepB_v hq
    simp at h; subst h
    exact ⟨xa, by simp [asBool], ha⟩
  · obtain ⟨rfl, _⟩ := RepB_v hq
    simp at h; subst h
    exact ⟨xb, by simp [asBool], hb⟩
  · cases h

theorem conv_run {src dst : Nat} {si di : TI} (hs : TOk P src si) (hd : TOk P dst di) {a z : D} {x : Value} (ha : RepB w F a x) (h : convD di.ik (match di.str with | true => si.str | false => false) a = some z) :
    ∃ v, (convert src dst x).run P w = .ok v w ∧ z = .v v ∧ flat v = true := by
  unfold convD at h
  split at h
  · rename_i k kk n hk
    obtain ⟨rfl, _⟩ := RepB_v ha
    simp at h; subst h
    obtain ⟨d, hu⟩ := Option.isSome_iff_exists.1 hs.und
    refine ⟨_, ?_, rfl, rfl⟩
    simp [convert, run_underlying hu, run_underlying (hd.ik k hk), Conv.intToInt]
  · rename_i s hk
    obtain ⟨rfl, _⟩ := RepB_v ha
    simp at h; subst h
    split at hk
    · rename_i hdd
      have h1 := (hd.str hdd).1
      have h2 := (hs.str hk).1
      refine ⟨_, ?_, rfl, rfl⟩
      simp [convert, run_underlying h1, run_underlying h2]
    · cases hk
  · cases h

/-- A type is a slice's. -/
theorem isSl_ok {t : Nat} {i : TI} (hi : TOk P t i) (h : isSl i = true) : P.underlying t = some (.slice i.elem) ∧ i.agg = false ∧ 0 < i.ez ∧ 0 < i.eb ∧ ∃ y, P.info? i.elem = some y ∧ y.size = i.ez ∧ y.bytes = i.eb := by
  unfold isSl at h
  split at h
  · cases h
  · rename_i h1 h2
    exact hi.sl (by intro h0; exact h2 h0) h1
  · cases h

theorem RepV_arr {z : Nat} {l : List D} {y : Value} (h : RepV w F (.arr z l) y) : ∃ A c us, y = .slice A l.length c ∧ l.length ≤ c ∧ RepL w F l us ∧ (∀ d ∈ l, d.width = z) ∧ (l ≠ [] → ∃ b o, A = some ⟨b, o, none⟩ ∧ F b ∧ CellsAt w b o us) := by
  simp only [RepV, RepC] at h
  obtain ⟨A, c, us, h1, h2⟩ := h
  simp at h1
  exact ⟨A, c, us, h1, h2⟩
theorem RepV_ptr {l : List D} {y : Value} (h : RepV w F (.ptr l) y) : ∃ b o us, y = .pointer (some ⟨b, o, none⟩) ∧ RepL w F l us ∧ l.all D.single = true ∧ F b ∧ CellsAt w b o us := by
  simp only [RepV, RepC] at h
  obtain ⟨b, o, us, h1, h2⟩ := h
  simp at h1
  exact ⟨b, o, us, h1, h2⟩

theorem len_run {t ty : Nat} {str : Bool} {a z : D} {x : Value} (ha : RepB w F a x) (hs : str = false → ∃ e, P.underlying t = some (.slice e)) (ht : str = true → P.underlying t = some .string) (h : lenD str a = some z) :
    ∃ v, (Builtin.len_ #[t] ty #[x]).run P w = .ok v w ∧ z = .v v ∧ flat v = true := by
  unfold lenD at h
  split at h
  · obtain ⟨e, hu⟩ := hs rfl
    obtain ⟨A, c, us, rfl, _⟩ := RepV_arr (ha.rep (by simp))
    simp at h; subst h
    exact ⟨_, by simp [Builtin.len_, run_underlying hu, goInt], rfl, rfl⟩
  · have hu := ht rfl
    obtain ⟨rfl, _⟩ := RepB_v ha
    simp at h; subst h
    exact ⟨_, by simp [Builtin.len_, run_underlying hu, goInt], rfl, rfl⟩
  · cases h

/-- A value at the head of some cells. -/
theorem takeD_rep {ag : Bool} {n : Nat} {l : List D} {us : List Value} {z : D} (hr : RepL w F l us) (hs : l.all D.single = true) (h : takeD ag n l = some z) :
    (ag = true → n ≤ us.length ∧ RepV w F z (.agg (us.take n).toArray)) ∧ (ag = false → ∃ u, us[0]? = some u ∧ RepV w F z u) := by
  have hl := (RepL_single l us hs hr).1
  unfold takeD at h
  constructor
  · rintro rfl
    simp only [if_true] at h
    split at h
    · rename_i hn
      simp at h; subst h
      refine ⟨by omega, _, rfl, ?_⟩
      simp only [RepC]
      exact ⟨(RepL_cut l us hs hr n).1, all_take hs n⟩
    · cases h
  · rintro rfl
    simp only [Bool.false_eq_true, if_false] at h
    cases l with
    | nil => cases h
    | cons d l =>
      simp at h; subst h
      simp only [List.all_cons, Bool.and_eq_true] at hs
      obtain ⟨v1, v2, rfl, h1, h2⟩ := RepL_cons.1 hr
      obtain ⟨y, rfl, _⟩ := RepC_len _ _ hs.1 h1
      exact ⟨y, rfl, (RepV_single hs.1).2 h1⟩

/-- A part of a struct's cells. -/
theorem part_run {t : Nat} {i : TI} (hi : TOk P t i) {off : Nat} {l : List D} {us : List Value} {z : D} (hr : RepL w F l us) (hs : l.all D.single = true) (h : takeD i.agg i.n (l.drop off) = some z) :
    ∃ y, (part t us.toArray off).run P w = .ok y w ∧ RepV w F z y := by
  obtain ⟨h1, h2⟩ := takeD_rep (RepL_cut l us hs hr off).2 (all_drop hs off) h
  cases ha : i.agg
  · obtain ⟨u, hu, hv⟩ := h2 ha
    refine ⟨u, ?_, hv⟩
    rw [List.getElem?_drop] at hu
    simp only [part, Sem.run_bind, hi.agg, ha, Result.andThen_ok, Bool.false_eq_true, if_false]
    have : us.toArray[off]? = some u := by simpa using hu
    rw [this]
    rfl
  · obtain ⟨hn, hv⟩ := h1 ha
    refine ⟨_, ?_, hv⟩
    simp only [part, Sem.run_bind, hi.agg, ha, Result.andThen_ok, if_true, hi.size, Sem.run_pure]
    congr 2
    apply Array.ext'
    simp

theorem fld_run {t ft f off : Nat} {i ti : TI} (hi : TOk P t i) (hf : TOk P ft ti) {a z : D} {x : Value} (hl : i.fs[f]? = some (off, ft)) (ha : RepB w F a x) (h : fldD ti.agg ti.n off a = some z) :
    ∃ y, (Instr.field t x f).run P w = .ok y w ∧ RepV w F z y := by
  unfold fldD at h
  split at h
  · rename_i l
    obtain ⟨us, rfl, hr⟩ := ha.rep (by simp)
    simp only [RepC] at hr
    obtain ⟨fs, fl, h1, h2, h3, h4, _⟩ := hi.fs f off ft hl
    obtain ⟨y, hy, hv⟩ := part_run hf hr.1 hr.2 h
    refine ⟨y, ?_, hv⟩
    simp only [Instr.field, Sem.run_bind, run_underlying h1, Result.andThen_ok, h2, asAgg, Sem.run_pure, h3, h4, hy]
  · cases h

/-- A value loaded from memory. -/
theorem load_run {t : Nat} {i : TI} (hi : TOk P t i) {b o : Nat} {l : List D} {us : List Value} {z : D} (hr : RepL w F l us) (hs : l.all D.single = true) (hc : CellsAt w b o us) (h : takeD i.agg i.n l = some z) :
    ∃ y, (Instr.loadAt t (.pointer (some ⟨b, o, none⟩))).run P w = .ok y w ∧ RepV w F z y := by
  obtain ⟨h1, h2⟩ := takeD_rep hr hs h
  cases ha : i.agg
  · obtain ⟨u, hu, hv⟩ := h2 ha
    refine ⟨u, ?_, hv⟩
    have hcell := hc 0 u hu
    rw [Nat.add_zero] at hcell
    simp only [Instr.loadAt, Instr.sureAddr, Sem.run_bind, Sem.run_pure, Result.andThen_ok, loadVar, hi.agg, ha, Bool.false_eq_true, if_false, run_load, hcell]
  · obtain ⟨hn, hv⟩ := h1 ha
    refine ⟨_, ?_, hv⟩
    have hlc : (loadCells ⟨b, o, none⟩ i.n).run P w = .ok (us.take i.n).toArray w := by
      have hlen : (us.take i.n).length = i.n := by rw [List.length_take]; omega
      have := run_loadCells_list (P := P) w ⟨b, o, none⟩ (us.take i.n) (fun j v hj => by rw [Addr.add_lit]; exact (hc.take i.n) j v hj)
      rwa [hlen] at this
    simp only [Instr.loadAt, Instr.sureAddr, Sem.run_bind, Sem.run_pure, Result.andThen_ok, loadVar, hi.agg, ha, if_true, hi.size, hlc]

theorem ld_run {t : Nat} {i : TI} (hi : TOk P t i) {a z : D} {x : Value} (ha : RepB w F a x) (h : ldD i.agg i.n a = some z) : ∃ y, (Instr.loadAt t x).run P w = .ok y w ∧ RepV w F z y := by
  unfold ldD at h
  split at h
  · obtain ⟨b, o, us, rfl, h1, h2, _, h4⟩ := RepV_ptr (ha.rep (by simp))
    exact load_run hi h1 h2 h4 h
  · cases h

theorem fieldAt_run {t f off ft : Nat} {i : TI} (hi : TOk P t i) (hl : i.fs[f]? = some (off, ft)) (b o : Nat) : (Instr.fieldAt t (.pointer (some ⟨b, o, none⟩)) f).run P w = .ok (.pointer (some ⟨b, o + off, none⟩)) w := by
  obtain ⟨fs, fl, h1, h2, h3, h4, _, y, h5, h6⟩ := hi.fs f off ft hl
  simp only [Instr.fieldAt, Sem.run_bind, run_underlying h1, Result.andThen_ok, h2, Instr.sureAddr, Sem.run_pure, fieldPlace, h4, run_sizeOf h5, if_neg h6, h3, Addr.add_lit]

theorem off_run {t f off ft : Nat} {i : TI} (hi : TOk P t i) (hl : i.fs[f]? = some (off, ft)) {a z : D} {x : Value} (ha : RepB w F a x) (h : offD off a = some z) : ∃ y, (Instr.fieldAt t x f).run P w = .ok y w ∧ RepV w F z y := by
  unfold offD at h
  split at h
  · rename_i l
    obtain ⟨b, o, us, rfl, h1, h2, h3, h4⟩ := RepV_ptr (ha.rep (by simp))
    simp at h; subst h
    refine ⟨_, fieldAt_run hi hl b o, ?_⟩
    simp only [RepV, RepC]
    exact ⟨b, o + off, us.drop off, rfl, (RepL_cut l us h2 h1 off).2, all_drop h2 off, h3, h4.drop off⟩
  · cases h

theorem indexAt_run {t : Nat} {i : TI} (hi : TOk P t i) (hsl : isSl i = true) (b o len c : Nat) (k : IntKind) (n : Int) (h0 : 0 ≤ n) (h1 : n < len) :
    (Instr.indexAt t (.slice (some ⟨b, o, none⟩) len c) (.int k n)).run P w = .ok (.pointer (some ⟨b, o + n.toNat * i.ez, none⟩)) w := by
  obtain ⟨hu, _, _, _, y, hy, hz, _⟩ := isSl_ok hi hsl
  simp only [Instr.indexAt, asIntOf, Sem.run_bind, Sem.run_pure, Result.andThen_ok, run_underlying hu, h0, h1, and_self, if_true, run_sizeOf hy, hz, Addr.add_lit]

theorem indexAr_run {t : Nat} {i : TI} (hi : TOk P t i) (ha : i.alen ≠ 0) (b o : Nat) (k : IntKind) (n : Int) (h0 : 0 ≤ n) (h1 : n < i.alen) :
    (Instr.indexAt t (.pointer (some ⟨b, o, none⟩)) (.int k n)).run P w = .ok (.pointer (some ⟨b, o + n.toNat * i.ez, none⟩)) w := by
  obtain ⟨hu, _, _, _, y, hy, hz⟩ := hi.ar ha
  simp only [Instr.indexAt, asIntOf, Sem.run_bind, Sem.run_pure, Result.andThen_ok, run_underlying hu, Instr.sureAddr, h0, h1, and_self, if_true, run_sizeOf hy, hz, Addr.add_lit]

theorem elem_run {t : Nat} {i : TI} (hi : TOk P t i) (hsl : isSl i = true) {a j : D} {x y : Value} {l : List D} (ha : RepB w F a x) (hj : RepB w G j y) (h : elemD i.ez a j = some l) :
    ∃ v, (Instr.indexAt t x y).run P w = .ok v w ∧ RepV w F (.ptr l) v := by
  unfold elemD at h
  split at h
  · rename_i z' m k n
    split at h
    · rename_i hz
      obtain ⟨rfl, h0⟩ := hz
      obtain ⟨d, hd, rfl⟩ := Option.map_eq_some_iff.1 h
      obtain ⟨rfl, _⟩ := RepB_v hj
      obtain ⟨A, c, us, rfl, h1, h2, h3, h4⟩ := RepV_arr (ha.rep (by simp))
      have hn : n.toNat < m.length := (List.getElem?_eq_some_iff.1 hd).1
      obtain ⟨b, o, rfl, hb, hc⟩ := h4 (by intro e; subst e; simp at hn)
      refine ⟨_, indexAt_run hi hsl b o _ c k n h0 (by omega), ?_⟩
      obtain ⟨p, q, r, rfl, hp, hq, hr, _⟩ := RepL_get m us h2 h3 _ d hd
      simp only [RepV, RepC]
      have hrr : RepL w F d.cells q ∧ d.cells.all D.single = true := by
        rcases RepC_kind hr with ⟨l, rfl⟩ | hs
        · simpa only [RepC, D.cells] using hr
        · rw [(width_single hs).2]
          exact ⟨RepL_cons.2 ⟨q, [], by simp, hr, RepL_nil.2 rfl⟩, by simp [hs]⟩
      refine ⟨b, _, q, rfl, hrr.1, hrr.2, hb, ?_⟩
      rw [← hp]
      exact hc.part
    · cases h
  · cases h

theorem ixD_run {t : Nat} {i : TI} (hi : TOk P t i) (hal : i.alen ≠ 0) {a j z : D} {x y : Value} (ha : RepB w F a x) (hj : RepB w G j y) (h : ixD i.alen i.ez a j = some z) : ∃ v, (Instr.indexAt t x y).run P w = .ok v w ∧ RepV w F z v := by
  unfold ixD at h
  split at h
  · rename_i l k n
    split at h
    · rename_i hn
      simp at h; subst h
      obtain ⟨rfl, _⟩ := RepB_v hj
      obtain ⟨b, o, us, rfl, h1, h2, h3, h4⟩ := RepV_ptr (ha.rep (by simp))
      refine ⟨_, indexAr_run hi hal b o k n hn.1 hn.2, ?_⟩
      simp only [RepV, RepC]
      exact ⟨b, _, _, rfl, (RepL_cut l us h2 h1 _).2, all_drop h2 _, h3, h4.drop _⟩
    · cases h
  · cases h

theorem ixA_run {t et : Nat} {i e : TI} (hi : TOk P t i) (he : TOk P et e) (hal : i.alen ≠ 0) (hel : i.elem = et) {a j z : D} {x y : Value} (ha : RepB w F a x) (hj : RepB w G j y) (h : ixA e.agg i.alen i.ez a j = some z) : ∃ v, (Instr.index t x y).run P w = .ok v w ∧ RepV w F z v := by
  unfold ixA at h
  split at h
  · rename_i l k n
    split at h
    · rename_i hn
      obtain ⟨rfl, _⟩ := RepB_v hj
      obtain ⟨us, rfl, hr⟩ := ha.rep (by simp)
      simp only [RepC] at hr
      obtain ⟨hu, _, _, _, y, hy, hz⟩ := hi.ar hal
      have hen : e.n = i.ez := by
        obtain ⟨x', _, h1, h2, _⟩ := he.info
        rw [hel] at hy
        rw [hy] at h1
        cases h1
        omega
      rw [← hen] at h
      obtain ⟨v, hv, hrep⟩ := part_run he hr.1 hr.2 h
      refine ⟨v, ?_, hrep⟩
      subst hel
      simp only [Instr.index, asIntOf, Sem.run_bind, Sem.run_pure, Result.andThen_ok, run_underlying hu, hn.1, hn.2, and_self, if_true, run_sizeOf hy, hz]
      rw [← hen]
      exact hv
    · cases h
  · cases h

theorem char_run {t : Nat} {i : TI} (hi : TOk P t i) (hs : i.str = true) {a j z : D} {x y : Value} (ha : RepB w F a x) (hj : RepB w G j y) (h : charD a j = some z) : ∃ v, (Instr.index t x y).run P w = .ok v w ∧ z = .v v ∧ flat v = true := by
  unfold charD at h
  split at h
  · rename_i s k n
    split at h
    · rename_i h0
      obtain ⟨b, hb, rfl⟩ := Option.map_eq_some_iff.1 h
      obtain ⟨rfl, _⟩ := RepB_v ha
      obtain ⟨rfl, _⟩ := RepB_v hj
      refine ⟨_, ?_, rfl, rfl⟩
      have hb' : s[n.toNat]? = some b := by
        have hlt : n.toNat < s.data.toList.length := (List.getElem?_eq_some_iff.1 hb).1
        have hlt' : n.toNat < s.size := by rw [Array.length_toList] at hlt; exact hlt
        rw [getElem?_pos s n.toNat hlt']
        have h2 := (List.getElem?_eq_some_iff.1 hb).2
        refine congrArg some ?_
        rw [← h2, Array.getElem_toList]
        rfl
      simp only [Instr.index, asIntOf, Sem.run_bind, Sem.run_pure, Result.andThen_ok, run_underlying (hi.str hs).1]
      rw [if_pos h0, hb']
      rfl
    · cases h
  · cases h

/-- The lower bound of a slice: given, or none. -/
def LoV (w : World) (F : Nat → Prop) (lo : D) (v : Option Value) : Prop := (∃ y, v = some y ∧ RepB w F lo y) ∨ (v = none ∧ lo = I 0)
theorem LoV_int {k : IntKind} {p : Int} {v : Option Value} (h : LoV w F (.v (.int k p)) v) : v = some (.int k p) ∨ (v = none ∧ p = 0) := by
  rcases h with ⟨y, rfl, hy⟩ | ⟨rfl, e⟩
  · obtain ⟨rfl, _⟩ := RepB_v hy
    exact .inl rfl
  · simp at e
    exact .inr ⟨rfl, e.2⟩

theorem slice_run {t : Nat} {i : TI} (hi : TOk P t i) (hsl : i.str = false → isSl i = true) {a lo hi' z : D} {x yh : Value} {yl : Option Value} (ha : RepB w F a x) (hl : LoV w G lo yl) (hh : RepB w G hi' yh) (h : sliceD i.str i.ez a lo hi' = some z) :
    ∃ v, (Instr.sliceAt t x yl (some yh) none).run P w = .ok v w ∧ RepV w F z v := by
  unfold sliceD at h
  split at h
  · rename_i z' l k p k' q hs
    split at h
    · rename_i hc
      obtain ⟨rfl, h0, h1, h2⟩ := hc
      simp at h; subst h
      have hl := LoV_int hl
      obtain ⟨rfl, _⟩ := RepB_v hh
      obtain ⟨hu, _, hez, _, y, hy, hz, _⟩ := isSl_ok hi (hsl hs)
      obtain ⟨A, c, us, rfl, g1, g2, g3, g4⟩ := RepV_arr (ha.rep (by simp))
      have he : P.elem t = i.elem := by simp [Program.elem, hu]
      refine ⟨sliced A p.toNat q.toNat c i.ez, ?_, ?_⟩
      · rcases hl with rfl | ⟨rfl, rfl⟩
        · rw [run_sliceAt_slice w t _ _ _ _ (by rw [he]; exact hu), run_slice_lh w t A _ c (by rw [he]; exact hu) k k' p q h0 h1 (by omega), he, run_sizeOf hy, hz]
          rfl
        · rw [run_sliceAt_slice w t _ _ _ _ (by rw [he]; exact hu), run_slice_h w t A _ c (by rw [he]; exact hu) k' q (by omega) (by omega), he, run_sizeOf hy, hz]
          rfl
      · simp only [RepV, RepC, sliced]
        have hlen : ((l.take q.toNat).drop p.toNat).length = q.toNat - p.toNat := by rw [List.length_drop, List.length_take]; omega
        obtain ⟨t1, _⟩ := RepL_take l us g2 g3 q.toNat
        obtain ⟨_, t2⟩ := RepL_take (l.take q.toNat) (us.take (q.toNat * i.ez)) t1 (fun d hd => g3 d (List.mem_of_mem_take hd)) p.toNat
        refine ⟨_, c - p.toNat, _, by rw [hlen], by rw [hlen]; omega, t2, fun d hd => g3 d (List.mem_of_mem_take (List.mem_of_mem_drop hd)), fun hne => ?_⟩
        have hpos : p.toNat < q.toNat := by
          rcases Nat.lt_or_ge p.toNat q.toNat with hlt | hge
          · exact hlt
          · exact absurd (List.eq_nil_of_length_eq_zero (by rw [hlen]; omega)) hne
        obtain ⟨b, o, rfl, hb, hcell⟩ := g4 (by intro e; subst e; simp at h2; omega)
        refine ⟨b, o + p.toNat * i.ez, ?_, hb, (hcell.take _).drop _⟩
        rw [if_neg (by omega)]
        simp [Addr.add_lit]
    · cases h
  · rename_i s k p k' q hs
    split at h
    · rename_i hc
      obtain ⟨h0, h1, h2⟩ := hc
      simp at h; subst h
      obtain ⟨rfl, _⟩ := RepB_v ha
      have hl := LoV_int hl
      obtain ⟨rfl, _⟩ := RepB_v hh
      have hu := (hi.str hs).1
      refine ⟨_, ?_, RepV_scalar rfl⟩
      have e1 : ((q.toNat : Nat) : Int) = q := by omega
      rcases hl with rfl | ⟨rfl, rfl⟩
      case inr => rw [run_sliceAt_string w t _ _ _ _ hu, run_slice_string_h w t s hu k' q (by omega) (by omega)]; rfl
      simp [run_sliceAt_string w t _ _ _ _ hu, Instr.slice, run_underlying hu, Instr.sliceBounds, run_sliceBound w k' q s.size _ (by omega) h2, run_sliceBound w k p q.toNat _ h0 (by omega)]
    · cases h
  · cases h

theorem sliceHi_run {t : Nat} {i : TI} (hi : TOk P t i) (hsl : i.str = false → isSl i = true) {a lo z : D} {x : Value} {yl : Option Value} (ha : RepB w F a x) (hl : LoV w G lo yl) (h : sliceHi i.str i.ez a lo = some z) :
    ∃ v, (Instr.sliceAt t x yl none none).run P w = .ok v w ∧ RepV w F z v := by
  unfold sliceHi at h
  split at h
  · rename_i z' l k p hs
    split at h
    · rename_i hc
      obtain ⟨rfl, h0, h1⟩ := hc
      simp at h; subst h
      have hl := LoV_int hl
      obtain ⟨hu, _, hez, _, y, hy, hz, _⟩ := isSl_ok hi (hsl hs)
      obtain ⟨A, c, us, rfl, g1, g2, g3, g4⟩ := RepV_arr (ha.rep (by simp))
      have he : P.elem t = i.elem := by simp [Program.elem, hu]
      refine ⟨sliced A p.toNat l.length c i.ez, ?_, ?_⟩
      · rcases hl with rfl | ⟨rfl, rfl⟩
        · rw [run_sliceAt_slice w t _ _ _ _ (by rw [he]; exact hu), run_slice_l w t A _ c (by rw [he]; exact hu) k p h0 h1, he, run_sizeOf hy, hz]
          rfl
        · rw [run_sliceAt_slice w t _ _ _ _ (by rw [he]; exact hu), run_slice_all w t A _ c (by rw [he]; exact hu), he, run_sizeOf hy, hz]
          rfl
      · simp only [RepV, RepC, sliced]
        obtain ⟨_, t2⟩ := RepL_take l us g2 g3 p.toNat
        refine ⟨_, c - p.toNat, _, by rw [List.length_drop], by rw [List.length_drop]; omega, t2, fun d hd => g3 d (List.mem_of_mem_drop hd), fun hne => ?_⟩
        have hpos : p.toNat < l.length := by
          rcases Nat.lt_or_ge p.toNat l.length with hlt | hge
          · exact hlt
          · exact absurd (List.drop_eq_nil_of_le hge) hne
        obtain ⟨b, o, rfl, hb, hcell⟩ := g4 (by intro e; subst e; simp at hpos)
        refine ⟨b, o + p.toNat * i.ez, ?_, hb, hcell.drop _⟩
        rw [if_neg (by omega)]
        simp [Addr.add_lit]
    · cases h
  · rename_i s k p hs
    split at h
    · rename_i hc
      obtain ⟨h0, h1⟩ := hc
      simp at h; subst h
      obtain ⟨rfl, _⟩ := RepB_v ha
      have hl := LoV_int hl
      have hu := (hi.str hs).1
      refine ⟨_, ?_, RepV_scalar rfl⟩
      rcases hl with rfl | ⟨rfl, rfl⟩
      case inr => rw [run_sliceAt_string w t _ _ _ _ hu, run_slice_string_all w t s hu]; rfl
      simp [run_sliceAt_string w t _ _ _ _ hu, Instr.slice, run_underlying hu, Instr.sliceBounds, run_sliceBound w k p s.size _ h0 h1]
    · cases h
  · cases h

theorem min_run {a b z : D} {x y : Value} (ha : RepB w F a x) (hb : RepB w G b y) (h : minD a b = some z) : ∃ v, (Builtin.min2 x y).run P w = .ok v w ∧ z = .v v ∧ flat v = true := by
  unfold minD at h
  split at h
  · obtain ⟨rfl, _⟩ := RepB_v ha
    obtain ⟨rfl, _⟩ := RepB_v hb
    simp at h; subst h
    exact ⟨_, by simp [Builtin.min2], rfl, rfl⟩
  · cases h
theorem max_run {a b z : D} {x y : Value} (ha : RepB w F a x) (hb : RepB w G b y) (h : maxD a b = some z) : ∃ v, (Builtin.max2 x y).run P w = .ok v w ∧ z = .v v ∧ flat v = true := by
  unfold maxD at h
  split at h
  · obtain ⟨rfl, _⟩ := RepB_v ha
    obtain ⟨rfl, _⟩ := RepB_v hb
    simp at h; subst h
    exact ⟨_, by simp [Builtin.max2], rfl, rfl⟩
  · cases h

/-- Operands, one by one. -/
def RepBs (w : World) (F : Nat → Prop) : List D → List Value → Prop
  | [], [] => True
  | d :: ds, y :: ys => RepB w F d y ∧ RepBs w F ds ys
  | _, _ => False

theorem fold_run {f : D → D → Option D} {g : Value → Value → Sem Value} (hf : ∀ (a b z : D) (x y : Value), RepB w F a x → RepB w F b y → f a b = some z → ∃ v, (g x y).run P w = .ok v w ∧ z = .v v ∧ flat v = true) :
    ∀ (ds : List D) (ys : List Value) (z : D) (x : Value), flat x = true → RepBs w F ds ys → foldB f (.v x) ds = some z → ∃ v, (ys.foldlM g x).run P w = .ok v w ∧ z = .v v ∧ flat v = true
  | [], [], z, x, ha, _, h => by
    simp only [foldB, Option.some.injEq] at h
    subst h
    exact ⟨x, by simp, rfl, ha⟩
  | d :: ds, y :: ys, z, x, ha, hb, h => by
    simp only [foldB] at h
    obtain ⟨u, hu, h⟩ := Option.bind_eq_some_iff.1 h
    obtain ⟨v, h1, rfl, h3⟩ := hf (.v x) d u x y (.inr (RepV_scalar ha)) hb.1 hu
    obtain ⟨v', h4, h5⟩ := fold_run hf ds ys z v h3 hb.2 h
    exact ⟨v', by simp [h1, h4], h5⟩
  | [], _ :: _, _, _, _, hb, _ => hb.elim
  | _ :: _, [], _, _, _, hb, _ => hb.elim
theorem fold_run2 {f : D → D → Option D} {g : Value → Value → Sem Value} (hf : ∀ (a b z : D) (x y : Value), RepB w F a x → RepB w F b y → f a b = some z → ∃ v, (g x y).run P w = .ok v w ∧ z = .v v ∧ flat v = true)
    {a b : D} {ds : List D} {x y : Value} {ys : List Value} {z : D} (ha : RepB w F a x) (hb : RepB w F b y) (hd : RepBs w F ds ys) (h : foldB f a (b :: ds) = some z) : ∃ v, ((y :: ys).foldlM g x).run P w = .ok v w ∧ z = .v v ∧ flat v = true := by
  simp only [foldB] at h
  obtain ⟨u, hu, h⟩ := Option.bind_eq_some_iff.1 h
  obtain ⟨v, h1, rfl, h3⟩ := hf a b u x y ha hb hu
  obtain ⟨v', h4, h5⟩ := fold_run hf ds ys z v h3 hd h
  exact ⟨v', by simp [h1, h4], h5⟩

theorem bytes_run : ∀ (l : List D) (us : List Value) (b : List UInt8), bytesOf l = some b → RepL w F l us → us.length = b.length ∧ ∀ acc : ByteArray, (us.foldlM (fun (s : ByteArray) (c : Value) => (match c with
      | .int .u8 n => pure (s.push (UInt8.ofNat n.toNat))
      | _ => stuck "bytesToString: byte expected" : Sem ByteArray)) acc).run P w = .ok ⟨acc.data ++ b.toArray⟩ w
  | [], us, b, h, hr => by
    simp [bytesOf] at h
    subst h
    rw [RepL_nil] at hr
    subst hr
    exact ⟨rfl, fun acc => by simp⟩
  | d :: l, us, b, h, hr => by
    unfold bytesOf at h
    split at h
    · cases ‹_ = []›
    · rename_i n l' e
      cases e
      obtain ⟨b', hb, rfl⟩ := Option.map_eq_some_iff.1 h
      obtain ⟨v1, v2, rfl, h1, h2⟩ := RepL_cons.1 hr
      simp only [RepC] at h1
      obtain ⟨rfl, _⟩ := h1
      obtain ⟨g1, g2⟩ := bytes_run l v2 b' hb h2
      refine ⟨by simp [g1], fun acc => ?_⟩
      simp only [List.singleton_append, List.foldlM_cons, Sem.run_bind, Sem.run_pure, Result.andThen_ok, g2]
      congr 2
      simp [ByteArray.push]
    · cases h

theorem nil_run {a z : D} {x : Value} (ha : RepB w F a x) (h : nilD a = some z) (o : Oper) (q : Operand) (ρ : Operand → Value) (ho : o.op = .nilCheck q) (hq : ρ q = x) : (execOp ρ o).run P w = .ok (.value x) w ∧ RepV w F z x := by
  unfold nilD at h
  split at h
  · have hr := ha.rep (by simp)
    obtain ⟨b, of, us, rfl, _⟩ := RepV_ptr hr
    simp at h; subst h
    exact ⟨by simp [execOp, ho, hq], hr⟩
  · have hr := ha.rep (by simp)
    simp at h; subst h
    have hr' := hr
    simp only [RepV, RepC] at hr'
    obtain ⟨us, hx, _⟩ := hr'
    simp at hx; subst hx
    exact ⟨by simp [execOp, ho, hq], hr⟩
  · cases h

theorem str_run {src dst : Nat} {si di ei : TI} (hs : TOk P src si) (hd : TOk P dst di) (he : TOk P si.elem ei) (hsl : isSl si = true) (hb : ei.ik = some .u8) (hds : di.str = true) {a z : D} {x : Value} (ha : RepV w F a x) (h : strD a = some z) :
    ∃ v, (convert src dst x).run P w = .ok v w ∧ z = .v v ∧ flat v = true := by
  unfold strD at h
  split at h
  · rename_i zz l
    obtain ⟨b, hbb, rfl⟩ := Option.map_eq_some_iff.1 h
    obtain ⟨A, c, us, rfl, g1, g2, g3, g4⟩ := RepV_arr ha
    obtain ⟨hu, _⟩ := isSl_ok hs hsl
    have hel := he.ik _ hb
    have hst := (hd.str hds).1
    refine ⟨_, ?_, rfl, rfl⟩
    rw [run_convert_bytes_string w src dst si.elem A _ c hu hel hst]
    by_cases hl : l = []
    · subst hl
      simp [bytesOf] at hbb
      subst hbb
      cases A with
      | none => simp [Conv.bytesToString]; rfl
      | some A => simp [Conv.bytesToString, loadCells, loadCellsFrom]; rfl
    · obtain ⟨bb, o, rfl, _, hc⟩ := g4 hl
      have key : ∀ (l : List D) (us : List Value) (b : List UInt8), bytesOf l = some b → RepL w F l us → ∃ ns : List Int, us = ns.map (Value.int .u8) ∧ ns.map (fun n => UInt8.ofNat n.toNat) = b ∧ l.length = ns.length := by
        intro l
        induction l with
        | nil =>
          intro us b h hr
          simp [bytesOf] at h
          rw [RepL_nil] at hr
          exact ⟨[], by simp [hr], by simp [h], rfl⟩
        | cons d l ih =>
          intro us b h hr
          unfold bytesOf at h
          split at h
          · cases ‹_ = []›
          · rename_i n l' e
            cases e
            obtain ⟨b', hb', rfl⟩ := Option.map_eq_some_iff.1 h
            obtain ⟨v1, v2, rfl, h1, h2⟩ := RepL_cons.1 hr
            simp only [RepC] at h1
            obtain ⟨rfl, _⟩ := h1
            obtain ⟨ns, rfl, e2, e3⟩ := ih v2 b' hb' h2
            exact ⟨n :: ns, by simp, by simp [e2], by simp [e3]⟩
          · cases h
      obtain ⟨ns, rfl, e2, e3⟩ := key l us b hbb g2
      have hlc : (loadCells ⟨bb, o, none⟩ l.length).run P w = .ok (ns.map (Value.int .u8)).toArray w := by
        have := run_loadCells_list (P := P) w ⟨bb, o, none⟩ (ns.map (Value.int .u8)) (fun j v hj => by rw [Addr.add_lit]; exact hc j v hj)
        rwa [List.length_map, ← e3] at this
      rw [run_bytesToString w _ _ c ns hlc]
      congr 2
      have : ∀ (ns : List Int) (acc : ByteArray), ns.foldl (fun r n => r.push (UInt8.ofNat n.toNat)) acc = ⟨acc.data ++ (ns.map (fun n => UInt8.ofNat n.toNat)).toArray⟩ := by
        intro ns
        induction ns with
        | nil => intro acc; simp
        | cons n ns ih =>
          intro acc
          rw [List.foldl_cons, ih]
          congr 1
          simp [ByteArray.push]
      rw [this, e2]
      congr 1
      show #[] ++ b.toArray = b.toArray
      simp
  · cases h

/-- Cells replaced. -/
theorem RepL_put {l vs : List D} {us ws : List Value} (hl : l.all D.single = true) (hv : vs.all D.single = true) (hr : RepL w F l us) (hw : RepL w F vs ws) (f : Nat) :
    RepL w F (putCells l f vs) (us.take f ++ ws ++ us.drop (f + ws.length)) ∧ (putCells l f vs).all D.single = true := by
  have e := (RepL_single _ _ hv hw).1
  refine ⟨?_, ?_⟩
  · unfold putCells
    rw [e]
    exact (RepL_append _ _ _).2 ⟨_, _, rfl, (RepL_append _ _ _).2 ⟨_, _, rfl, (RepL_cut l us hl hr f).1, hw⟩, (RepL_cut l us hl hr _).2⟩
  · unfold putCells
    rw [all_append, all_append, all_take hl, all_drop hl, hv]; rfl

theorem fill_set : ∀ (vs : List Value) (off k : Nat) (us : List Value), off + k + vs.length ≤ us.length →
    ((vs.zipIdx k).foldl (fun (cs : Array Value) (p : Value × Nat) => cs.setIfInBounds (off + p.2) p.1) us.toArray) = (us.take (off + k) ++ vs ++ us.drop (off + k + vs.length)).toArray
  | [], off, k, us, h => by simp
  | v :: vs, off, k, us, h => by
    simp only [List.length_cons] at h
    have ih := fill_set vs off (k + 1) (us.set (off + k) v) (by simp; omega)
    simp only [List.zipIdx_cons, List.foldl_cons, List.setIfInBounds_toArray]
    rw [ih]
    congr 1
    have hs : us.set (off + k) v = us.take (off + k) ++ v :: us.drop (off + k + 1) := List.set_eq_take_append_cons_drop.trans (by rw [if_pos (by omega)])
    have hl : (us.take (off + k)).length = off + k := by rw [List.length_take]; omega
    rw [hs, ← Nat.add_assoc]
    have e3 : us.drop (off + k + (v :: vs).length) = (us.drop (off + k + 1)).drop vs.length := by rw [List.drop_drop, List.length_cons]; congr 1; omega
    rw [e3]
    generalize us.take (off + k) = p at hl
    generalize us.drop (off + k + 1) = r
    rw [← hl, List.take_length_add_append, show p.length + 1 + vs.length = p.length + (vs.length + 1) from by omega, List.drop_length_add_append]
    simp

/-- The parts of a struct laid into its cells. -/
theorem fill_run (place : Nat → Option (Nat × Nat)) : ∀ (parts : List (Nat × Value)) (ps : List (Nat × Nat)) (xs cs cs' : List D) (us : List Value), parts.map (fun p => place p.1) = ps.map some → RepBs w F xs (parts.map (·.2)) → cs.all D.single = true → RepL w F cs us →
    fillD ps xs cs = some cs' → ∃ us', Instr.fill place us.toArray parts = some us'.toArray ∧ RepL w F cs' us' ∧ cs'.all D.single = true
  | [], ps, xs, cs, cs', us, hp, hx, hs, hr, h => by
    cases ps <;> simp at hp
    cases xs with
    | cons _ _ => exact hx.elim
    | nil =>
      simp [fillD] at h
      subst h
      exact ⟨us, rfl, hr, hs⟩
  | (i, v) :: parts, ps, xs, cs, cs', us, hp, hx, hs, hr, h => by
    cases ps with
    | nil => simp at hp
    | cons p ps =>
    cases xs with
    | nil => exact hx.elim
    | cons x xs =>
      obtain ⟨off, n⟩ := p
      simp only [List.map_cons, List.cons.injEq] at hp
      simp only [fillD] at h
      split at h
      · rename_i hc
        obtain ⟨h1, h2, h3⟩ := hc
        have hxr : RepV w F x v := hx.1.rep (by intro e; subst e; simp [D.cells, D.single] at h3)
        obtain ⟨_, g2, g3⟩ := RepV_cells hxr (not_tup h3)
        obtain ⟨p1, p2⟩ := RepL_put hs g2 hr g3 off
        have e1 := (RepL_single _ _ g2 g3).1
        have e2 := (RepL_single _ _ hs hr).1
        obtain ⟨us', q1, q2, q3⟩ := fill_run place parts ps xs _ cs' _ hp.2 hx.2 p2 p1 h
        refine ⟨us', ?_, q2, q3⟩
        simp only [Instr.fill, hp.1]
        have e3 : v.cells.size = n := by rw [← h1, ← e1]; simp
        rw [if_neg (by simp [e3]; omega)]
        have hk := fill_set v.cells.toList off 0 us (by rw [e1, h1]; omega)
        simp only [Nat.add_zero] at hk
        rw [← hk] at q1
        rw [← q1]
        congr 1
        rw [← Array.foldl_toList]
        simp
      · cases h

end
end Go.V
