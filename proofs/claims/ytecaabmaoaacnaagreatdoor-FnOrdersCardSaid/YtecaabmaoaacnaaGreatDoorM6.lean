/-
  The evaluator with recasts of single regions (VQ) whose last operation may be carried out with the slots' own kinds.
-/
import Derived.Test.YtecaabmaoaacnaaGreatDoorRows
import Derived.Test.YtecaabmaoaacnaaGreatDoorTie
import Derived.Test.YtecaabmaoaacnaaGreatDoorCards
import Derived.Test.YtecaabmaoaacnaaGreatDoorM5
namespace Go.V
open Go.RowKit
set_option linter.unusedSimpArgs false

/-- 1000000 at the head: the last operation by itself. -/
@[reducible] def splitM : List Nat → Option (List Nat)
  | [] => none
  | m :: l => match Nat.beq m 1000000 with
    | true => some l
    | false => none
@[reducible] noncomputable def denS (c : Cx) (Z : List (Nat × List Nat)) : Nat → Code → List D → (Out → Option Out) → Option Out
  | _, .skip, δ, k => k (.nrm δ)
  | _, .region id ops _, δ, k => match look Z id with
    | some fz => match splitM fz with
     | some fz => viaC c.K δ (depsAll c.K fz) fun l => setManyC δ (depsAll c.K fz) l fun δ' => runOps (rcx c fz) (initL ops.toList) (initL ops.toList) δ' fun δ2 => setManyC δ2 fz [] fun δ3 => setManyC δ3 (depsAll c.K fz) [] fun δ4 => runOps c ops.toList (lastL ops.toList) δ4 fun δ5 => k (.nrm δ5)
     | none => viaC c.K δ (depsAll c.K fz) fun l => setManyC δ (depsAll c.K fz) l fun δ' => runOps (rcx c fz) ops.toList ops.toList δ' fun δ2 => setManyC δ2 fz [] fun δ3 => setManyC δ3 (depsAll c.K fz) [] fun δ4 => k (.nrm δ4)
    | none => runOps c ops.toList ops.toList δ fun δ' => k (.nrm δ')
  | bid, .seq a b, δ, k => denS c Z bid a δ fun o => seqK o (fun δ' => denS c Z bid b δ' k) k
  | bid, .cond x t e, δ, k => opC δ x fun q => ifD q (denS c Z bid t δ k) (denS c Z bid e δ k)
  | _, .block id b, δ, k => denS c Z id b δ fun o => blkK id o k
  | bid, .loop b, δ, k => match look c.H bid with
    | none => none
    | some (hl, xl) =>
      getC δ hl fun s => (loopC (fun s => expandC (lenN c.K) hl s fun δ => denS c Z bid b δ (shrinkK hl xl)) s).bind fun o =>
        outK o (fun i s => expandC (lenN c.K) xl s fun δ => k (.ext i δ)) (fun a b => k (.ret a b))
  | _, .exit id, δ, k => k (.ext id δ)
  | _, .ret, δ, k => resC c δ c.res fun rs => getC δ c.ios fun us => usK us (k (.ret rs us))
  | _, _, _, _ => none
@[reducible] noncomputable def denFS (c : Cx) (Z : List (Nat × List Nat)) (fn : Func) (ds : List D) : Option Out :=
  match fn.body with
  | none => none
  | some b => denS c Z 0 b (padTo fn.ntmps ds) fun o => match o with
    | .nrm δ => resC c δ c.res fun rs => getC δ c.ios fun us => usK us (some (.ret rs us))
    | .ext _ _ => none
    | .ret rs us => some (.ret rs us)
def okCodeS (c : Cx) (Z : List (Nat × List Nat)) : Nat → Code → Bool
  | _, .skip => true
  | bid, .region id ops d => match look Z id with
    | some fz => match splitM fz with
      | some fz => okFz c fz && (d && splitOk ops.toList && okCode (rcx c fz) bid (.region id (initL ops.toList).toArray d) && (lastL ops.toList).all (okOp c ops.toList))
      | none => okFz c fz && okCode (rcx c fz) bid (.region id ops d)
    | none => okCode c bid (.region id ops d)
  | b, .seq x y => okCodeS c Z b x && okCodeS c Z b y
  | b, .cond x t e => Nat.ble (lvOf c.K x) 2 && okCodeS c Z b t && okCodeS c Z b e
  | _, .block id x => okCodeS c Z id x
  | b, .loop x => okCodeS c Z b x && (match look c.H b with
    | some (hl, xl) => okLive c.K hl && okLive c.K xl
    | none => false)
  | _, .exit _ => true
  | _, .ret => true
  | _, _ => false
def okFnS (c : Cx) (Z : List (Nat × List Nat)) (fn : Func) (pm rm : List Kd) : Bool :=
  (match fn.body with
    | some b => okCodeS c Z 0 b
    | none => false) && Nat.beq (lenN c.K) fn.ntmps && prefK pm c.K && okPm pm && okRes c c.res rm && decide (c.ios = ioIdx 0 pm)

section
variable {P : Program} {c : Cx} {B : Nat} {X : Nat → Prop} {w0 : World} {F0 F : Nat → Prop} {O : Nat → Option (Nat × Nat)} {a : Act} {w : World} {δ : List D} {fz : List Nat}

theorem loop_roundsS {V : Nat → Value} {b : Code} {bid : Nat} {Z : List (Nat × List Nat)} {hl xl : List Nat} (h1 : okLive c.K hl = true) (h2 : okLive c.K xl = true)
    (ih : ∀ (F : Nat → Prop) (O : Nat → Option (Nat × Nat)) (a : Act) (w : World) (δ : List D), Inv c B X w0 F0 F O a w δ → IoV c V a → ∀ (k : Out → Option Out) (r : Out), denS c Z bid b δ k = some r → ∀ Q, (∀ e a w, Post c B X w0 F0 V k r e a w → Q e a w) → b.wp P Q a w)
    {k : Out → Option Out} {r : Out} {Q : Exit → Act → World → Prop} (hQ : ∀ e a w, Post c B X w0 F0 V k r e a w → Q e a w) {o : Out}
    (ho : outK o (fun i s => expandC (lenN c.K) xl s fun δ => k (.ext i δ)) (fun x y => k (.ret x y)) = some r) : ∀ (n : Nat) (F : Nat → Prop) (O : Nat → Option (Nat × Nat)) (a : Act) (w : World) (δ : List D), Inv c B X w0 F0 F O a w δ → IoV c V a →
    iter (fun s => expandC (lenN c.K) hl s fun δ => denS c Z bid b δ (shrinkK hl xl)) n (getAll δ hl) = some o → Code.rounds P b Q n a w
  | 0, _, _, _, _, _, _, _, h => by cases h
  | n + 1, F, O, a, w, δ, hI, hV, h => by
    simp only [iter, expandC_eq] at h
    rw [rounds_succ]
    have hI' := hI.carry h1
    cases hb : denS c Z bid b (carry (lenN c.K) hl δ) (shrinkK hl xl) with
    | none => rw [hb] at h; cases h
    | some ob =>
      rw [hb] at h
      refine ih F O a w _ hI' hV _ ob hb _ (fun e a' w' hp => ?_)
      cases ob with
      | nrm s' =>
        simp only at h
        cases e with
        | normal =>
          obtain ⟨⟨F', O', δ', g1, g2⟩, g3⟩ := hp
          simp only [shrinkK, getC_eq, Option.some.injEq, Out.nrm.injEq] at g2
          rw [← g2] at h
          exact loop_roundsS h1 h2 ih hQ ho n F' O' a' w' δ' g1 g3 h
        | exit i =>
          obtain ⟨⟨F', O', δ', g1, g2⟩, g3⟩ := hp
          simp [shrinkK, getC_eq] at g2
        | ret =>
          obtain ⟨⟨F', O', δ', g1, g2⟩, g3⟩ := hp
          obtain ⟨rs, _, _, g4⟩ := retK_is g2
          simp [shrinkK] at g4
        | _ => exact hp.elim
      | ext i l =>
        simp only [Option.some.injEq] at h
        subst h
        cases e with
        | normal =>
          obtain ⟨⟨F', O', δ', g1, g2⟩, g3⟩ := hp
          simp [shrinkK, getC_eq] at g2
        | exit j =>
          obtain ⟨⟨F', O', δ', g1, g2⟩, g3⟩ := hp
          simp only [shrinkK, getC_eq, Option.some.injEq, Out.ext.injEq] at g2
          obtain ⟨rfl, rfl⟩ := g2
          simp only [outK, expandC_eq] at ho
          exact hQ (.exit j) _ _ ⟨⟨F', O', _, g1.carry h2, ho⟩, g3⟩
        | ret =>
          obtain ⟨⟨F', O', δ', g1, g2⟩, g3⟩ := hp
          obtain ⟨rs, _, _, g4⟩ := retK_is g2
          simp [shrinkK] at g4
        | _ => exact hp.elim
      | ret x y =>
        simp only [Option.some.injEq] at h
        subst h
        cases e with
        | normal =>
          obtain ⟨⟨F', O', δ', g1, g2⟩, g3⟩ := hp
          simp [shrinkK, getC_eq] at g2
        | exit j =>
          obtain ⟨⟨F', O', δ', g1, g2⟩, g3⟩ := hp
          simp [shrinkK, getC_eq] at g2
        | ret =>
          obtain ⟨⟨F', O', δ', g1, g2⟩, g3⟩ := hp
          obtain ⟨rs, g5, g6, g4⟩ := retK_is g2
          simp only [shrinkK, Option.some.injEq, Out.ret.injEq] at g4
          obtain ⟨rfl, rfl⟩ := g4
          exact hQ .ret _ _ ⟨⟨F', O', δ', g1, retK_of g5 g6 ho⟩, g3⟩
        | _ => exact hp.elim

theorem denS_sound (hT : okT P c.T = true) (hS : ∀ f S, look c.S f = some S → Meets c.G P f S) (hm : P.follows .mixedOrders = true) {V : Nat → Value} {Z : List (Nat × List Nat)} : ∀ (b : Code) (bid : Nat), okCodeS c Z bid b = true → ∀ (F : Nat → Prop) (O : Nat → Option (Nat × Nat)) (a : Act) (w : World) (δ : List D),
    Inv c B X w0 F0 F O a w δ → IoV c V a → ∀ (k : Out → Option Out) (r : Out), denS c Z bid b δ k = some r → ∀ Q, (∀ e a w, Post c B X w0 F0 V k r e a w → Q e a w) → b.wp P Q a w
  | .skip, bid, _, F, O, a, w, δ, hI, hV, k, r, hg, Q, hQ => wp_skip (hQ _ _ _ ⟨⟨F, O, δ, hI, hg⟩, hV⟩)
  | .region id ops d, bid, hok, F, O, a, w, δ, hI, hV, k, r, hg, Q, hQ => by
    simp only [okCodeS] at hok
    simp only [denS] at hg
    cases hH : look Z id with
    | none =>
      rw [hH] at hok hg
      exact den_sound hT hS hm (.region id ops d) bid hok F O a w δ hI hV k r hg Q hQ
    | some fz =>
      rw [hH] at hok hg
      simp only at hok hg
      cases hM : splitM fz with
      | none =>
        rw [hM] at hok hg
        simp only [Bool.and_eq_true] at hok
        simp only [viaC_eq, setManyC_eq, setMany_two] at hg
        obtain ⟨F2, O2, hI2⟩ := hI.recast hok.1
        refine den_sound (c := rcx c fz) hT hS hm (.region id ops d) bid hok.2 F2 O2 a w _ hI2 (fun s hs => hV s (by rw [← frz_io (fz := fz)]; exact hs)) (unK c fz k) r hg Q (fun e a w hp => ?_)
        cases e with
        | normal =>
          obtain ⟨⟨F', O', δ', hI', hk'⟩, hV'⟩ := hp
          exact hQ .normal _ _ ⟨⟨F', O', _, hI'.uncast, hk'⟩, fun s hs => hV' s (by rw [frz_io]; exact hs)⟩
        | exit i => obtain ⟨⟨_, _, _, _, h⟩, _⟩ := hp; cases h
        | ret =>
          obtain ⟨⟨_, _, _, _, h⟩, _⟩ := hp
          obtain ⟨rs, h1, h2, h3⟩ := retK_is h
          cases h3
        | _ => exact hp.elim
      | some fy =>
        rw [hM] at hok hg
        simp only [Bool.and_eq_true] at hok
        obtain ⟨hz, ⟨⟨hd, hsp⟩, hci⟩, hlo⟩ := hok
        subst hd
        simp only [viaC_eq, setManyC_eq, setMany_two] at hg
        obtain ⟨F2, O2, hI2⟩ := hI.recast hz
        have hne : ops.toList ≠ [] := fun e => by rw [e] at hsp; simp [splitOk, lastL] at hsp
        obtain ⟨o, ho, hops⟩ := init_last ops.toList hne
        unfold splitOk at hsp
        rw [ho] at hsp
        simp only [Bool.and_eq_true] at hsp
        obtain ⟨⟨⟨p1, p2⟩, p3⟩, p4⟩ := hsp
        rw [List.all_eq_true] at p2 p3 p4
        have hng : o.guard = none := by
          cases hgq : o.guard with
          | none => rfl
          | some jp => rw [hgq] at p1; cases p1
        have hsz : (initL ops.toList).toArray.size = (initL ops.toList).length := by simp
        have hopsA : ops = (initL ops.toList).toArray.push o := by
          apply Array.ext'
          simpa using hops
        simp only [okCode, Bool.and_eq_true, List.all_eq_true, Bool.or_eq_true, Bool.not_true, Bool.false_eq_true, false_or] at hci
        rw [ho] at hlo hg
        simp only [List.all_cons, List.all_nil, Bool.and_true] at hlo
        have hzip : ∀ (i : Nat) (q : Oper), (initL ops.toList).toArray[i]? = some q → (q, i) ∈ (initL ops.toList).zipIdx := fun i q hq => by
          rw [List.mem_zipIdx_iff_getElem?]
          simpa using hq
        refine wp_region_any hm ?_
        have hA := any_soundA (c := rcx c fy) (B := B) (X := X) (w0 := w0) (F0 := F0) (P := P) (V := V) (ops := (initL ops.toList).toArray) (Q := fun e a w => e = .normal ∧ o.wp P a w (fun a w => Q .normal a w) Q) (r := r)
          (k := fun δ2 => runOps c ops.toList [o] (setMany δ2 (fy ++ depsAll c.K fy) []) fun δ5 => k (.nrm δ5)) hT hS (by simpa using hci.2) (fun a w hn => ⟨rfl, ?_⟩) (by simpa using hci.1) hI2 (fun s hs => hV s (by rw [← frz_io (fz := fy)]; exact hs)) (by simpa using hg)
        · have hB := wpAny_push (P := P) (Q := Q) (o := o) (init := (initL ops.toList).toArray) (Wl := fun a w => o.wp P a w (fun a w => Q .normal a w) Q) (fun i hi => ?_) (fun e he => ?_) (fun i q hq e he hb => ?_) (fun i q hq j p hgq => ?_) hng (fun _ _ h => h) _ _ a _ (by simp) hA
          · have e1 : ops.size = (initL ops.toList).toArray.size + 1 := by
              conv => lhs; rw [hopsA]
              simp
            have e2 : (Array.replicate ops.size false) = (Array.replicate (initL ops.toList).toArray.size false).push false := by
              rw [e1]
              apply Array.ext'
              simp [List.replicate_succ']
            rw [e2, e1]
            conv => enter [3]; rw [hopsA]
            exact hB
          · have h := p2 i (List.mem_range.2 (by simpa using hi))
            rw [List.any_eq_true] at h
            obtain ⟨e, he, h⟩ := h
            simp only [Bool.and_eq_true, beq_iff_eq] at h
            exact ⟨e, by simpa using he, h.1, h.2⟩
          · have h := p3 e (by simpa using he)
            rw [hsz]
            simpa using h
          · have h := p4 _ (hzip i q hq)
            simp only [Bool.and_eq_true, List.all_eq_true, Bool.or_eq_true, Bool.not_eq_true', decide_eq_true_eq] at h
            exact (h.1 e (by simpa using he)).resolve_left (by rw [hb]; simp)
          · have h := p4 _ (hzip i q hq)
            simp only [Bool.and_eq_true] at h
            have h2 := h.2
            rw [hgq] at h2
            rw [hsz]
            simpa using h2
        · obtain ⟨⟨F', O', δ', hI', hk'⟩, hV'⟩ := hn
          have hst := step_sound (ops := ops) hT hS hlo (hI'.uncast) (fun s hs => hV' s (by rw [frz_io]; exact hs)) (k := fun δ5 => k (.nrm δ5)) (r := r) hk' Q
          have hw1 : Region.wanted o (yielded ops a.tmps) = true := by
            unfold Region.wanted
            rw [hng]
          rw [if_pos hw1] at hst
          exact wp_weak (fun a w hh => hQ .normal _ _ hh) (fun _ _ _ _ h => h) hst
  | .seq x y, bid, hok, F, O, a, w, δ, hI, hV, k, r, hg, Q, hQ => by
    simp only [okCodeS, Bool.and_eq_true] at hok
    refine wp_seq (denS_sound hT hS hm x bid hok.1 F O a w δ hI hV _ r hg _ (fun e a' w' hp => ?_))
    cases e with
    | normal =>
      obtain ⟨⟨F', O', δ', hI', hk'⟩, hV'⟩ := hp
      exact denS_sound hT hS hm y bid hok.2 F' O' a' w' δ' hI' hV' k r hk' Q hQ
    | exit id => exact hQ _ _ _ hp
    | ret => exact hQ _ _ _ hp
    | _ => exact hp.elim
  | .cond x t e, bid, hok, F, O, a, w, δ, hI, hV, k, r, hg, Q, hQ => by
    simp only [okCodeS, Bool.and_eq_true] at hok
    obtain ⟨⟨hlv, hok1⟩, hok2⟩ := hok
    have hop := hI.opd (ble_iff.1 hlv)
    have key : ifD (opD δ x) (denS c Z bid t δ k) (denS c Z bid e δ k) = some r := by
      simp only [denS] at hg
      cases x with
      | tmp s => simpa only [opC, nthC_eq, opD] using hg
      | const v => simpa only [opC, opD] using hg
      | func f => simpa only [opC, opD] using hg
      | global g => simp [opC] at hg
    unfold ifD at key
    split at key
    · rename_i hd
      rw [hd] at hop
      exact wp_cond_true (RepB_v hop).1 (denS_sound hT hS hm t bid hok1 F O a w δ hI hV k r key Q hQ)
    · rename_i hd
      rw [hd] at hop
      exact wp_cond_false (RepB_v hop).1 (denS_sound hT hS hm e bid hok2 F O a w δ hI hV k r key Q hQ)
    · cases key
  | .block id b, bid, hok, F, O, a, w, δ, hI, hV, k, r, hg, Q, hQ => by
    simp only [okCodeS] at hok
    refine wp_block (denS_sound hT hS hm b id hok F O a w δ hI hV _ r hg _ (fun e a' w' hp => ?_))
    cases e with
    | normal => exact hQ .normal _ _ hp
    | exit i =>
      simp only [Exit.inBlock]
      have hp' : NextV c B X w0 F0 V (fun δ => blkK id (.ext i δ) k) r a' w' := hp
      split
      · rename_i hi
        refine hQ .normal _ _ (NextV_mono hp' fun δ F O _ h => ?_)
        simp only [blkK] at h
        rw [beq_iff.2 (by simpa using hi)] at h
        exact h
      · rename_i hi
        refine hQ (.exit i) _ _ (NextV_mono hp' fun δ F O _ h => ?_)
        simp only [blkK] at h
        cases hb : Nat.beq i id
        · rw [hb] at h; exact h
        · exact absurd (by simpa using beq_iff.1 hb) hi
    | ret => exact hQ .ret _ _ hp
    | _ => exact hp.elim
  | .loop b, bid, hok, F, O, a, w, δ, hI, hV, k, r, hg, Q, hQ => by
    simp only [okCodeS, Bool.and_eq_true] at hok
    obtain ⟨hok1, hok2⟩ := hok
    simp only [denS] at hg
    cases hH : look c.H bid with
    | none => rw [hH] at hg; cases hg
    | some hx =>
      obtain ⟨hl, xl⟩ := hx
      rw [hH] at hg hok2
      simp only [Bool.and_eq_true] at hok2
      simp only [getC_eq] at hg
      obtain ⟨o', h1, h2⟩ := Option.bind_eq_some_iff.1 hg
      unfold loopC at h1
      split at h1
      case isFalse => cases h1
      rename_i hex
      refine wp_loop_rounds (Classical.choose hex) ?_
      refine loop_roundsS (hl := hl) (xl := xl) hok2.1 hok2.2 (fun F O a w δ hI hV k r hg Q hQ => denS_sound hT hS hm b bid hok1 F O a w δ hI hV k r hg Q hQ) hQ h2 _ F O a w δ hI hV h1
  | .exit id, bid, _, F, O, a, w, δ, hI, hV, k, r, hg, Q, hQ => wp_exit (hQ _ _ _ ⟨⟨F, O, δ, hI, hg⟩, hV⟩)
  | .ret, bid, _, F, O, a, w, δ, hI, hV, k, r, hg, Q, hQ => wp_ret (hQ _ _ _ ⟨⟨F, O, δ, hI, hg⟩, hV⟩)
  | .label _, _, hok, _, _, _, _, _, _, _, _, _, _, _, _ => by simp [okCodeS] at hok
  | .goto _, _, hok, _, _, _, _, _, _, _, _, _, _, _, _ => by simp [okCodeS] at hok
  | .scope _, _, hok, _, _, _, _, _, _, _, _, _, _, _, _ => by simp [okCodeS] at hok

theorem fn_callsS (hT : okT P c.T = true) (hS : ∀ f S, look c.S f = some S → Meets c.G P f S) (hm : P.follows .mixedOrders = true) {Z : List (Nat × List Nat)} {f : FuncId} {fn : Func} (hf : P.funcs[f]? = some fn) {pm rm : List Kd} (hok : okFnS c Z fn pm rm = true) (hres : c.res = fn.results.toList)
    {ds rs us : List D} (hd : denFS c Z fn ds = some (.ret rs us)) {args : Array Value} {w : World} {F : Nat → Prop} {ow : Nat → Option Nat} (hgl : gOk c.G w F) (ha : ArgsOk w F ow 0 pm ds args.toList) (hF : ∀ b, F b → b < w.heap.size ∧ ow b = none) (hO : ∀ b i, ow b = some i → b < w.heap.size) :
    Calls P f args w fun e w' => ∃ v, e = .returned v ∧ ∃ F' R' vs, v = resV vs ∧ CallPost { pm := pm, rm := rm, f := denFS c Z fn } args rs us w F ow F' R' vs w' := by
  unfold okFnS at hok
  simp only [Bool.and_eq_true, decide_eq_true_eq] at hok
  obtain ⟨⟨⟨⟨⟨hcode, hlenK⟩, hpre⟩, hpm⟩, hokr⟩, hios⟩ := hok
  rw [beq_iff, lenN_eq] at hlenK
  obtain ⟨hpl, hpn⟩ := prefK_nth hpre
  obtain ⟨hdl, hal, hargs⟩ := ArgsOk_at pm ds args.toList 0 ha
  have hasz : args.size = pm.length := by simpa using hal
  unfold denFS at hd
  cases hb : fn.body with
  | none => rw [hb] at hd; cases hd
  | some b =>
    rw [hb] at hd hcode
    simp only at hd hcode
    refine calls_of_wp hf hb ?_
    have hav : ∀ s, s < pm.length → av ({ tmps := args ++ Array.replicate (fn.ntmps - args.size) undef, defers := [] } : Act) s = args.toList.getD s undef := fun s hs => by
      have h1 : s < args.size := by omega
      simp only [av, Array.getD_eq_getD_getElem?, List.getD_eq_getElem?_getD, Array.getElem?_toList]
      rw [Array.getElem?_append_left h1]
    have hinit : Inv c w.heap.size (fun b => ow b ≠ none) w F F (fun b => (ow b).map fun i => (i, 0)) { tmps := args ++ Array.replicate (fn.ntmps - args.size) undef, defers := [] } w (padTo fn.ntmps ds) := by
      refine ⟨by simp; omega, by rw [padTo_len, hlenK], rfl, fun s => ?_, fun b hb => ⟨(hF b hb).1, by simp [(hF b hb).2]⟩, fun b p hp => ?_, fun _ h => h, fun _ h => .inl h, Nat.le_refl _, rfl, rfl, rfl, fun _ _ _ => rfl, hgl⟩
      · unfold SlotOk
        rw [padTo_nth _ _ _ (by rw [hdl]; omega)]
        by_cases hs : s < pm.length
        · rw [hpn s hs, hav s hs]
          rcases hargs s hs with hbad | harg
          · exact .inl hbad
          refine .inr ?_
          have hlv : ∀ lv, lv ≠ 1 → ∀ b, FB F 0 lv b → FB F w.heap.size lv b := fun lv h1 b hb => by
            match lv, h1 with
            | 0, _ => exact hb
            | _ + 2, _ => exact hb
          rcases okPm_at hpm s hs with ⟨lv, hk, h1⟩ | ⟨z, lv, hk, h1⟩ | ⟨n, lv, hk, h1⟩
          · rw [hk] at harg ⊢
            exact .inr (RepV_mono (hlv lv h1) (fun _ _ => rfl) harg)
          · rw [hk] at harg ⊢
            exact .inr (OwnV_mono' (hlv lv h1) (fun _ _ => rfl) (fun g _ hg => ⟨⟨by simp only [Nat.zero_add] at hg; simp [hg], fun h => by cases h⟩, rfl⟩) harg)
          · rw [hk] at harg ⊢
            exact .inr (BoxV_mono' (hlv lv h1) (fun _ _ => rfl) (fun g _ hg => ⟨⟨by simp only [Nat.zero_add] at hg; simp [hg], fun h => by cases h⟩, rfl⟩) harg)
        · refine .inl ?_
          rw [nth_eq, List.getD_eq_getElem?_getD, List.getElem?_eq_none (by omega)]
          rfl
      · obtain ⟨i, hi, rfl⟩ := Option.map_eq_some_iff.1 hp
        exact ⟨hO b i hi, .inr (by rw [hi]; simp)⟩
    refine denS_sound hT hS hm b 0 hcode F _ _ w _ hinit (V := av { tmps := args ++ Array.replicate (fn.ntmps - args.size) undef, defers := [] }) (fun _ _ => rfl) _ _ hd _ (fun e a' w' hp => ?_)
    have fin : NextV c w.heap.size (fun b => ow b ≠ none) w F (av { tmps := args ++ Array.replicate (fn.ntmps - args.size) undef, defers := [] }) (fun δ => retK c δ some) (.ret rs us) a' w' → a'.defers = [] ∧ ∃ v, (results fn a'.tmps).run P w' = .ok v w' ∧ ∃ v', Ending.returned v = .returned v' ∧ ∃ F' R' vs, v' = resV vs ∧ CallPost { pm := pm, rm := rm, f := denFS c Z fn } args rs us w F ow F' R' vs w' := by
      rintro ⟨⟨F', O', δ', hI', hk⟩, hV'⟩
      obtain ⟨rs', h1, h2, h3⟩ := retK_is hk
      simp only [Option.some.injEq, Out.ret.injEq] at h3
      obtain ⟨rfl, rfl⟩ := h3
      obtain ⟨vs, g1, g2, g3, g4⟩ := res_run (P := P) hT hI' c.res rm rs' hokr h1
      refine ⟨hI'.df, resV vs, ?_, _, rfl, F', fun b => if w.heap.size ≤ b then (match O' b with
        | some (t, 0) => resIx c.res t 0
        | _ => none) else none, vs, rfl, ?_⟩
      · have hrun : (fn.results.mapM (getRes a'.tmps)).run P w' = .ok vs.toArray w' := by
          rw [Array.mapM_eq_mapM_toList, ← hres]
          simp [g1]
        have hrw : results fn a'.tmps = (do
            let vs ← fn.results.mapM (getRes a'.tmps)
            pure (if h : vs.size = 1 then vs[0] else .tuple vs)) := by
          unfold results
          congr 1
        rw [hrw]
        simp only [Sem.run_bind, hrun, Result.andThen_ok, Sem.run_pure]
        congr 1
        rcases vs with _ | ⟨y, _ | ⟨y', vs⟩⟩
        · simp [resV]
        · simp [resV]
        · simp [resV]
      · refine ⟨hI'.os, hI'.tape, hI'.output, hI'.bb, fun b hb ho => hI'.keep b hb (by simp [ho]), hI'.f0, fun b hb => ⟨hI'.fn b hb, (hI'.fl b hb).1, by simp only [(hI'.fl b hb).2]; split <;> rfl⟩, fun b j hj => ?_, g2, g3, fun j => ?_, ?_⟩
        · split at hj
          case isFalse => cases hj
          rename_i hB
          refine ⟨hB, ?_⟩
          split at hj
          · rename_i t he; exact (hI'.ol b _ he).1
          · cases hj
        · refine ResOk_mono (fun hk g hg => ?_) (g4 j)
          obtain ⟨z, lv, hk⟩ := hk
          obtain ⟨e1, t, e2, e3⟩ := hg
          rw [if_pos e1]
          simp only [e3]
          have := (resIx_own c.res rm hokr j t 0 z lv hk e2).1
          simpa using this
        · rw [hios]
          refine UsOk_of pm args.toList 0 hal (fun j hj hio => ?_)
          rw [Nat.zero_add]
          have hkj := hpn j hj
          have hbj : nth δ' j ≠ .bad := by
            refine h2 _ ?_
            rw [hios, getAll_map]
            exact List.mem_map_of_mem (by simpa using ioIdx_mem pm 0 j hj hio)
          have havj : av a' j = args.toList.getD j undef := (hV' j (by rw [hkj]; exact hio)).trans (hav j hj)
          have hlv : ∀ lv, lv ≠ 1 → ∀ b, FB F' w.heap.size lv b → FB F' 0 lv b := fun lv h1 b hb => by
            match lv, h1 with
            | 0, _ => exact hb
            | _ + 2, _ => exact hb
          refine ⟨hbj, .inr ?_⟩
          rcases okPm_at hpm j hj with ⟨lv, hk, h1⟩ | ⟨z, lv, hk, h1⟩ | ⟨n, lv, hk, h1⟩
          · rw [hk] at hio; cases hio
          · have h5 := hI'.own (hkj.trans hk) hbj
            rw [havj] at h5
            rw [hk]
            exact OwnV_mono' (hlv lv h1) (fun _ _ => rfl) (fun _ _ _ => ⟨trivial, rfl⟩) h5
          · have h5 := hI'.box (hkj.trans hk) hbj
            rw [havj] at h5
            rw [hk]
            exact BoxV_mono' (hlv lv h1) (fun _ _ => rfl) (fun _ _ _ => ⟨trivial, rfl⟩) h5
    cases e with
    | normal => exact fin hp
    | exit i =>
      obtain ⟨⟨_, _, _, _, h⟩, _⟩ := hp
      cases h
    | ret =>
      refine fin (NextV_mono hp fun δ F O _ h => ?_)
      obtain ⟨rs', h1, h2, h3⟩ := retK_is h
      exact retK_of h1 h2 h3
    | _ => exact hp.elim

theorem meets_ofS (hT : okT P c.T = true) (hS : ∀ f S, look c.S f = some S → Meets c.G P f S) (hm : P.follows .mixedOrders = true) {Z : List (Nat × List Nat)} {f : FuncId} {fn : Func} (hf : P.funcs[f]? = some fn) (hname : (fn.name == "runtime.NumGoroutine") = false) {pm rm : List Kd} (hok : okFnS c Z fn pm rm = true) (hres : c.res = fn.results.toList) :
    Meets c.G P f { pm := pm, rm := rm, f := denFS c Z fn } := by
  intro ds rs us hd args w F ow hgl ha hF hO o a next Q hn
  have hbody : ∃ b, fn.body = some b := by
    have hd' : denFS c Z fn ds = some (.ret rs us) := hd
    unfold denFS at hd'
    cases hb : fn.body with
    | none => rw [hb] at hd'; cases hd'
    | some b => exact ⟨b, rfl⟩
  obtain ⟨b, hb⟩ := hbody
  have hrun : (callFunc f args).run P w = .ok (.enter f args) w := by
    have h1 : ¬ fn.name = "runtime.NumGoroutine" := by simpa using hname
    simp [callFunc, hf, h1, hb]
  rw [hrun, Oper.upon_enter]
  refine Calls.mono (fn_callsS hT hS hm hf hok hres hd hgl ha hF hO) (fun e w' he => ?_)
  obtain ⟨v, rfl, F', R', vs, h1, h2⟩ := he
  exact hn v w' ⟨F', R', vs, h1, h2⟩


end
end Go.V
/-
  Contexts and contracts of functions, printed by gen.py.
-/
namespace Go.Proofs.YtecaabmaoaacnaaGreatDoor
open Go.V
set_option maxRecDepth 100000
@[reducible] def ty5 : TI := { n := 1, zero := [.v (.int .u8 0)], ik := some .u8 }
@[reducible] def ty9 : TI := { n := 1, zero := [.v (.string ⟨#[]⟩)], str := true }
@[reducible] def ty22 : TI := { n := 1, zero := [.arr 1 []], elem := 5, ez := 1, eb := 1 }
@[reducible] def ty23 : TI := { n := 1, zero := [.arr 4 []], elem := 36, ez := 4, eb := 32 }
@[reducible] def ty24 : TI := { n := 1, zero := [.arr 1 []], elem := 3, ez := 1, eb := 8 }
@[reducible] def ty36 : TI := { agg := true, n := 4, zero := [.v (.int .i64 0), .v (.int .i64 0), .v (.int .i64 0), .v (.int .i64 0)], fs := [(0, 3), (1, 3), (2, 3), (3, 3)], eq := [1, 1, 1, 1] }
@[reducible] def ty45 : TI := { n := 1, zero := [.v (.int .u64 0)], ik := some .u64 }
@[reducible] def ty47 : TI := { agg := true, n := 3, zero := [.arr 1 [], .v (.int .i64 0), .v (.int .u64 0)], fs := [(0, 22), (1, 3), (2, 45)] }
@[reducible] def ty64 : TI := { n := 1, zero := [.arr 1 []], elem := 9, ez := 1, eb := 16 }
@[reducible] def ty79 : TI := { n := 1, zero := [.v .nilIface], ifc := true }
/-- loop.example/g01054/spec.l1In -/
@[reducible] noncomputable def c_spec_l1In : Cx := { K := [.dat 0, .dat 0, .dat 0, .no, .no, .no, .dat 0, .dat 0, .dat 0, .dat 0, .dat 0, .dat 0, .dat 0, .dat 0, .dat 0], T := [(3, ty3)], S := [], H := [], res := [.tmp 6], ios := [], G := gl0 }
noncomputable def F_spec_l1In : List D → Option Out := denF c_spec_l1In Tryz.f44
@[reducible] noncomputable def S_spec_l1In : FS := { pm := [.dat 0, .dat 0, .dat 0], rm := [.dat 0], f := F_spec_l1In }
theorem M_spec_l1In : Meets gl0 Tryz.prog 44 S_spec_l1In := meets_of (P := Tryz.prog) (c := c_spec_l1In) (fn := Tryz.f44) (pm := S_spec_l1In.pm) (rm := S_spec_l1In.rm) (by kernel_rfl) lookNil follows_mixed Tryz.func44 (by kernel_rfl) (by kernel_rfl) rfl
/-- loop.example/g01054/spec.orOne -/
@[reducible] noncomputable def c_spec_orOne : Cx := { K := [.dat 0, .box 4 0 false, .dat 0, .ref 1, .dat 0, .dat 0, .dat 0, .ref 1, .dat 0, .dat 0, .dat 0, .dat 0, .ref 1, .dat 0, .dat 0, .dat 0, .dat 0, .ref 1, .dat 0, .dat 0, .dat 0], T := [(3, ty3), (36, ty36)], S := [(44, S_spec_l1In)], H := [], res := [.tmp 2], ios := [], G := gl0 }
noncomputable def F_spec_orOne : List D → Option Out := denF c_spec_orOne Tryz.f35
@[reducible] noncomputable def S_spec_orOne : FS := { pm := [.dat 0], rm := [.dat 0], f := F_spec_orOne }
theorem M_spec_orOne : Meets gl0 Tryz.prog 35 S_spec_orOne := meets_of (P := Tryz.prog) (c := c_spec_orOne) (fn := Tryz.f35) (pm := S_spec_orOne.pm) (rm := S_spec_orOne.rm) (by kernel_rfl) (lookCons M_spec_l1In lookNil) follows_mixed Tryz.func35 (by kernel_rfl) (by kernel_rfl) rfl
/-- loop.example/g01054/spec.orGood -/
@[reducible] noncomputable def c_spec_orGood : Cx := { K := [.dat 2, .no, .dat 0, .dat 0, .box 4 0 false, .dat 2, .dat 0, .dat 0, .dat 0, .dat 0, .dat 2, .dat 0, .dat 0, .dat 0, .dat 0, .dat 0, .dat 0, .dat 0, .dat 0, .dat 2, .dat 0, .dat 0, .dat 2, .dat 2, .dat 0, .ref 4, .dat 0, .dat 0, .dat 0, .dat 0, .dat 0, .dat 2, .dat 0, .dat 0], T := [(3, ty3), (23, ty23), (36, ty36)], S := [(35, S_spec_orOne)], H := [(0, ([0, 5, 6, 7], [0]))], res := [.tmp 2], ios := [], G := gl0 }
noncomputable def F_spec_orGood : List D → Option Out := denF c_spec_orGood Tryz.f28
@[reducible] noncomputable def S_spec_orGood : FS := { pm := [.dat 2], rm := [.dat 0], f := F_spec_orGood }
theorem M_spec_orGood : Meets gl0 Tryz.prog 28 S_spec_orGood := meets_of (P := Tryz.prog) (c := c_spec_orGood) (fn := Tryz.f28) (pm := S_spec_orGood.pm) (rm := S_spec_orGood.rm) (by kernel_rfl) (lookCons M_spec_orOne lookNil) follows_mixed Tryz.func28 (by kernel_rfl) (by kernel_rfl) rfl
/-- loop.example/g01054/spec.l1Has -/
@[reducible] noncomputable def c_spec_l1Has : Cx := { K := [.dat 2, .dat 0, .no, .no, .dat 0, .no, .dat 0, .dat 2, .dat 0, .dat 0, .dat 0, .dat 2, .dat 0, .dat 0, .dat 0, .dat 0, .dat 0], T := [(3, ty3), (24, ty24)], S := [], H := [(0, ([1, 7, 8, 9], []))], res := [.tmp 4], ios := [], G := gl0 }
noncomputable def F_spec_l1Has : List D → Option Out := denF c_spec_l1Has Tryz.f45
@[reducible] noncomputable def S_spec_l1Has : FS := { pm := [.dat 2, .dat 0], rm := [.dat 0], f := F_spec_l1Has }
theorem M_spec_l1Has : Meets gl0 Tryz.prog 45 S_spec_l1Has := meets_of (P := Tryz.prog) (c := c_spec_l1Has) (fn := Tryz.f45) (pm := S_spec_l1Has.pm) (rm := S_spec_l1Has.rm) (by kernel_rfl) lookNil follows_mixed Tryz.func45 (by kernel_rfl) (by kernel_rfl) rfl
/-- loop.example/g01054/spec.orAsked -/
@[reducible] noncomputable def c_spec_orAsked : Cx := { K := [.dat 2, .dat 2, .no, .no, .dat 0, .dat 0, .dat 0, .dat 2, .dat 0, .dat 0, .dat 0, .dat 2, .dat 0, .dat 2, .dat 0, .dat 0, .dat 0, .dat 2, .dat 0, .dat 0, .dat 0, .dat 0, .dat 2, .dat 0, .dat 0, .dat 2, .dat 0, .dat 0, .dat 0, .dat 0, .dat 0, .dat 2, .dat 0, .dat 2, .dat 0, .dat 0, .dat 0, .dat 0], T := [(3, ty3), (23, ty23), (24, ty24), (36, ty36)], S := [(28, S_spec_orGood), (44, S_spec_l1In), (45, S_spec_l1Has)], H := [(0, ([0, 1, 17, 18, 19], []))], res := [.tmp 4], ios := [], G := gl0 }
noncomputable def F_spec_orAsked : List D → Option Out := denF c_spec_orAsked Tryz.f23
@[reducible] noncomputable def S_spec_orAsked : FS := { pm := [.dat 2, .dat 2], rm := [.dat 0], f := F_spec_orAsked }
theorem M_spec_orAsked : Meets gl0 Tryz.prog 23 S_spec_orAsked := meets_of (P := Tryz.prog) (c := c_spec_orAsked) (fn := Tryz.f23) (pm := S_spec_orAsked.pm) (rm := S_spec_orAsked.rm) (by kernel_rfl) (lookCons M_spec_orGood (lookCons M_spec_l1In (lookCons M_spec_l1Has lookNil))) follows_mixed Tryz.func23 (by kernel_rfl) (by kernel_rfl) rfl
/-- loop.example/g01054/spec.l1Most -/
@[reducible] noncomputable def c_spec_l1Most : Cx := { K := [.dat 0, .dat 0, .no, .no, .dat 0, .dat 0, .dat 0, .dat 0, .dat 0, .dat 0], T := [(3, ty3)], S := [], H := [], res := [.tmp 4], ios := [], G := gl0 }
noncomputable def F_spec_l1Most : List D → Option Out := denF c_spec_l1Most Tryz.f46
@[reducible] noncomputable def S_spec_l1Most : FS := { pm := [.dat 0, .dat 0], rm := [.dat 0], f := F_spec_l1Most }
theorem M_spec_l1Most : Meets gl0 Tryz.prog 46 S_spec_l1Most := meets_of (P := Tryz.prog) (c := c_spec_l1Most) (fn := Tryz.f46) (pm := S_spec_l1Most.pm) (rm := S_spec_l1Most.rm) (by kernel_rfl) lookNil follows_mixed Tryz.func46 (by kernel_rfl) (by kernel_rfl) rfl
/-- loop.example/g01054/spec.orTimes -/
@[reducible] noncomputable def c_spec_orTimes : Cx := { K := [.dat 2, .dat 2, .no, .no, .own 1 0 false, .dat 0, .own 1 0 false, .dat 0, .dat 0, .dat 0, .no, .dat 0, .dat 2, .dat 0, .dat 0, .dat 0, .dat 2, .dat 0, .dat 0, .dat 2, .dat 0, .dat 2, .dat 2, .dat 0, .dat 0, .dat 0, .dat 0, .dat 0, .dat 0, .dat 0, .dat 0, .dat 0, .dat 0, .dat 0, .dat 2, .dat 0, .dat 2, .dat 2, .dat 0, .dat 0, .own 1 0 false, .dat 0, .dat 1, .own 1 0 false, .dat 0, .own 1 0 false, .dat 0], T := [(3, ty3), (23, ty23), (24, ty24), (36, ty36)], S := [(46, S_spec_l1Most)], H := [(0, ([0, 6, 7, 8, 9, 12, 13, 14], [6, 9]))], res := [.tmp 4, .tmp 5], ios := [], G := gl0 }
noncomputable def F_spec_orTimes : List D → Option Out := denF c_spec_orTimes Tryz.f24
@[reducible] noncomputable def S_spec_orTimes : FS := { pm := [.dat 2, .dat 2], rm := [.own 1 0 false, .dat 0], f := F_spec_orTimes }
theorem M_spec_orTimes : Meets gl0 Tryz.prog 24 S_spec_orTimes := meets_of (P := Tryz.prog) (c := c_spec_orTimes) (fn := Tryz.f24) (pm := S_spec_orTimes.pm) (rm := S_spec_orTimes.rm) (by kernel_rfl) (lookCons M_spec_l1Most lookNil) follows_mixed Tryz.func24 (by kernel_rfl) (by kernel_rfl) rfl
/-- loop.example/g01054/spec.FinishTimes -/
@[reducible] noncomputable def c_spec_FinishTimes : Cx := { K := [.dat 2, .dat 2, .no, .no, .own 1 0 false, .dat 0, .own 1 0 false, .dat 0, .dat 2, .dat 2, .dat 0, .dat 0, .tup [.own 1 0 false, .dat 0], .dat 2, .dat 2, .tup [.own 1 0 false, .dat 0], .own 1 0 false, .dat 0, .own 1 0 false], T := [(24, ty24)], S := [(23, S_spec_orAsked), (24, S_spec_orTimes)], H := [], res := [.tmp 4, .tmp 5], ios := [], G := gl0 }
noncomputable def F_spec_FinishTimes : List D → Option Out := denF c_spec_FinishTimes Tryz.f6
@[reducible] noncomputable def S_spec_FinishTimes : FS := { pm := [.dat 2, .dat 2], rm := [.own 1 0 false, .dat 0], f := F_spec_FinishTimes }
theorem M_spec_FinishTimes : Meets gl0 Tryz.prog 6 S_spec_FinishTimes := meets_of (P := Tryz.prog) (c := c_spec_FinishTimes) (fn := Tryz.f6) (pm := S_spec_FinishTimes.pm) (rm := S_spec_FinishTimes.rm) (by kernel_rfl) (lookCons M_spec_orAsked (lookCons M_spec_orTimes lookNil)) follows_mixed Tryz.func6 (by kernel_rfl) (by kernel_rfl) rfl
/-- loop.example/g01054/impl.isOrder -/
@[reducible] noncomputable def c_impl_isOrder : Cx := { K := [.dat 0, .box 4 0 false, .dat 0, .ref 1, .dat 0, .dat 0, .dat 0, .ref 1, .dat 0, .dat 0, .dat 0, .dat 0, .ref 1, .dat 0, .dat 0, .dat 0, .dat 0, .ref 1, .dat 0, .dat 0, .dat 0], T := [(3, ty3), (36, ty36)], S := [(49, S_impl_within)], H := [], res := [.tmp 2], ios := [], G := gl0 }
noncomputable def F_impl_isOrder : List D → Option Out := denF c_impl_isOrder Tryz.f31
@[reducible] noncomputable def S_impl_isOrder : FS := { pm := [.dat 0], rm := [.dat 0], f := F_impl_isOrder }
theorem M_impl_isOrder : Meets gl0 Tryz.prog 31 S_impl_isOrder := meets_of (P := Tryz.prog) (c := c_impl_isOrder) (fn := Tryz.f31) (pm := S_impl_isOrder.pm) (rm := S_impl_isOrder.rm) (by kernel_rfl) (lookCons M_impl_within lookNil) follows_mixed Tryz.func31 (by kernel_rfl) (by kernel_rfl) rfl
/-- loop.example/g01054/impl.AreOrders -/
@[reducible] noncomputable def c_impl_AreOrders : Cx := { K := [.dat 2, .no, .dat 0, .dat 0, .box 4 0 false, .dat 2, .dat 0, .dat 0, .dat 0, .dat 0, .dat 2, .dat 0, .dat 0, .dat 0, .dat 0, .dat 0, .dat 0, .dat 0, .dat 0, .dat 2, .dat 0, .dat 0, .dat 2, .dat 2, .dat 0, .ref 4, .dat 0, .dat 0, .dat 0, .dat 0, .dat 0, .dat 2, .dat 0, .dat 0], T := [(3, ty3), (23, ty23), (36, ty36)], S := [(31, S_impl_isOrder)], H := [(0, ([0, 5, 6, 7], [0]))], res := [.tmp 2], ios := [], G := gl0 }
noncomputable def F_impl_AreOrders : List D → Option Out := denF c_impl_AreOrders Tryz.f12
@[reducible] noncomputable def S_impl_AreOrders : FS := { pm := [.dat 2], rm := [.dat 0], f := F_impl_AreOrders }
theorem M_impl_AreOrders : Meets gl0 Tryz.prog 12 S_impl_AreOrders := meets_of (P := Tryz.prog) (c := c_impl_AreOrders) (fn := Tryz.f12) (pm := S_impl_AreOrders.pm) (rm := S_impl_AreOrders.rm) (by kernel_rfl) (lookCons M_impl_isOrder lookNil) follows_mixed Tryz.func12 (by kernel_rfl) (by kernel_rfl) rfl
/-- loop.example/g01054/impl.isSequence -/
@[reducible] noncomputable def c_impl_isSequence : Cx := { K := [.dat 2, .dat 2, .no, .no, .dat 0, .dat 2, .dat 0, .dat 0, .dat 2, .dat 0, .dat 2, .dat 0, .dat 0, .dat 0, .dat 0, .dat 2, .dat 2, .dat 0, .dat 0, .dat 0], T := [(3, ty3), (23, ty23), (24, ty24), (36, ty36)], S := [(12, S_impl_AreOrders), (43, S_impl_isDifferent)], H := [], res := [.tmp 4], ios := [], G := gl0 }
noncomputable def F_impl_isSequence : List D → Option Out := denF c_impl_isSequence Tryz.f21
@[reducible] noncomputable def S_impl_isSequence : FS := { pm := [.dat 2, .dat 2], rm := [.dat 0], f := F_impl_isSequence }
theorem M_impl_isSequence : Meets gl0 Tryz.prog 21 S_impl_isSequence := meets_of (P := Tryz.prog) (c := c_impl_isSequence) (fn := Tryz.f21) (pm := S_impl_isSequence.pm) (rm := S_impl_isSequence.rm) (by kernel_rfl) (lookCons M_impl_AreOrders (lookCons M_impl_isDifferent lookNil)) follows_mixed Tryz.func21 (by kernel_rfl) (by kernel_rfl) rfl
/-- loop.example/g01054/impl.finished -/
@[reducible] noncomputable def c_impl_finished : Cx := { K := [.dat 2, .dat 2, .no, .no, .own 1 0 false, .own 1 0 false, .dat 0, .dat 0, .no, .dat 0, .own 1 0 false, .dat 2, .dat 0, .dat 0, .dat 0, .dat 2, .dat 0, .dat 0, .dat 2, .dat 0, .dat 2, .dat 2, .dat 0, .dat 0, .dat 0, .dat 0, .dat 0, .dat 2, .dat 0, .dat 2, .dat 2, .dat 0, .dat 0, .own 1 0 false, .dat 0, .dat 1, .own 1 0 false, .dat 0, .own 1 0 false], T := [(3, ty3), (23, ty23), (24, ty24), (36, ty36)], S := [], H := [(0, ([0, 5, 6, 7, 11, 12, 13], [5]))], res := [.tmp 4], ios := [], G := gl0 }
noncomputable def F_impl_finished : List D → Option Out := denF c_impl_finished Tryz.f22
@[reducible] noncomputable def S_impl_finished : FS := { pm := [.dat 2, .dat 2], rm := [.own 1 0 false], f := F_impl_finished }
theorem M_impl_finished : Meets gl0 Tryz.prog 22 S_impl_finished := meets_of (P := Tryz.prog) (c := c_impl_finished) (fn := Tryz.f22) (pm := S_impl_finished.pm) (rm := S_impl_finished.rm) (by kernel_rfl) lookNil follows_mixed Tryz.func22 (by kernel_rfl) (by kernel_rfl) rfl
/-- loop.example/g01054/impl.FinishTimes -/
@[reducible] noncomputable def c_impl_FinishTimes : Cx := { K := [.dat 2, .dat 2, .no, .no, .own 1 0 false, .dat 0, .dat 2, .dat 2, .dat 0, .dat 0, .own 1 0 false, .dat 2, .dat 2, .own 1 0 false], T := [(3, ty3), (24, ty24)], S := [(21, S_impl_isSequence), (22, S_impl_finished)], H := [], res := [.tmp 4, .tmp 5], ios := [], G := gl0 }
noncomputable def F_impl_FinishTimes : List D → Option Out := denF c_impl_FinishTimes Tryz.f5
@[reducible] noncomputable def S_impl_FinishTimes : FS := { pm := [.dat 2, .dat 2], rm := [.own 1 0 false, .dat 0], f := F_impl_FinishTimes }
theorem M_impl_FinishTimes : Meets gl0 Tryz.prog 5 S_impl_FinishTimes := meets_of (P := Tryz.prog) (c := c_impl_FinishTimes) (fn := Tryz.f5) (pm := S_impl_FinishTimes.pm) (rm := S_impl_FinishTimes.rm) (by kernel_rfl) (lookCons M_impl_isSequence (lookCons M_impl_finished lookNil)) follows_mixed Tryz.func5 (by kernel_rfl) (by kernel_rfl) rfl
/-- loop.example/g01054/spec.IdlePress -/
@[reducible] noncomputable def c_spec_IdlePress : Cx := { K := [.dat 2, .dat 2, .no, .no, .dat 0, .dat 0, .dat 1, .dat 0, .dat 2, .dat 2, .dat 0, .dat 0, .tup [.own 1 0 false, .dat 0], .dat 2, .dat 2, .tup [.own 1 0 false, .dat 0], .dat 1, .dat 0, .dat 0], T := [], S := [(23, S_spec_orAsked), (24, S_spec_orTimes)], H := [], res := [.tmp 4, .tmp 5], ios := [], G := gl0 }
noncomputable def F_spec_IdlePress : List D → Option Out := denF c_spec_IdlePress Tryz.f8
@[reducible] noncomputable def S_spec_IdlePress : FS := { pm := [.dat 2, .dat 2], rm := [.dat 0, .dat 0], f := F_spec_IdlePress }
theorem M_spec_IdlePress : Meets gl0 Tryz.prog 8 S_spec_IdlePress := meets_of (P := Tryz.prog) (c := c_spec_IdlePress) (fn := Tryz.f8) (pm := S_spec_IdlePress.pm) (rm := S_spec_IdlePress.rm) (by kernel_rfl) (lookCons M_spec_orAsked (lookCons M_spec_orTimes lookNil)) follows_mixed Tryz.func8 (by kernel_rfl) (by kernel_rfl) rfl
/-- loop.example/g01054/impl.greatest -/
@[reducible] noncomputable def c_impl_greatest : Cx := { K := [.dat 2, .no, .dat 0, .dat 0, .no, .dat 0, .dat 2, .dat 0, .dat 0, .dat 0, .dat 2, .dat 0, .dat 0, .dat 0, .dat 0, .dat 0, .dat 0], T := [(3, ty3), (24, ty24)], S := [], H := [(0, ([3, 6, 7, 8], [3]))], res := [.tmp 2], ios := [], G := gl0 }
noncomputable def F_impl_greatest : List D → Option Out := denF c_impl_greatest Tryz.f25
@[reducible] noncomputable def S_impl_greatest : FS := { pm := [.dat 2], rm := [.dat 0], f := F_impl_greatest }
theorem M_impl_greatest : Meets gl0 Tryz.prog 25 S_impl_greatest := meets_of (P := Tryz.prog) (c := c_impl_greatest) (fn := Tryz.f25) (pm := S_impl_greatest.pm) (rm := S_impl_greatest.rm) (by kernel_rfl) lookNil follows_mixed Tryz.func25 (by kernel_rfl) (by kernel_rfl) rfl
/-- loop.example/g01054/impl.IdlePress -/
@[reducible] noncomputable def c_impl_IdlePress : Cx := { K := [.dat 2, .dat 2, .no, .no, .dat 0, .dat 0, .dat 0, .no, .box 4 0 false, .dat 2, .dat 2, .dat 0, .dat 0, .dat 2, .dat 2, .dat 1, .dat 0, .dat 2, .dat 0, .dat 0, .dat 0, .dat 2, .dat 0, .dat 0, .ref 8, .dat 0, .dat 0, .dat 0, .dat 0], T := [(3, ty3), (23, ty23), (36, ty36)], S := [(21, S_impl_isSequence), (22, S_impl_finished), (25, S_impl_greatest)], H := [(0, ([6, 17, 18, 19], [6]))], res := [.tmp 4, .tmp 5], ios := [], G := gl0 }
noncomputable def F_impl_IdlePress : List D → Option Out := denF c_impl_IdlePress Tryz.f7
@[reducible] noncomputable def S_impl_IdlePress : FS := { pm := [.dat 2, .dat 2], rm := [.dat 0, .dat 0], f := F_impl_IdlePress }
theorem M_impl_IdlePress : Meets gl0 Tryz.prog 7 S_impl_IdlePress := meets_of (P := Tryz.prog) (c := c_impl_IdlePress) (fn := Tryz.f7) (pm := S_impl_IdlePress.pm) (rm := S_impl_IdlePress.rm) (by kernel_rfl) (lookCons M_impl_isSequence (lookCons M_impl_finished (lookCons M_impl_greatest lookNil))) follows_mixed Tryz.func7 (by kernel_rfl) (by kernel_rfl) rfl
/-- loop.example/g01054/spec.orSorted -/
@[reducible] noncomputable def c_spec_orSorted : Cx := { K := [.dat 2, .no, .dat 1, .dat 1, .dat 0, .dat 0, .dat 2, .dat 0, .dat 0, .dat 0, .dat 0, .dat 1, .dat 0, .dat 0, .dat 0, .dat 0, .dat 2, .dat 1, .dat 0, .dat 0, .dat 1, .dat 0, .dat 2, .dat 0, .dat 2, .dat 0, .dat 2, .dat 0, .dat 0, .dat 0, .dat 0, .dat 0, .own 1 0 false, .dat 1, .dat 0, .dat 1, .own 1 0 false, .dat 0, .dat 1, .own 1 0 false, .dat 1, .dat 0, .dat 1, .dat 1, .dat 0, .dat 1], T := [(3, ty3), (24, ty24)], S := [], H := [(0, ([0, 3, 7, 8], [3])), (2, ([0, 3, 4, 5, 7, 8], [0, 3, 4, 5, 7, 8]))], res := [.tmp 2], ios := [], G := gl0 }
noncomputable def F_spec_orSorted : List D → Option Out := denF c_spec_orSorted Tryz.f29
@[reducible] noncomputable def S_spec_orSorted : FS := { pm := [.dat 2], rm := [.dat 1], f := F_spec_orSorted }
theorem M_spec_orSorted : Meets gl0 Tryz.prog 29 S_spec_orSorted := meets_of (P := Tryz.prog) (c := c_spec_orSorted) (fn := Tryz.f29) (pm := S_spec_orSorted.pm) (rm := S_spec_orSorted.rm) (by kernel_rfl) lookNil follows_mixed Tryz.func29 (by kernel_rfl) (by kernel_rfl) rfl
/-- loop.example/g01054/spec.orEnd -/
@[reducible] noncomputable def c_spec_orEnd : Cx := { K := [.dat 2, .dat 2, .no, .no, .dat 0, .dat 1, .dat 0, .tup [.own 1 0 false, .dat 0], .dat 2, .dat 2, .tup [.own 1 0 false, .dat 0], .dat 1, .dat 0, .dat 1, .dat 0, .dat 0, .dat 1, .dat 1, .dat 0, .dat 0, .dat 1, .dat 0], T := [(3, ty3), (24, ty24)], S := [(24, S_spec_orTimes)], H := [], res := [.tmp 4], ios := [], G := gl0 }
noncomputable def F_spec_orEnd : List D → Option Out := denF c_spec_orEnd Tryz.f30
@[reducible] noncomputable def S_spec_orEnd : FS := { pm := [.dat 2, .dat 2], rm := [.dat 0], f := F_spec_orEnd }
theorem M_spec_orEnd : Meets gl0 Tryz.prog 30 S_spec_orEnd := meets_of (P := Tryz.prog) (c := c_spec_orEnd) (fn := Tryz.f30) (pm := S_spec_orEnd.pm) (rm := S_spec_orEnd.rm) (by kernel_rfl) (lookCons M_spec_orTimes lookNil) follows_mixed Tryz.func30 (by kernel_rfl) (by kernel_rfl) rfl
/-- loop.example/g01054/spec.FastestSequence -/
@[reducible] noncomputable def c_spec_FastestSequence : Cx := { K := [.dat 2, .no, .dat 1, .dat 0, .dat 0, .own 1 0 false, .no, .box 4 0 false, .dat 1, .dat 2, .dat 0, .dat 0, .dat 2, .dat 0, .dat 0, .dat 0, .dat 2, .dat 0, .ref 7, .dat 0, .ref 7, .dat 0, .dat 0, .own 1 0 false, .ref 7, .dat 0, .dat 1, .own 1 0 false, .own 1 0 false, .ref 7, .dat 0, .dat 0, .dat 1, .own 1 0 false, .dat 0, .via 5, .dat 1, .dat 1, .dat 2, .dat 1, .dat 0], T := [(3, ty3), (23, ty23), (24, ty24), (36, ty36)], S := [(28, S_spec_orGood), (29, S_spec_orSorted), (30, S_spec_orEnd)], H := [(0, ([0, 5, 12, 13, 14], [0, 5]))], res := [.tmp 2, .tmp 3, .tmp 4], ios := [], G := gl0 }
noncomputable def F_spec_FastestSequence : List D → Option Out := denF c_spec_FastestSequence Tryz.f10
@[reducible] noncomputable def S_spec_FastestSequence : FS := { pm := [.dat 2], rm := [.dat 1, .dat 0, .dat 0], f := F_spec_FastestSequence }
theorem M_spec_FastestSequence : Meets gl0 Tryz.prog 10 S_spec_FastestSequence := meets_of (P := Tryz.prog) (c := c_spec_FastestSequence) (fn := Tryz.f10) (pm := S_spec_FastestSequence.pm) (rm := S_spec_FastestSequence.rm) (by kernel_rfl) (lookCons M_spec_orGood (lookCons M_spec_orSorted (lookCons M_spec_orEnd lookNil))) follows_mixed Tryz.func10 (by kernel_rfl) (by kernel_rfl) rfl
/-- loop.example/g01054/impl.orderText -/
@[reducible] noncomputable def c_impl_orderText : Cx := { K := [.dat 0, .box 4 0 false, .dat 0, .ref 1, .dat 0, .dat 0, .dat 0, .dat 0, .ref 1, .dat 0, .dat 0, .dat 0, .dat 0, .ref 1, .dat 0, .dat 0, .dat 0, .dat 0, .ref 1, .dat 0, .dat 0, .dat 0], T := [(3, ty3), (9, ty9), (36, ty36)], S := [(51, S_strconv_Itoa)], H := [], res := [.tmp 2], ios := [], G := gl1 }
noncomputable def F_impl_orderText : List D → Option Out := denF c_impl_orderText Tryz.f34
@[reducible] noncomputable def S_impl_orderText : FS := { pm := [.dat 0], rm := [.dat 0], f := F_impl_orderText }
theorem M_impl_orderText : Meets gl1 Tryz.prog 34 S_impl_orderText := meets_of (P := Tryz.prog) (c := c_impl_orderText) (fn := Tryz.f34) (pm := S_impl_orderText.pm) (rm := S_impl_orderText.rm) (by kernel_rfl) (lookCons M_strconv_Itoa lookNil) follows_mixed Tryz.func34 (by kernel_rfl) (by kernel_rfl) rfl
/-- loop.example/g01054/impl.OrderText -/
@[reducible] noncomputable def c_impl_OrderText : Cx := { K := [.dat 0, .box 4 0 false, .dat 0, .dat 0, .dat 0, .dat 0, .dat 0, .dat 0, .dat 0], T := [(3, ty3), (36, ty36)], S := [(31, S_impl_isOrder), (34, S_impl_orderText)], H := [], res := [.tmp 2, .tmp 3], ios := [], G := gl1 }
noncomputable def F_impl_OrderText : List D → Option Out := denF c_impl_OrderText Tryz.f14
@[reducible] noncomputable def S_impl_OrderText : FS := { pm := [.dat 0], rm := [.dat 0, .dat 0], f := F_impl_OrderText }
theorem M_impl_OrderText : Meets gl1 Tryz.prog 14 S_impl_OrderText := meets_of (P := Tryz.prog) (c := c_impl_OrderText) (fn := Tryz.f14) (pm := S_impl_OrderText.pm) (rm := S_impl_OrderText.rm) (by kernel_rfl) (lookCons (meets_mono gl01 M_impl_isOrder) (lookCons M_impl_orderText lookNil)) follows_mixed Tryz.func14 (by kernel_rfl) (by kernel_rfl) rfl
/-- loop.example/g01054/spec.l1Num -/
@[reducible] noncomputable def c_spec_l1Num (k : List D → Option Out) : Cx := { K := [.dat 0, .no, .dat 0, .dat 0, .dat 0, .dat 0, .dat 0, .dat 0, .dat 1, .dat 0, .dat 0, .dat 0, .dat 0, .dat 0, .dat 0, .dat 0, .dat 0, .dat 1, .dat 0, .dat 0], T := [(3, ty3), (5, ty5), (9, ty9), (22, ty22)], S := [(52, { pm := [.dat 0], rm := [.dat 0], f := k })], H := [], res := [.tmp 2], ios := [], G := gl0 }
noncomputable def R_spec_l1Num : Nat → List D → Option Out
  | 0, _ => none
  | n + 1, ds => denF (c_spec_l1Num (R_spec_l1Num n)) Tryz.f52 ds
noncomputable def F_spec_l1Num : List D → Option Out := recF R_spec_l1Num
@[reducible] noncomputable def S_spec_l1Num : FS := { pm := [.dat 0], rm := [.dat 0], f := F_spec_l1Num }
theorem MR_spec_l1Num : ∀ n : Nat, Meets gl0 Tryz.prog 52 { pm := [.dat 0], rm := [.dat 0], f := R_spec_l1Num n }
  | 0 => meets_none (fun _ => rfl)
  | n + 1 => by
    have ih := MR_spec_l1Num n
    exact meets_of (P := Tryz.prog) (c := c_spec_l1Num (R_spec_l1Num n)) (fn := Tryz.f52) (pm := S_spec_l1Num.pm) (rm := S_spec_l1Num.rm) (by kernel_rfl) (lookCons ih lookNil) follows_mixed Tryz.func52 (by kernel_rfl) (by kernel_rfl) rfl
theorem M_spec_l1Num : Meets gl0 Tryz.prog 52 S_spec_l1Num := meets_rec MR_spec_l1Num
/-- loop.example/g01054/spec.orText -/
@[reducible] noncomputable def c_spec_orText : Cx := { K := [.dat 0, .box 4 0 false, .dat 0, .ref 1, .dat 0, .dat 0, .dat 0, .dat 0, .ref 1, .dat 0, .dat 0, .dat 0, .dat 0, .ref 1, .dat 0, .dat 0, .dat 0, .dat 0, .ref 1, .dat 0, .dat 0, .dat 0], T := [(3, ty3), (9, ty9), (36, ty36)], S := [(52, S_spec_l1Num)], H := [], res := [.tmp 2], ios := [], G := gl0 }
noncomputable def F_spec_orText : List D → Option Out := denF c_spec_orText Tryz.f36
@[reducible] noncomputable def S_spec_orText : FS := { pm := [.dat 0], rm := [.dat 0], f := F_spec_orText }
theorem M_spec_orText : Meets gl0 Tryz.prog 36 S_spec_orText := meets_of (P := Tryz.prog) (c := c_spec_orText) (fn := Tryz.f36) (pm := S_spec_orText.pm) (rm := S_spec_orText.rm) (by kernel_rfl) (lookCons M_spec_l1Num lookNil) follows_mixed Tryz.func36 (by kernel_rfl) (by kernel_rfl) rfl
/-- loop.example/g01054/spec.OrderText -/
@[reducible] noncomputable def c_spec_OrderText : Cx := { K := [.dat 0, .box 4 0 false, .dat 0, .dat 0, .dat 0, .dat 0, .dat 0, .dat 0, .dat 0], T := [(3, ty3), (36, ty36)], S := [(35, S_spec_orOne), (36, S_spec_orText)], H := [], res := [.tmp 2, .tmp 3], ios := [], G := gl0 }
noncomputable def F_spec_OrderText : List D → Option Out := denF c_spec_OrderText Tryz.f15
@[reducible] noncomputable def S_spec_OrderText : FS := { pm := [.dat 0], rm := [.dat 0, .dat 0], f := F_spec_OrderText }
theorem M_spec_OrderText : Meets gl0 Tryz.prog 15 S_spec_OrderText := meets_of (P := Tryz.prog) (c := c_spec_OrderText) (fn := Tryz.f15) (pm := S_spec_OrderText.pm) (rm := S_spec_OrderText.rm) (by kernel_rfl) (lookCons M_spec_orOne (lookCons M_spec_orText lookNil)) follows_mixed Tryz.func15 (by kernel_rfl) (by kernel_rfl) rfl
/-- loop.example/g01054/impl.numbersIn -/
@[reducible] noncomputable def c_impl_numbersIn : Cx := { K := [.dat 0, .no, .own 1 0 false, .own 1 0 false, .no, .dat 0, .dat 0, .dat 0, .own 1 0 false, .dat 0, .dat 1, .dat 0, .dat 0, .dat 0, .dat 1, .dat 0, .tup [.dat 0, .dat 0], .dat 0, .tup [.dat 0, .dat 0], .dat 0, .dat 0, .dat 0, .dat 0, .own 1 0 false, .own 1 0 false, .dat 0, .dat 1, .own 1 0 false, .dat 0, .own 1 0 false], T := [(3, ty3), (9, ty9), (24, ty24), (64, ty64), (79, ty79)], S := [(53, S_strings_FieldsFunc), (55, S_strconv_Atoi)], H := [(0, ([3, 10, 11, 12], [3]))], res := [.tmp 2], ios := [], G := gl2 }
noncomputable def F_impl_numbersIn : List D → Option Out := denF c_impl_numbersIn Tryz.f39
@[reducible] noncomputable def S_impl_numbersIn : FS := { pm := [.dat 0], rm := [.own 1 0 false], f := F_impl_numbersIn }
theorem M_impl_numbersIn : Meets gl2 Tryz.prog 39 S_impl_numbersIn := meets_of (P := Tryz.prog) (c := c_impl_numbersIn) (fn := Tryz.f39) (pm := S_impl_numbersIn.pm) (rm := S_impl_numbersIn.rm) (by kernel_rfl) (lookCons (meets_mono gl02 M_strings_FieldsFunc) (lookCons M_strconv_Atoi lookNil)) follows_mixed Tryz.func39 (by kernel_rfl) (by kernel_rfl) rfl
/-- loop.example/g01054/impl.ParseOrder -/
@[reducible] noncomputable def c_impl_ParseOrder : Cx := { K := [.dat 0, .no, .box 4 0 false, .dat 0, .dat 1, .box 4 0 false, .dat 0, .dat 1, .dat 1, .dat 0, .dat 0, .dat 0, .dat 1, .dat 1, .dat 0, .dat 1, .dat 1, .dat 0, .dat 1, .dat 1, .dat 0, .dat 1, .dat 1, .dat 0, .dat 0, .dat 0, .dat 0, .dat 0, .dat 0, .dat 0, .dat 0, .dat 0, .dat 0, .dat 0, .dat 0, .dat 0], T := [(3, ty3), (9, ty9), (24, ty24), (36, ty36)], S := [(31, S_impl_isOrder), (34, S_impl_orderText), (39, S_impl_numbersIn)], H := [], res := [.cell 2 36, .tmp 3], ios := [], G := gl2 }
noncomputable def F_impl_ParseOrder : List D → Option Out := denF c_impl_ParseOrder Tryz.f17
@[reducible] noncomputable def S_impl_ParseOrder : FS := { pm := [.dat 0], rm := [.dat 0, .dat 0], f := F_impl_ParseOrder }
theorem M_impl_ParseOrder : Meets gl2 Tryz.prog 17 S_impl_ParseOrder := meets_of (P := Tryz.prog) (c := c_impl_ParseOrder) (fn := Tryz.f17) (pm := S_impl_ParseOrder.pm) (rm := S_impl_ParseOrder.rm) (by kernel_rfl) (lookCons (meets_mono gl02 M_impl_isOrder) (lookCons (meets_mono gl12 M_impl_orderText) (lookCons M_impl_numbersIn lookNil))) follows_mixed Tryz.func17 (by kernel_rfl) (by kernel_rfl) rfl
/-- loop.example/g01054/spec.l1Split -/
@[reducible] noncomputable def c_spec_l1Split : Cx := { K := [.dat 0, .dat 0, .no, .no, .own 1 0 false, .own 1 0 false, .dat 0, .dat 0, .dat 0, .dat 0, .dat 0, .dat 0, .dat 0, .dat 0, .dat 0, .dat 0, .dat 0, .dat 0, .dat 0, .own 1 0 false, .dat 0, .dat 0, .dat 0, .dat 0, .dat 1, .own 1 0 false, .dat 0, .dat 0, .own 1 0 false, .dat 0, .dat 0, .dat 0, .dat 1, .own 1 0 false], T := [(3, ty3), (5, ty5), (9, ty9), (64, ty64)], S := [], H := [(0, ([0, 1, 5, 6, 7], [0, 5, 6]))], res := [.tmp 4], ios := [], G := gl0 }
noncomputable def F_spec_l1Split : List D → Option Out := denF c_spec_l1Split Tryz.f40
@[reducible] noncomputable def S_spec_l1Split : FS := { pm := [.dat 0, .dat 0], rm := [.own 1 0 false], f := F_spec_l1Split }
theorem M_spec_l1Split : Meets gl0 Tryz.prog 40 S_spec_l1Split := meets_of (P := Tryz.prog) (c := c_spec_l1Split) (fn := Tryz.f40) (pm := S_spec_l1Split.pm) (rm := S_spec_l1Split.rm) (by kernel_rfl) lookNil follows_mixed Tryz.func40 (by kernel_rfl) (by kernel_rfl) rfl
/-- loop.example/g01054/spec.l1Read -/
@[reducible] noncomputable def c_spec_l1Read : Cx := { K := [.dat 0, .no, .dat 0, .dat 0, .dat 0, .dat 0, .dat 0, .dat 0, .dat 0, .dat 0, .dat 0, .dat 0, .dat 0, .dat 0, .dat 0, .dat 0, .dat 0, .dat 0, .dat 0, .dat 0, .dat 0, .dat 0, .dat 0, .dat 0, .dat 0, .dat 0, .dat 0, .dat 0, .dat 0, .dat 0, .dat 0, .dat 0, .dat 0, .dat 0, .dat 0, .dat 0, .dat 0, .dat 0, .dat 0, .dat 0, .dat 0, .dat 0, .dat 0, .dat 0], T := [(3, ty3), (5, ty5), (9, ty9)], S := [(44, S_spec_l1In)], H := [(0, ([0, 3, 4], [3]))], res := [.tmp 2], ios := [], G := gl0 }
noncomputable def F_spec_l1Read : List D → Option Out := denF c_spec_l1Read Tryz.f41
@[reducible] noncomputable def S_spec_l1Read : FS := { pm := [.dat 0], rm := [.dat 0], f := F_spec_l1Read }
theorem M_spec_l1Read : Meets gl0 Tryz.prog 41 S_spec_l1Read := meets_of (P := Tryz.prog) (c := c_spec_l1Read) (fn := Tryz.f41) (pm := S_spec_l1Read.pm) (rm := S_spec_l1Read.rm) (by kernel_rfl) (lookCons M_spec_l1In lookNil) follows_mixed Tryz.func41 (by kernel_rfl) (by kernel_rfl) rfl
/-- loop.example/g01054/spec.ParseOrder -/
@[reducible] noncomputable def c_spec_ParseOrder : Cx := { K := [.dat 0, .no, .box 4 0 false, .dat 0, .dat 1, .dat 1, .box 4 0 false, .dat 0, .dat 1, .dat 1, .dat 0, .dat 0, .dat 0, .dat 1, .dat 1, .dat 0, .dat 0, .dat 0, .dat 0, .dat 1, .dat 1, .dat 0, .dat 1, .dat 1, .dat 0, .dat 0, .dat 0, .dat 1, .dat 1, .dat 0, .dat 0, .dat 0, .dat 1, .dat 1, .dat 0, .dat 0, .dat 1, .dat 1, .dat 0, .dat 0, .dat 1, .dat 1, .dat 0, .dat 0, .dat 0, .dat 0, .dat 0, .dat 0, .dat 0, .dat 0, .dat 0, .dat 0, .dat 0, .dat 0, .dat 0, .dat 0], T := [(3, ty3), (9, ty9), (36, ty36), (64, ty64)], S := [(35, S_spec_orOne), (36, S_spec_orText), (40, S_spec_l1Split), (41, S_spec_l1Read)], H := [], res := [.cell 2 36, .tmp 3], ios := [], G := gl0 }
noncomputable def F_spec_ParseOrder : List D → Option Out := denF c_spec_ParseOrder Tryz.f18
@[reducible] noncomputable def S_spec_ParseOrder : FS := { pm := [.dat 0], rm := [.dat 0, .dat 0], f := F_spec_ParseOrder }
theorem M_spec_ParseOrder : Meets gl0 Tryz.prog 18 S_spec_ParseOrder := meets_of (P := Tryz.prog) (c := c_spec_ParseOrder) (fn := Tryz.f18) (pm := S_spec_ParseOrder.pm) (rm := S_spec_ParseOrder.rm) (by kernel_rfl) (lookCons M_spec_orOne (lookCons M_spec_orText (lookCons M_spec_l1Split (lookCons M_spec_l1Read lookNil)))) follows_mixed Tryz.func18 (by kernel_rfl) (by kernel_rfl) rfl
/-- (*loop.example/g01054/spec.l1Cur).next -/
@[reducible] noncomputable def c_spec_l1Cur_next : Cx := { K := [.box 3 2 true, .no, .dat 0, .dat 0, .ref 0, .ref 0, .ref 0, .dat 0, .ref 0, .ref 0, .ref 0, .dat 2, .dat 0, .dat 0, .ref 0, .ref 0, .ref 0, .dat 2, .ref 0, .ref 0, .ref 0, .dat 0, .dat 2, .dat 0, .dat 0, .ref 0, .ref 0, .ref 0, .dat 0, .dat 0, .ref 0, .ref 0, .ref 0, .ref 0, .ref 0, .ref 0, .dat 0, .dat 0, .dat 0, .dat 0, .dat 0, .dat 0, .ref 0, .ref 0, .ref 0, .ref 0, .ref 0, .dat 0, .ref 0, .ref 0, .ref 0, .dat 2, .dat 0, .dat 0, .dat 0, .ref 0, .ref 0, .ref 0, .dat 0, .dat 0, .dat 0, .dat 0], T := [(3, ty3), (5, ty5), (22, ty22), (45, ty45), (47, ty47)], S := [], H := [], res := [.tmp 2], ios := [0], G := gl0 }
noncomputable def F_spec_l1Cur_next : List D → Option Out := denF c_spec_l1Cur_next Tryz.f50
@[reducible] noncomputable def S_spec_l1Cur_next : FS := { pm := [.box 3 2 true], rm := [.dat 0], f := F_spec_l1Cur_next }
theorem M_spec_l1Cur_next : Meets gl0 Tryz.prog 50 S_spec_l1Cur_next := meets_of (P := Tryz.prog) (c := c_spec_l1Cur_next) (fn := Tryz.f50) (pm := S_spec_l1Cur_next.pm) (rm := S_spec_l1Cur_next.rm) (by kernel_rfl) lookNil follows_mixed Tryz.func50 (by kernel_rfl) (by kernel_rfl) rfl
/-- (*loop.example/g01054/spec.l1Cur).pick -/
@[reducible] noncomputable def c_spec_l1Cur_pick : Cx := { K := [.box 3 2 true, .dat 0, .no, .no, .dat 0, .dat 0, .dat 0, .dat 0, .ref 0, .dat 0, .dat 0, .dat 0, .dat 0, .dat 0, .ref 0, .dat 0, .dat 0, .dat 0, .dat 0, .dat 0], T := [(3, ty3)], S := [(50, S_spec_l1Cur_next)], H := [], res := [.tmp 4], ios := [0], G := gl0 }
noncomputable def F_spec_l1Cur_pick : List D → Option Out := denF c_spec_l1Cur_pick Tryz.f33
@[reducible] noncomputable def S_spec_l1Cur_pick : FS := { pm := [.box 3 2 true, .dat 0], rm := [.dat 0], f := F_spec_l1Cur_pick }
theorem M_spec_l1Cur_pick : Meets gl0 Tryz.prog 33 S_spec_l1Cur_pick := meets_of (P := Tryz.prog) (c := c_spec_l1Cur_pick) (fn := Tryz.f33) (pm := S_spec_l1Cur_pick.pm) (rm := S_spec_l1Cur_pick.rm) (by kernel_rfl) (lookCons M_spec_l1Cur_next lookNil) follows_mixed Tryz.func33 (by kernel_rfl) (by kernel_rfl) rfl
/-- (*loop.example/g01054/spec.l1Cur).one -/
@[reducible] noncomputable def c_spec_l1Cur_one : Cx := { K := [.box 3 2 true, .dat 0, .no, .no, .dat 0, .ref 0, .dat 0, .dat 0, .dat 0], T := [(3, ty3)], S := [(33, S_spec_l1Cur_pick)], H := [], res := [.tmp 4], ios := [0], G := gl0 }
noncomputable def F_spec_l1Cur_one : List D → Option Out := denF c_spec_l1Cur_one Tryz.f42
@[reducible] noncomputable def S_spec_l1Cur_one : FS := { pm := [.box 3 2 true, .dat 0], rm := [.dat 0], f := F_spec_l1Cur_one }
theorem M_spec_l1Cur_one : Meets gl0 Tryz.prog 42 S_spec_l1Cur_one := meets_of (P := Tryz.prog) (c := c_spec_l1Cur_one) (fn := Tryz.f42) (pm := S_spec_l1Cur_one.pm) (rm := S_spec_l1Cur_one.rm) (by kernel_rfl) (lookCons M_spec_l1Cur_pick lookNil) follows_mixed Tryz.func42 (by kernel_rfl) (by kernel_rfl) rfl
/-- (*loop.example/g01054/spec.l1Cur).among -/
@[reducible] noncomputable def c_spec_l1Cur_among : Cx := { K := [.box 3 2 true, .dat 2, .no, .no, .dat 0, .dat 2, .ref 0, .dat 2, .dat 0, .dat 0, .dat 2, .dat 0], T := [(3, ty3), (24, ty24)], S := [(33, S_spec_l1Cur_pick)], H := [], res := [.tmp 4], ios := [0], G := gl0 }
noncomputable def F_spec_l1Cur_among : List D → Option Out := denF c_spec_l1Cur_among Tryz.f32
@[reducible] noncomputable def S_spec_l1Cur_among : FS := { pm := [.box 3 2 true, .dat 2], rm := [.dat 0], f := F_spec_l1Cur_among }
theorem M_spec_l1Cur_among : Meets gl0 Tryz.prog 32 S_spec_l1Cur_among := meets_of (P := Tryz.prog) (c := c_spec_l1Cur_among) (fn := Tryz.f32) (pm := S_spec_l1Cur_among.pm) (rm := S_spec_l1Cur_among.rm) (by kernel_rfl) (lookCons M_spec_l1Cur_pick lookNil) follows_mixed Tryz.func32 (by kernel_rfl) (by kernel_rfl) rfl
/-- (*loop.example/g01054/spec.l1Cur).orders -/
@[reducible] noncomputable def c_spec_l1Cur_orders : Cx := { K := [.box 3 2 true, .no, .own 4 0 false, .own 4 0 false, .dat 0, .dat 0, .dat 0, .ref 0, .dat 0, .ref 0, .dat 0, .ref 0, .dat 0, .dat 0, .via 3, .dat 0, .dat 0, .dat 0, .dat 0, .ref 0, .dat 0, .dat 0, .dat 0, .own 4 0 false, .dat 0, .ref 0, .dat 0, .dat 0, .ref 0, .dat 0, .dat 0, .ref 0, .dat 0, .dat 0, .dat 0, .dat 1, .own 4 0 false, .dat 0, .dat 0, .ref 0, .dat 0, .dat 0, .ref 0, .dat 0, .dat 0, .dat 0, .via 3, .dat 0, .ref 0, .dat 1, .dat 0, .ref 3, .ref 3, .dat 0, .dat 0, .via 3, .dat 0, .ref 0, .dat 1, .dat 0, .ref 3, .ref 3, .dat 0, .dat 0, .via 3, .dat 0, .ref 0, .dat 1, .dat 0, .ref 3, .ref 3, .dat 0, .dat 0, .via 3, .dat 0, .ref 0, .dat 1, .dat 0, .ref 3, .ref 3, .own 4 0 false], T := [(3, ty3), (23, ty23), (24, ty24), (36, ty36)], S := [(32, S_spec_l1Cur_among), (33, S_spec_l1Cur_pick), (42, S_spec_l1Cur_one)], H := [(0, ([0, 3, 4, 5], [0, 3, 5]))], res := [.tmp 2], ios := [0], G := gl0 }
@[reducible] def J_spec_l1Cur_orders : List (Nat × List Nat) := [(31, [0, 3, 4, 5])]
noncomputable def F_spec_l1Cur_orders : List D → Option Out := denFJ c_spec_l1Cur_orders J_spec_l1Cur_orders Tryz.f19
@[reducible] noncomputable def S_spec_l1Cur_orders : FS := { pm := [.box 3 2 true], rm := [.own 4 0 false], f := F_spec_l1Cur_orders }
theorem M_spec_l1Cur_orders : Meets gl0 Tryz.prog 19 S_spec_l1Cur_orders := meets_ofJ (J := J_spec_l1Cur_orders) (P := Tryz.prog) (c := c_spec_l1Cur_orders) (fn := Tryz.f19) (pm := S_spec_l1Cur_orders.pm) (rm := S_spec_l1Cur_orders.rm) (by kernel_rfl) (lookCons M_spec_l1Cur_among (lookCons M_spec_l1Cur_pick (lookCons M_spec_l1Cur_one lookNil))) follows_mixed (by kernel_rfl) Tryz.func19 (by kernel_rfl) (by kernel_rfl) rfl
/-- (*loop.example/g01054/spec.l1Cur).sequence -/
@[reducible] noncomputable def c_spec_l1Cur_sequence : Cx := { K := [.box 3 2 true, .dat 0, .no, .no, .own 1 0 false, .own 1 0 false, .dat 0, .dat 0, .dat 0, .dat 0, .dat 0, .dat 0, .dat 0, .ref 0, .via 5, .dat 0, .dat 0, .dat 0, .own 1 0 false, .via 5, .dat 0, .dat 1, .own 1 0 false, .dat 0, .dat 1, .own 1 0 false, .via 5, .dat 0, .dat 1, .own 1 0 false, .ref 0, .dat 0, .dat 0, .dat 0, .own 1 0 false, .dat 1, .own 1 0 false, .dat 0, .dat 0, .dat 0, .dat 0, .via 5, .ref 0, .dat 0, .dat 1, .dat 0, .ref 5, .own 1 0 false], T := [(3, ty3), (24, ty24)], S := [(32, S_spec_l1Cur_among), (33, S_spec_l1Cur_pick)], H := [(0, ([0, 1, 5, 6], [0, 1, 5]))], res := [.tmp 4], ios := [0], G := gl0 }
@[reducible] def Z_spec_l1Cur_sequence : List (Nat × List Nat) := [(6, [1000000, 5])]
noncomputable def F_spec_l1Cur_sequence : List D → Option Out := denFS c_spec_l1Cur_sequence Z_spec_l1Cur_sequence Tryz.f20
@[reducible] noncomputable def S_spec_l1Cur_sequence : FS := { pm := [.box 3 2 true, .dat 0], rm := [.own 1 0 false], f := F_spec_l1Cur_sequence }
theorem M_spec_l1Cur_sequence : Meets gl0 Tryz.prog 20 S_spec_l1Cur_sequence := meets_ofS (Z := Z_spec_l1Cur_sequence) (P := Tryz.prog) (c := c_spec_l1Cur_sequence) (fn := Tryz.f20) (pm := S_spec_l1Cur_sequence.pm) (rm := S_spec_l1Cur_sequence.rm) (by kernel_rfl) (lookCons M_spec_l1Cur_among (lookCons M_spec_l1Cur_pick lookNil)) follows_mixed Tryz.func20 (by kernel_rfl) (by kernel_rfl) rfl
/-- loop.example/g01054/spec.DrawFinishTimes -/
@[reducible] noncomputable def c_spec_DrawFinishTimes : Cx := { K := [.dat 2, .no, .dat 1, .own 1 0 false, .ref 8, .dat 1, .dat 2, .dat 2, .box 3 2 false, .ref 8, .dat 1, .dat 1, .ref 8, .dat 1, .dat 0, .own 1 0 false], T := [(3, ty3), (22, ty22), (23, ty23), (24, ty24), (36, ty36), (45, ty45), (47, ty47)], S := [(19, S_spec_l1Cur_orders), (20, S_spec_l1Cur_sequence)], H := [], res := [.tmp 2, .tmp 3], ios := [], G := gl0 }
noncomputable def F_spec_DrawFinishTimes : List D → Option Out := denF c_spec_DrawFinishTimes Tryz.f4
@[reducible] noncomputable def S_spec_DrawFinishTimes : FS := { pm := [.dat 2], rm := [.dat 1, .own 1 0 false], f := F_spec_DrawFinishTimes }
theorem M_spec_DrawFinishTimes : Meets gl0 Tryz.prog 4 S_spec_DrawFinishTimes := meets_of (P := Tryz.prog) (c := c_spec_DrawFinishTimes) (fn := Tryz.f4) (pm := S_spec_DrawFinishTimes.pm) (rm := S_spec_DrawFinishTimes.rm) (by kernel_rfl) (lookCons M_spec_l1Cur_orders (lookCons M_spec_l1Cur_sequence lookNil)) follows_mixed Tryz.func4 (by kernel_rfl) (by kernel_rfl) rfl
/-- loop.example/g01054/spec.DrawOrderText -/
@[reducible] noncomputable def c_spec_DrawOrderText : Cx := { K := [.dat 2, .no, .box 4 0 false, .ref 7, .dat 1, .dat 2, .dat 2, .box 3 2 false, .ref 7, .dat 1, .dat 1, .dat 0, .dat 0, .ref 7, .dat 1, .dat 0, .dat 0, .dat 1, .ref 7, .dat 1, .dat 0, .dat 0, .dat 1, .dat 0], T := [(3, ty3), (22, ty22), (23, ty23), (24, ty24), (36, ty36), (45, ty45), (47, ty47)], S := [(19, S_spec_l1Cur_orders), (32, S_spec_l1Cur_among), (33, S_spec_l1Cur_pick)], H := [], res := [.cell 2 36], ios := [], G := gl0 }
noncomputable def F_spec_DrawOrderText : List D → Option Out := denF c_spec_DrawOrderText Tryz.f13
@[reducible] noncomputable def S_spec_DrawOrderText : FS := { pm := [.dat 2], rm := [.dat 0], f := F_spec_DrawOrderText }
theorem M_spec_DrawOrderText : Meets gl0 Tryz.prog 13 S_spec_DrawOrderText := meets_of (P := Tryz.prog) (c := c_spec_DrawOrderText) (fn := Tryz.f13) (pm := S_spec_DrawOrderText.pm) (rm := S_spec_DrawOrderText.rm) (by kernel_rfl) (lookCons M_spec_l1Cur_orders (lookCons M_spec_l1Cur_among (lookCons M_spec_l1Cur_pick lookNil))) follows_mixed Tryz.func13 (by kernel_rfl) (by kernel_rfl) rfl
/-- (*loop.example/g01054/spec.l1Cur).spoilt -/
@[reducible] noncomputable def c_spec_l1Cur_spoilt : Cx := { K := [.box 3 2 true, .dat 0, .dat 0, .no, .no, .no, .dat 0, .dat 0, .dat 0, .dat 0, .ref 0, .dat 0, .dat 0, .dat 0, .dat 0, .dat 0, .dat 0, .dat 0, .dat 0, .dat 0, .dat 0, .dat 0, .ref 0, .dat 0, .dat 0, .dat 0, .dat 0, .ref 0, .dat 0, .dat 0, .dat 0, .dat 0, .dat 1, .dat 0, .ref 0, .dat 0, .dat 0, .dat 0, .dat 0, .dat 0, .dat 0, .dat 0, .dat 0, .dat 0, .dat 0, .dat 0, .dat 0, .dat 0, .dat 0, .dat 0, .dat 0, .dat 0, .dat 0, .dat 0, .dat 0, .dat 0, .dat 0, .dat 0, .dat 0, .dat 0, .dat 0, .dat 0, .dat 0, .dat 0, .dat 0, .dat 0, .dat 0, .dat 0], T := [(3, ty3), (5, ty5), (9, ty9), (22, ty22)], S := [(33, S_spec_l1Cur_pick)], H := [(0, ([0, 1, 2, 7], [0, 1]))], res := [.tmp 6], ios := [0], G := gl0 }
noncomputable def F_spec_l1Cur_spoilt : List D → Option Out := denF c_spec_l1Cur_spoilt Tryz.f37
@[reducible] noncomputable def S_spec_l1Cur_spoilt : FS := { pm := [.box 3 2 true, .dat 0, .dat 0], rm := [.dat 0], f := F_spec_l1Cur_spoilt }
theorem M_spec_l1Cur_spoilt : Meets gl0 Tryz.prog 37 S_spec_l1Cur_spoilt := meets_of (P := Tryz.prog) (c := c_spec_l1Cur_spoilt) (fn := Tryz.f37) (pm := S_spec_l1Cur_spoilt.pm) (rm := S_spec_l1Cur_spoilt.rm) (by kernel_rfl) (lookCons M_spec_l1Cur_pick lookNil) follows_mixed Tryz.func37 (by kernel_rfl) (by kernel_rfl) rfl
/-- (*loop.example/g01054/spec.l1Cur).of -/
@[reducible] noncomputable def c_spec_l1Cur_of : Cx := { K := [.box 3 2 true, .dat 2, .no, .no, .dat 0, .dat 2, .ref 0, .dat 2, .dat 0, .dat 0, .dat 2, .dat 0], T := [(9, ty9), (64, ty64)], S := [(33, S_spec_l1Cur_pick)], H := [], res := [.tmp 4], ios := [0], G := gl0 }
noncomputable def F_spec_l1Cur_of : List D → Option Out := denF c_spec_l1Cur_of Tryz.f38
@[reducible] noncomputable def S_spec_l1Cur_of : FS := { pm := [.box 3 2 true, .dat 2], rm := [.dat 0], f := F_spec_l1Cur_of }
theorem M_spec_l1Cur_of : Meets gl0 Tryz.prog 38 S_spec_l1Cur_of := meets_of (P := Tryz.prog) (c := c_spec_l1Cur_of) (fn := Tryz.f38) (pm := S_spec_l1Cur_of.pm) (rm := S_spec_l1Cur_of.rm) (by kernel_rfl) (lookCons M_spec_l1Cur_pick lookNil) follows_mixed Tryz.func38 (by kernel_rfl) (by kernel_rfl) rfl
/-- loop.example/g01054/spec.DrawParseOrder -/
@[reducible] noncomputable def c_spec_DrawParseOrder : Cx := { K := [.dat 2, .no, .dat 0, .ref 7, .dat 0, .dat 2, .dat 2, .box 3 2 false, .ref 7, .dat 0, .dat 0, .ref 7, .dat 0, .ref 7, .dat 0, .ref 7, .dat 0, .dat 0, .dat 0, .ref 7, .dat 0, .dat 0, .dat 0, .ref 7, .dat 0, .dat 0, .dat 0, .dat 0, .ref 7, .dat 1, .dat 0, .dat 0], T := [(3, ty3), (9, ty9), (22, ty22), (36, ty36), (45, ty45), (47, ty47), (64, ty64)], S := [(33, S_spec_l1Cur_pick), (36, S_spec_orText), (37, S_spec_l1Cur_spoilt), (38, S_spec_l1Cur_of)], H := [], res := [.tmp 2], ios := [], G := gl0 }
noncomputable def F_spec_DrawParseOrder : List D → Option Out := denF c_spec_DrawParseOrder Tryz.f16
@[reducible] noncomputable def S_spec_DrawParseOrder : FS := { pm := [.dat 2], rm := [.dat 0], f := F_spec_DrawParseOrder }
theorem M_spec_DrawParseOrder : Meets gl0 Tryz.prog 16 S_spec_DrawParseOrder := meets_of (P := Tryz.prog) (c := c_spec_DrawParseOrder) (fn := Tryz.f16) (pm := S_spec_DrawParseOrder.pm) (rm := S_spec_DrawParseOrder.rm) (by kernel_rfl) (lookCons M_spec_l1Cur_pick (lookCons M_spec_orText (lookCons M_spec_l1Cur_spoilt (lookCons M_spec_l1Cur_of lookNil)))) follows_mixed Tryz.func16 (by kernel_rfl) (by kernel_rfl) rfl
/-- loop.example/g01054/laws.qInts -/
@[reducible] noncomputable def c_laws_qInts : Cx := { K := [.dat 2, .dat 2, .no, .no, .dat 0, .dat 0, .dat 2, .dat 0, .dat 2, .dat 0, .dat 0, .dat 2, .dat 0, .dat 0, .dat 0, .dat 0, .dat 2, .dat 0, .dat 2, .dat 0, .dat 2, .dat 0, .dat 2, .dat 0, .dat 0, .dat 0], T := [(3, ty3), (24, ty24)], S := [], H := [(0, ([0, 1, 12, 13], []))], res := [.tmp 4], ios := [], G := gl0 }
noncomputable def F_laws_qInts : List D → Option Out := denF c_laws_qInts Tryz.f11
@[reducible] noncomputable def S_laws_qInts : FS := { pm := [.dat 2, .dat 2], rm := [.dat 0], f := F_laws_qInts }
theorem M_laws_qInts : Meets gl0 Tryz.prog 11 S_laws_qInts := meets_of (P := Tryz.prog) (c := c_laws_qInts) (fn := Tryz.f11) (pm := S_laws_qInts.pm) (rm := S_laws_qInts.rm) (by kernel_rfl) lookNil follows_mixed Tryz.func11 (by kernel_rfl) (by kernel_rfl) rfl
end Go.Proofs.YtecaabmaoaacnaaGreatDoor
/-
  What the functions compute: their evaluated texts, printed.
-/
namespace Go.Proofs.YtecaabmaoaacnaaGreatDoor
open Go Go.V
theorem t_spec_l1In (x0 x1 x2 : D) : F_spec_l1In [x0, x1, x2] =
  ((bin BinOp.geq false [] x0 x1).bind fun z => (gate (D.tup []) z true (some x0)).bind fun z_1 => (gate (D.tup []) z true (some x2)).bind fun z_2 => (gate (D.tup []) z true (bin BinOp.leq false [] z_1 z_2)).bind fun z_3 =>
 (pickD z z_3 (D.v (Value.bool false))).bind fun z => some (Out.ret [z] [])) := by kernel_rfl
theorem t_spec_orOne (x0 : D) : F_spec_orOne [x0] =
  ((boxD 4 x0).bind fun y => (liveD y (D.ref 0 0)).bind fun z => ((atD y z).bind (takeD false 1)).bind fun z => callK (F_spec_l1In [z, D.v (Value.int IntKind.i64 1), D.v (Value.int IntKind.i64 99)]) fun rs _u =>
 (gate D.bad (sl rs 0) true (liveD y (D.ref 0 1))).bind fun z => (gate (D.tup []) (sl rs 0) true ((atD y z).bind (takeD false 1))).bind fun z => gateC (sl rs 0) true
 (callK (F_spec_l1In [z, D.v (Value.int IntKind.i64 0), D.v (Value.int IntKind.i64 500)]) fun rs _u => some (Out.nrm [sl rs 0])) [D.tup []] fun outs => (pickD (sl rs 0) (sl outs 0) (D.v (Value.bool false))).bind fun z =>
 (gate D.bad z true (liveD y (D.ref 0 2))).bind fun z_1 => (gate (D.tup []) z true ((atD y z_1).bind (takeD false 1))).bind fun z_2 => gateC z true
 (callK (F_spec_l1In [z_2, D.v (Value.int IntKind.i64 0), D.v (Value.int IntKind.i64 500)]) fun rs _u => some (Out.nrm [sl rs 0])) [D.tup []] fun outs => (pickD z (sl outs 0) (D.v (Value.bool false))).bind fun z =>
 (gate D.bad z true (liveD y (D.ref 0 3))).bind fun z_3 => (gate (D.tup []) z true ((atD y z_3).bind (takeD false 1))).bind fun z_4 => gateC z true (callK
 (F_spec_l1In [z_4, D.v (Value.int IntKind.i64 0), D.v (Value.int IntKind.i64 10000)]) fun rs _u => some (Out.nrm [sl rs 0])) [D.tup []] fun outs =>
 (pickD z (sl outs 0) (D.v (Value.bool false))).bind fun z => some (Out.ret [z] [])) := by kernel_rfl
theorem t_spec_orGood (x0 : D) : F_spec_orGood [x0] =
  ((lenD false x0).bind fun z => (loopC (fun s => (bin BinOp.lss false [] (sl s 3) (sl s 2)).bind fun z => ifD z ((Option.map D.ptr (elemD 4 (sl s 1) (sl s 3))).bind fun z => ((ldD true 4 z).bind chkV).bind fun z => (stD 4
 (D.agg [D.v (Value.int IntKind.i64 0), D.v (Value.int IntKind.i64 0), D.v (Value.int IntKind.i64 0), D.v (Value.int IntKind.i64 0)]) (D.ref 0 0) z).bind fun b => (fldD true 4 0 b).bind fun z =>
 callK (F_spec_orOne [z]) fun rs _u => (un UnOp.not (sl rs 0)).bind fun z => (gate (D.tup []) z false (some (sl s 3))).bind fun z_1 => (gate (D.tup []) z false
 (bin BinOp.gtr false [] z_1 (D.v (Value.int IntKind.i64 0)))).bind fun z_2 => (gate (D.tup []) z false (some z_2)).bind fun z_3 => (gate (D.tup []) z_3 true (some (sl s 0))).bind fun z_4 =>
 (gate (D.tup []) z_3 true (some (sl s 3))).bind fun z_5 => (gate (D.tup []) z_3 true (bin BinOp.sub false [] z_5 (D.v (Value.int IntKind.i64 1)))).bind fun z_6 =>
 (gate (D.tup []) z_3 true (Option.map D.ptr (elemD 4 z_4 z_6))).bind fun z_7 => (gate (D.tup []) z_3 true (offD 0 z_7)).bind fun z_8 => (gate (D.tup []) z_3 true ((ldD false 1 z_8).bind chkV)).bind fun z_9 =>
 (gate D.bad z_3 true (liveD b (D.ref 0 0))).bind fun z_10 => (gate (D.tup []) z_3 true ((atD b z_10).bind (takeD false 1))).bind fun z_11 => (gate (D.tup []) z_3 true (bin BinOp.geq false [] z_9 z_11)).bind fun z_12 =>
 (gate (D.tup []) z false (pickD z_3 z_12 (D.v (Value.bool false)))).bind fun z_13 => (pickD z (D.v (Value.bool true)) z_13).bind fun z => ifD z (some (Out.ret [D.v (Value.bool false)] []))
 ((bin BinOp.add false [] (sl s 3) (D.v (Value.int IntKind.i64 1))).bind fun z => some (Out.nrm [sl s 0, sl s 1, sl s 2, z]))) (some (Out.ext 0 [sl s 0]))) [x0, x0, z, D.v (Value.int IntKind.i64 0)]).bind fun o => outK o
 (fun i s => ifN (i.beq 0) ((lenD false (sl s 0)).bind fun z => (bin BinOp.leq false [] z (D.v (Value.int IntKind.i64 8))).bind fun z => some (Out.ret [z] [])) none) fun a b => some (Out.ret a b)) := by kernel_rfl
theorem t_spec_l1Has (x0 x1 : D) : F_spec_l1Has [x0, x1] =
  ((lenD false x0).bind fun z => (loopC (fun s => (bin BinOp.lss false [] (sl s 3) (sl s 2)).bind fun z => ifD z ((Option.map D.ptr (elemD 1 (sl s 1) (sl s 3))).bind fun z => ((ldD false 1 z).bind chkV).bind fun z =>
 (bin BinOp.eql false [] z (sl s 0)).bind fun z => ifD z (some (Out.ret [D.v (Value.bool true)] [])) ((bin BinOp.add false [] (sl s 3) (D.v (Value.int IntKind.i64 1))).bind fun z =>
 some (Out.nrm [sl s 0, sl s 1, sl s 2, z]))) (some (Out.ext 0 []))) [x1, x0, z, D.v (Value.int IntKind.i64 0)]).bind fun o =>
 outK o (fun i _u => ifN (i.beq 0) (some (Out.ret [D.v (Value.bool false)] [])) none) fun a b => some (Out.ret a b)) := by kernel_rfl
theorem t_spec_orAsked (x0 x1 : D) : F_spec_orAsked [x0, x1] =
  (callK (F_spec_orGood [x0]) fun rs _u => (un UnOp.not (sl rs 0)).bind fun z => (gate (D.tup []) z false (some x1)).bind fun z_1 => (gate (D.tup []) z false (lenD false z_1)).bind fun z_2 =>
 (gate (D.tup []) z false (some x0)).bind fun z_3 => (gate (D.tup []) z false (lenD false z_3)).bind fun z_4 => (gate (D.tup []) z false (bin BinOp.neq false [] z_2 z_4)).bind fun z_5 =>
 (pickD z (D.v (Value.bool true)) z_5).bind fun z => ifD z (some (Out.ret [D.v (Value.bool false)] [])) ((lenD false x1).bind fun z => (loopC (fun s => (bin BinOp.lss false [] (sl s 4) (sl s 3)).bind fun z => ifD z
 ((Option.map D.ptr (elemD 1 (sl s 2) (sl s 4))).bind fun z => ((ldD false 1 z).bind chkV).bind fun z => (lenD false (sl s 0)).bind fun z_6 => (bin BinOp.sub false [] z_6 (D.v (Value.int IntKind.i64 1))).bind fun z_7 =>
 callK (F_spec_l1In [z, D.v (Value.int IntKind.i64 0), z_7]) fun rs _u => (un UnOp.not (sl rs 0)).bind fun z_8 => (gate (D.tup []) z_8 false (some (sl s 1))).bind fun z_9 =>
 (gate (D.tup []) z_8 false (some (sl s 4))).bind fun z_10 => (gate (D.tup []) z_8 false (sliceD false 1 z_9 (D.v (Value.int IntKind.i64 0)) z_10)).bind fun z_11 => (gate (D.tup []) z_8 false (some z)).bind fun z =>
 gateC z_8 false (callK (F_spec_l1Has [z_11, z]) fun rs _u => some (Out.nrm [sl rs 0])) [D.tup []] fun outs => (pickD z_8 (D.v (Value.bool true)) (sl outs 0)).bind fun z =>
 ifD z (some (Out.ret [D.v (Value.bool false)] [])) ((bin BinOp.add false [] (sl s 4) (D.v (Value.int IntKind.i64 1))).bind fun z => some (Out.nrm [sl s 0, sl s 1, sl s 2, sl s 3, z]))) (some (Out.ext 0 [])))
 [x0, x1, x1, z, D.v (Value.int IntKind.i64 0)]).bind fun o => outK o (fun i _u => ifN (i.beq 0) (some (Out.ret [D.v (Value.bool true)] [])) none) fun a b => some (Out.ret a b))) := by kernel_rfl
theorem t_spec_l1Most (x0 x1 : D) : F_spec_l1Most [x0, x1] =
  ((bin BinOp.gtr false [] x0 x1).bind fun z => ifD z (some (Out.ret [x0] [])) (some (Out.ret [x1] []))) := by kernel_rfl
theorem t_spec_orTimes (x0 x1 : D) : F_spec_orTimes [x0, x1] =
  ((lenD false x1).bind fun z => (loopC (fun s => (bin BinOp.lss false [] (sl s 7) (sl s 6)).bind fun z => ifD z ((Option.map D.ptr (elemD 1 (sl s 5) (sl s 7))).bind fun z => ((ldD false 1 z).bind chkV).bind fun z =>
 (Option.map D.ptr (elemD 4 (sl s 0) z)).bind fun z_1 => (offD 1 z_1).bind fun z_2 => ((ldD false 1 z_2).bind chkV).bind fun z_3 => (bin BinOp.add false [] (sl s 2) z_3).bind fun z_4 =>
 (bin BinOp.sub false [] z_4 (sl s 3)).bind fun z_5 => callK (F_spec_l1Most [D.v (Value.int IntKind.i64 0), z_5]) fun rs _u => (bin BinOp.add false [] (sl s 4) (sl rs 0)).bind fun z_6 =>
 callK (F_spec_l1Most [sl s 3, z_4]) fun rs _u => (Option.map D.ptr (elemD 4 (sl s 0) z)).bind fun z => (offD 2 z).bind fun z => ((ldD false 1 z).bind chkV).bind fun z => (bin BinOp.add false [] (sl rs 0) z).bind fun z =>
 (mkArr 1 [z]).bind fun a => (chkA a).bind fun b => (appD 1 8 (sl s 1) b).bind fun y => (bin BinOp.add false [] (sl s 7) (D.v (Value.int IntKind.i64 1))).bind fun z_7 =>
 some (Out.nrm [sl s 0, y, z_4, z, z_6, sl s 5, sl s 6, z_7])) (some (Out.ext 0 [sl s 1, sl s 4]))) [x0, D.arr 1 [], D.v (Value.int IntKind.i64 0), D.v (Value.int IntKind.i64 0), D.v (Value.int IntKind.i64 0),
 x1, z, D.v (Value.int IntKind.i64 0)]).bind fun o => outK o (fun i s => ifN (i.beq 0) (some (Out.ret [sl s 0, sl s 1] [])) none) fun a b => some (Out.ret a b)) := by kernel_rfl
theorem t_spec_FinishTimes (x0 x1 : D) : F_spec_FinishTimes [x0, x1] =
  (callK (F_spec_orAsked [x0, x1]) fun rs _u => (un UnOp.not (sl rs 0)).bind fun z => ifD z (some (Out.ret [D.arr 1 [], D.v (Value.bool false)] [])) (callK (F_spec_orTimes [x0, x1]) fun rs _u =>
 (tupAt (D.tup rs) 0).bind fun y => (tupAt (tupCut (D.tup rs) 0) 1).bind fun _u => some (Out.ret [y, D.v (Value.bool true)] []))) := by kernel_rfl
theorem t_impl_isOrder (x0 : D) : F_impl_isOrder [x0] =
  ((boxD 4 x0).bind fun y => (liveD y (D.ref 0 0)).bind fun z => ((atD y z).bind (takeD false 1)).bind fun z => callK (F_impl_within [z, D.v (Value.int IntKind.i64 1), D.v (Value.int IntKind.i64 99)]) fun rs _u =>
 (gate D.bad (sl rs 0) true (liveD y (D.ref 0 1))).bind fun z => (gate (D.tup []) (sl rs 0) true ((atD y z).bind (takeD false 1))).bind fun z => gateC (sl rs 0) true
 (callK (F_impl_within [z, D.v (Value.int IntKind.i64 0), D.v (Value.int IntKind.i64 500)]) fun rs _u => some (Out.nrm [sl rs 0])) [D.tup []] fun outs => (pickD (sl rs 0) (sl outs 0) (D.v (Value.bool false))).bind fun z =>
 (gate D.bad z true (liveD y (D.ref 0 2))).bind fun z_1 => (gate (D.tup []) z true ((atD y z_1).bind (takeD false 1))).bind fun z_2 => gateC z true
 (callK (F_impl_within [z_2, D.v (Value.int IntKind.i64 0), D.v (Value.int IntKind.i64 500)]) fun rs _u => some (Out.nrm [sl rs 0])) [D.tup []] fun outs => (pickD z (sl outs 0) (D.v (Value.bool false))).bind fun z =>
 (gate D.bad z true (liveD y (D.ref 0 3))).bind fun z_3 => (gate (D.tup []) z true ((atD y z_3).bind (takeD false 1))).bind fun z_4 => gateC z true (callK (F_impl_within
 [z_4, D.v (Value.int IntKind.i64 0), D.v (Value.int IntKind.i64 10000)]) fun rs _u => some (Out.nrm [sl rs 0])) [D.tup []] fun outs => (pickD z (sl outs 0) (D.v (Value.bool false))).bind fun z => some (Out.ret [z] [])) := by kernel_rfl
theorem t_impl_AreOrders (x0 : D) : F_impl_AreOrders [x0] =
  ((lenD false x0).bind fun z => (loopC (fun s => (bin BinOp.lss false [] (sl s 3) (sl s 2)).bind fun z => ifD z ((Option.map D.ptr (elemD 4 (sl s 1) (sl s 3))).bind fun z => ((ldD true 4 z).bind chkV).bind fun z => (stD 4
 (D.agg [D.v (Value.int IntKind.i64 0), D.v (Value.int IntKind.i64 0), D.v (Value.int IntKind.i64 0), D.v (Value.int IntKind.i64 0)]) (D.ref 0 0) z).bind fun b => (fldD true 4 0 b).bind fun z =>
 callK (F_impl_isOrder [z]) fun rs _u => (un UnOp.not (sl rs 0)).bind fun z => (gate (D.tup []) z false (some (sl s 3))).bind fun z_1 => (gate (D.tup []) z false
 (bin BinOp.gtr false [] z_1 (D.v (Value.int IntKind.i64 0)))).bind fun z_2 => (gate (D.tup []) z false (some z_2)).bind fun z_3 => (gate (D.tup []) z_3 true (some (sl s 0))).bind fun z_4 =>
 (gate (D.tup []) z_3 true (some (sl s 3))).bind fun z_5 => (gate (D.tup []) z_3 true (bin BinOp.sub false [] z_5 (D.v (Value.int IntKind.i64 1)))).bind fun z_6 =>
 (gate (D.tup []) z_3 true (Option.map D.ptr (elemD 4 z_4 z_6))).bind fun z_7 => (gate (D.tup []) z_3 true (offD 0 z_7)).bind fun z_8 => (gate (D.tup []) z_3 true ((ldD false 1 z_8).bind chkV)).bind fun z_9 =>
 (gate D.bad z_3 true (liveD b (D.ref 0 0))).bind fun z_10 => (gate (D.tup []) z_3 true ((atD b z_10).bind (takeD false 1))).bind fun z_11 => (gate (D.tup []) z_3 true (bin BinOp.geq false [] z_9 z_11)).bind fun z_12 =>
 (gate (D.tup []) z false (pickD z_3 z_12 (D.v (Value.bool false)))).bind fun z_13 => (pickD z (D.v (Value.bool true)) z_13).bind fun z => ifD z (some (Out.ret [D.v (Value.bool false)] []))
 ((bin BinOp.add false [] (sl s 3) (D.v (Value.int IntKind.i64 1))).bind fun z => some (Out.nrm [sl s 0, sl s 1, sl s 2, z]))) (some (Out.ext 0 [sl s 0]))) [x0, x0, z, D.v (Value.int IntKind.i64 0)]).bind fun o => outK o
 (fun i s => ifN (i.beq 0) ((lenD false (sl s 0)).bind fun z => (bin BinOp.leq false [] z (D.v (Value.int IntKind.i64 8))).bind fun z => some (Out.ret [z] [])) none) fun a b => some (Out.ret a b)) := by kernel_rfl
theorem t_impl_isSequence (x0 x1 : D) : F_impl_isSequence [x0, x1] =
  (callK (F_impl_AreOrders [x0]) fun rs _u => (gate (D.tup []) (sl rs 0) true (some x1)).bind fun z => (gate (D.tup []) (sl rs 0) true (lenD false z)).bind fun z => (gate (D.tup []) (sl rs 0) true (some x0)).bind fun z_1 =>
 (gate (D.tup []) (sl rs 0) true (lenD false z_1)).bind fun z_2 => (gate (D.tup []) (sl rs 0) true (bin BinOp.eql false [] z z_2)).bind fun z => (pickD (sl rs 0) z (D.v (Value.bool false))).bind fun z =>
 (gate (D.tup []) z true (some x1)).bind fun z_3 => (gate (D.tup []) z true (some x0)).bind fun z_4 => (gate (D.tup []) z true (lenD false z_4)).bind fun z_5 =>
 gateC z true (callK (fDif [z_3, z_5]) fun rs _u => some (Out.nrm [sl rs 0])) [D.tup []] fun outs => (pickD z (sl outs 0) (D.v (Value.bool false))).bind fun z => some (Out.ret [z] [])) := by kernel_rfl
theorem t_impl_finished (x0 x1 : D) : F_impl_finished [x0, x1] =
  ((mkArr 1 []).bind fun a => (lenD false x1).bind fun z => (loopC (fun s => (bin BinOp.lss false [] (sl s 6) (sl s 5)).bind fun z => ifD z ((Option.map D.ptr (elemD 1 (sl s 4) (sl s 6))).bind fun z =>
 ((ldD false 1 z).bind chkV).bind fun z => (Option.map D.ptr (elemD 4 (sl s 0) z)).bind fun z_1 => (offD 1 z_1).bind fun z_2 => ((ldD false 1 z_2).bind chkV).bind fun z_3 =>
 (bin BinOp.add false [] (sl s 2) z_3).bind fun z_4 => ((maxD (sl s 3) z_4).bind fun z => some z).bind fun z_5 => (Option.map D.ptr (elemD 4 (sl s 0) z)).bind fun z => (offD 2 z).bind fun z =>
 ((ldD false 1 z).bind chkV).bind fun z => (bin BinOp.add false [] z_5 z).bind fun z => (mkArr 1 [z]).bind fun a => (chkA a).bind fun b => (appD 1 8 (sl s 1) b).bind fun y =>
 (bin BinOp.add false [] (sl s 6) (D.v (Value.int IntKind.i64 1))).bind fun z_6 => some (Out.nrm [sl s 0, y, z_4, z, sl s 4, sl s 5, z_6])) (some (Out.ext 0 [sl s 1])))
 [x0, a, D.v (Value.int IntKind.i64 0), D.v (Value.int IntKind.i64 0), x1, z, D.v (Value.int IntKind.i64 0)]).bind fun o => outK o (fun i s => ifN (i.beq 0) (some (Out.ret [sl s 0] [])) none) fun a b => some (Out.ret a b)) := by kernel_rfl
theorem t_impl_FinishTimes (x0 x1 : D) : F_impl_FinishTimes [x0, x1] =
  (callK (F_impl_isSequence [x0, x1]) fun rs _u => (un UnOp.not (sl rs 0)).bind fun z => ifD z ((mkArr 1 []).bind fun a => some (Out.ret [a, D.v (Value.bool false)] []))
 (callK (F_impl_finished [x0, x1]) fun rs _u => some (Out.ret [sl rs 0, D.v (Value.bool true)] []))) := by kernel_rfl
theorem t_spec_IdlePress (x0 x1 : D) : F_spec_IdlePress [x0, x1] =
  (callK (F_spec_orAsked [x0, x1]) fun rs _u => (un UnOp.not (sl rs 0)).bind fun z => ifD z (some (Out.ret [D.v (Value.int IntKind.i64 0), D.v (Value.bool false)] [])) (callK (F_spec_orTimes [x0, x1]) fun rs _u =>
 (tupAt (D.tup rs) 0).bind fun _u => (tupAt (tupCut (D.tup rs) 0) 1).bind fun z => some (Out.ret [z, D.v (Value.bool true)] []))) := by kernel_rfl
theorem t_impl_greatest (x0 : D) : F_impl_greatest [x0] =
  ((lenD false x0).bind fun z => (loopC (fun s => (bin BinOp.lss false [] (sl s 3) (sl s 2)).bind fun z => ifD z ((Option.map D.ptr (elemD 1 (sl s 1) (sl s 3))).bind fun z => ((ldD false 1 z).bind chkV).bind fun z =>
 ((maxD (sl s 0) z).bind fun z => some z).bind fun z => (bin BinOp.add false [] (sl s 3) (D.v (Value.int IntKind.i64 1))).bind fun z_1 => some (Out.nrm [z, sl s 1, sl s 2, z_1])) (some (Out.ext 0 [sl s 0])))
 [D.v (Value.int IntKind.i64 0), x0, z, D.v (Value.int IntKind.i64 0)]).bind fun o => outK o (fun i s => ifN (i.beq 0) (some (Out.ret [sl s 0] [])) none) fun a b => some (Out.ret a b)) := by kernel_rfl
theorem t_impl_IdlePress (x0 x1 : D) : F_impl_IdlePress [x0, x1] =
  (callK (F_impl_isSequence [x0, x1]) fun rs _u => (un UnOp.not (sl rs 0)).bind fun z => ifD z (some (Out.ret [D.v (Value.int IntKind.i64 0), D.v (Value.bool false)] [])) (callK (F_impl_finished [x0, x1]) fun rs _u =>
 callK (F_impl_greatest [sl rs 0]) fun rs _u => (lenD false x0).bind fun z => (loopC (fun s => (bin BinOp.lss false [] (sl s 3) (sl s 2)).bind fun z => ifD z ((Option.map D.ptr (elemD 4 (sl s 1) (sl s 3))).bind fun z =>
 ((ldD true 4 z).bind chkV).bind fun z => (stD 4 (D.agg [D.v (Value.int IntKind.i64 0), D.v (Value.int IntKind.i64 0), D.v (Value.int IntKind.i64 0), D.v (Value.int IntKind.i64 0)]) (D.ref 0 0) z).bind fun b =>
 (liveD b (D.ref 0 2)).bind fun z => ((atD b z).bind (takeD false 1)).bind fun z => (bin BinOp.sub false [] (sl s 0) z).bind fun z => (bin BinOp.add false [] (sl s 3) (D.v (Value.int IntKind.i64 1))).bind fun z_1 =>
 some (Out.nrm [z, sl s 1, sl s 2, z_1])) (some (Out.ext 0 [sl s 0]))) [sl rs 0, x0, z, D.v (Value.int IntKind.i64 0)]).bind fun o =>
 outK o (fun i s => ifN (i.beq 0) (some (Out.ret [sl s 0, D.v (Value.bool true)] [])) none) fun a b => some (Out.ret a b))) := by kernel_rfl
theorem t_spec_orSorted (x0 : D) : F_spec_orSorted [x0] =
  ((lenD false x0).bind fun z => (loopC (fun s => (bin BinOp.lss false [] (sl s 3) (sl s 2)).bind fun z => ifD z ((lenD false (sl s 1)).bind fun z => (loopC (fun s =>
 (bin BinOp.gtr false [] (sl s 3) (D.v (Value.int IntKind.i64 0))).bind fun z => (gate (D.tup []) z true (some (sl s 0))).bind fun z_1 => (gate (D.tup []) z true (some (sl s 1))).bind fun z_2 =>
 (gate (D.tup []) z true (some (sl s 3))).bind fun z_3 => (gate (D.tup []) z true (bin BinOp.sub false [] z_3 (D.v (Value.int IntKind.i64 1)))).bind fun z_4 =>
 (gate (D.tup []) z true (Option.map D.ptr (elemD 1 z_2 z_4))).bind fun z_5 => (gate (D.tup []) z true ((ldD false 1 z_5).bind chkV)).bind fun z_6 =>
 (gate (D.tup []) z true (Option.map D.ptr (elemD 1 z_1 z_6))).bind fun z_7 => (gate (D.tup []) z true ((ldD false 1 z_7).bind chkV)).bind fun z_8 => (gate (D.tup []) z true (some (sl s 0))).bind fun z_9 =>
 (gate (D.tup []) z true (some (sl s 2))).bind fun z_10 => (gate (D.tup []) z true (Option.map D.ptr (elemD 1 z_9 z_10))).bind fun z_11 => (gate (D.tup []) z true ((ldD false 1 z_11).bind chkV)).bind fun z_12 =>
 (gate (D.tup []) z true (bin BinOp.gtr false [] z_8 z_12)).bind fun z_13 => (pickD z z_13 (D.v (Value.bool false))).bind fun z => ifD z ((bin BinOp.sub false [] (sl s 3) (D.v (Value.int IntKind.i64 1))).bind fun z =>
 some (Out.nrm [sl s 0, sl s 1, sl s 2, z, sl s 4, sl s 5])) (some (Out.ext 2 [sl s 0, sl s 1, sl s 2, sl s 3, sl s 4, sl s 5]))) [sl s 0, sl s 1, sl s 3, z, sl s 2, sl s 3]).bind fun o => outK o (fun i s => ifN (i.beq 2)
 ((mkArr 1 []).bind fun a => (sliceD false 1 (sl s 1) (D.v (Value.int IntKind.i64 0)) (sl s 3)).bind fun z => (chkA z).bind fun b => (appD 1 8 a b).bind fun y => (mkArr 1 [sl s 2]).bind fun a => (chkA a).bind fun b =>
 (appD 1 8 y b).bind fun y => (sliceHi false 1 (sl s 1) (sl s 3)).bind fun z => (appD 1 8 y z).bind fun y => (bin BinOp.add false [] (sl s 5) (D.v (Value.int IntKind.i64 1))).bind
 fun z => some (Out.nrm [sl s 0, y, sl s 4, z])) (ifN (i.beq 1) ((bin BinOp.add false [] (sl s 5) (D.v (Value.int IntKind.i64 1))).bind fun z => some (Out.nrm [sl s 0, sl s 1, sl s 4, z])) (some (Out.ext i [sl s 1]))))
 fun a b => some (Out.ret a b)) (some (Out.ext 0 [sl s 1]))) [x0, D.arr 1 [], z, D.v (Value.int IntKind.i64 0)]).bind
 fun o => outK o (fun i s => ifN (i.beq 0) (some (Out.ret [sl s 0] [])) none) fun a b => some (Out.ret a b)) := by kernel_rfl
theorem t_spec_orEnd (x0 x1 : D) : F_spec_orEnd [x0, x1] =
  (callK (F_spec_orTimes [x0, x1]) fun rs _u => (tupAt (D.tup rs) 0).bind fun y => (tupAt (tupCut (D.tup rs) 0) 1).bind fun _u => (lenD false y).bind fun z =>
 (bin BinOp.eql false [] z (D.v (Value.int IntKind.i64 0))).bind fun z => ifD z (some (Out.ret [D.v (Value.int IntKind.i64 0)] [])) ((lenD false y).bind fun z =>
 (bin BinOp.sub false [] z (D.v (Value.int IntKind.i64 1))).bind fun z => (Option.map D.ptr (elemD 1 y z)).bind fun z => ((ldD false 1 z).bind chkV).bind fun z => some (Out.ret [z] []))) := by kernel_rfl
theorem t_spec_FastestSequence (x0 : D) : F_spec_FastestSequence [x0] =
  (callK (F_spec_orGood [x0]) fun rs _u => (un UnOp.not (sl rs 0)).bind fun z => ifD z (some (Out.ret [D.arr 1 [], D.v (Value.int IntKind.i64 0), D.v (Value.bool false)] [])) ((lenD false x0).bind fun z => (loopC (fun s =>
 (bin BinOp.lss false [] (sl s 4) (sl s 3)).bind fun z => ifD z ((Option.map D.ptr (elemD 4 (sl s 2) (sl s 4))).bind fun z => ((ldD true 4 z).bind chkV).bind fun z => (stD 4 (D.agg
 [D.v (Value.int IntKind.i64 0), D.v (Value.int IntKind.i64 0), D.v (Value.int IntKind.i64 0), D.v (Value.int IntKind.i64 0)]) (D.ref 0 0) z).bind fun b => (liveD b (D.ref 0 1)).bind fun z =>
 ((atD b z).bind (takeD false 1)).bind fun z => (liveD b (D.ref 0 2)).bind fun z_1 => ((atD b z_1).bind (takeD false 1)).bind fun z_2 => (bin BinOp.lss false [] z z_2).bind fun z => ifD z
 ((liveD b (D.ref 0 1)).bind fun z => ((atD b z).bind (takeD false 1)).bind fun z => (mkArr 1 [z]).bind fun a => (chkA a).bind fun b => (appD 1 8 (sl s 1) b).bind fun y =>
 (bin BinOp.add false [] (sl s 4) (D.v (Value.int IntKind.i64 1))).bind fun z => some (Out.nrm [sl s 0, y, sl s 2, sl s 3, z])) ((liveD b (D.ref 0 2)).bind fun z => ((atD b z).bind (takeD false 1)).bind fun z =>
 (bin BinOp.sub false [] (D.v (Value.int IntKind.i64 2000)) z).bind fun z => (mkArr 1 [z]).bind fun a => (chkA a).bind fun b => (appD 1 8 (sl s 1) b).bind fun y => (bin BinOp.add false [] (sl s 4)
 (D.v (Value.int IntKind.i64 1))).bind fun z => some (Out.nrm [sl s 0, y, sl s 2, sl s 3, z]))) (some (Out.ext 0 [sl s 0, sl s 1]))) [x0, D.arr 1 [], x0, z, D.v (Value.int IntKind.i64 0)]).bind fun o => outK o (fun i s =>
 ifN (i.beq 0) ((liveD (sl s 1) (D.ref 0 0)).bind fun z => (liveD z (sl s 1)).bind fun i => callK (F_spec_orSorted [i]) fun rs _u => callK (F_spec_orEnd [sl s 0, sl rs 0]) fun rs_1 _u =>
 some (Out.ret [sl rs 0, sl rs_1 0, D.v (Value.bool true)] [])) none) fun a b => some (Out.ret a b))) := by kernel_rfl
theorem t_impl_orderText (x0 : D) : F_impl_orderText [x0] =
  ((boxD 4 x0).bind fun y => (liveD y (D.ref 0 0)).bind fun z => ((atD y z).bind (takeD false 1)).bind fun z => callK (fItoa [z]) fun rs _u =>
 (bin BinOp.add false [] (D.v (Value.string { data := { toList := [35] } })) (sl rs 0)).bind fun z => (bin BinOp.add false [] z (D.v (Value.string { data := { toList := [32] } }))).bind fun z =>
 (liveD y (D.ref 0 1)).bind fun z_1 => ((atD y z_1).bind (takeD false 1)).bind fun z_2 => callK (fItoa [z_2]) fun rs _u => (bin BinOp.add false [] z (sl rs 0)).bind fun z =>
 (bin BinOp.add false [] z (D.v (Value.string { data := { toList := [43] } }))).bind fun z => (liveD y (D.ref 0 2)).bind fun z_3 => ((atD y z_3).bind (takeD false 1)).bind fun z_4 => callK (fItoa [z_4]) fun rs _u =>
 (bin BinOp.add false [] z (sl rs 0)).bind fun z => (bin BinOp.add false [] z (D.v (Value.string { data := { toList := [32, 98, 121, 32] } }))).bind fun z => (liveD y (D.ref 0 3)).bind fun z_5 =>
 ((atD y z_5).bind (takeD false 1)).bind fun z_6 => callK (fItoa [z_6]) fun rs _u => (bin BinOp.add false [] z (sl rs 0)).bind fun z => some (Out.ret [z] [])) := by kernel_rfl
theorem t_impl_OrderText (x0 : D) : F_impl_OrderText [x0] =
  ((boxD 4 x0).bind fun y => (fldD true 4 0 y).bind fun z => callK (F_impl_isOrder [z]) fun rs _u => (un UnOp.not (sl rs 0)).bind fun z =>
 ifD z (some (Out.ret [D.v (Value.string { data := { toList := [] } }), D.v (Value.bool false)] [])) ((fldD true 4 0 y).bind fun z =>
 callK (F_impl_orderText [z]) fun rs _u => some (Out.ret [sl rs 0, D.v (Value.bool true)] []))) := by kernel_rfl
theorem t_spec_l1Num (n : Nat) (x0 : D) : R_spec_l1Num (n + 1) [x0] =
  ((bin BinOp.lss false [] x0 (D.v (Value.int IntKind.i64 10))).bind fun z => ifD z ((bin BinOp.add false [] (D.v (Value.int IntKind.i64 48)) x0).bind fun z => (convD (some IntKind.u8) false z).bind fun z =>
 (mkArr 1 [z]).bind fun a => (strD a).bind fun z => some (Out.ret [z] [])) ((bin BinOp.quo false [] x0 (D.v (Value.int IntKind.i64 10))).bind fun z => callK (R_spec_l1Num n [z]) fun rs _u =>
 (bin BinOp.rem false [] x0 (D.v (Value.int IntKind.i64 10))).bind fun z => (bin BinOp.add false [] (D.v (Value.int IntKind.i64 48)) z).bind fun z => (convD (some IntKind.u8) false z).bind fun z =>
 (mkArr 1 [z]).bind fun a => (strD a).bind fun z => (bin BinOp.add false [] (sl rs 0) z).bind fun z => some (Out.ret [z] []))) := by kernel_rfl
theorem t_spec_orText (x0 : D) : F_spec_orText [x0] =
  ((boxD 4 x0).bind fun y => (liveD y (D.ref 0 0)).bind fun z => ((atD y z).bind (takeD false 1)).bind fun z => callK (F_spec_l1Num [z]) fun rs _u =>
 (bin BinOp.add false [] (D.v (Value.string { data := { toList := [35] } })) (sl rs 0)).bind fun z => (bin BinOp.add false [] z (D.v (Value.string { data := { toList := [32] } }))).bind fun z =>
 (liveD y (D.ref 0 1)).bind fun z_1 => ((atD y z_1).bind (takeD false 1)).bind fun z_2 => callK (F_spec_l1Num [z_2]) fun rs _u => (bin BinOp.add false [] z (sl rs 0)).bind fun z =>
 (bin BinOp.add false [] z (D.v (Value.string { data := { toList := [43] } }))).bind fun z => (liveD y (D.ref 0 2)).bind fun z_3 => ((atD y z_3).bind (takeD false 1)).bind fun z_4 => callK (F_spec_l1Num [z_4]) fun rs _u =>
 (bin BinOp.add false [] z (sl rs 0)).bind fun z => (bin BinOp.add false [] z (D.v (Value.string { data := { toList := [32, 98, 121, 32] } }))).bind fun z => (liveD y (D.ref 0 3)).bind fun z_5 =>
 ((atD y z_5).bind (takeD false 1)).bind fun z_6 => callK (F_spec_l1Num [z_6]) fun rs _u => (bin BinOp.add false [] z (sl rs 0)).bind fun z => some (Out.ret [z] [])) := by kernel_rfl
theorem t_spec_OrderText (x0 : D) : F_spec_OrderText [x0] =
  ((boxD 4 x0).bind fun y => (fldD true 4 0 y).bind fun z => callK (F_spec_orOne [z]) fun rs _u => (un UnOp.not (sl rs 0)).bind fun z =>
 ifD z (some (Out.ret [D.v (Value.string { data := { toList := [] } }), D.v (Value.bool false)] [])) ((fldD true 4 0 y).bind fun z =>
 callK (F_spec_orText [z]) fun rs _u => some (Out.ret [sl rs 0, D.v (Value.bool true)] []))) := by kernel_rfl
theorem t_impl_numbersIn (x0 : D) : F_impl_numbersIn [x0] =
  ((mkArr 1 []).bind fun a => callK (fFieldsFunc 54 isSep [x0, D.clo 54 []]) fun rs _u => (lenD false (sl rs 0)).bind fun z => (loopC (fun s => (bin BinOp.lss false [] (sl s 3) (sl s 2)).bind fun z => ifD z
 ((Option.map D.ptr (elemD 1 (sl s 1) (sl s 3))).bind fun z => ((ldD false 1 z).bind chkV).bind fun z => callK (fAtoi [z]) fun rs _u => (tupAt (D.tup rs) 0).bind fun z => (tupAt (D.tup rs) 1).bind fun z_1 =>
 (binI true BinOp.neq z_1 (D.v Value.nilIface)).bind fun z_2 => ifD z_2 ((mkArr 1 []).bind fun a => some (Out.ret [a] [])) ((mkArr 1 [z]).bind fun a => (chkA a).bind fun b => (appD 1 8 (sl s 0) b).bind fun y =>
 (bin BinOp.add false [] (sl s 3) (D.v (Value.int IntKind.i64 1))).bind fun z => some (Out.nrm [y, sl s 1, sl s 2, z]))) (some (Out.ext 0 [sl s 0]))) [a, sl rs 0, z, D.v (Value.int IntKind.i64 0)]).bind
 fun o => outK o (fun i s => ifN (i.beq 0) (some (Out.ret [sl s 0] [])) none) fun a b => some (Out.ret a b)) := by kernel_rfl
theorem t_impl_ParseOrder (x0 : D) : F_impl_ParseOrder [x0] =
  (callK (F_impl_numbersIn [x0]) fun rs _u => (lenD false (sl rs 0)).bind fun z => (bin BinOp.neq false [] z (D.v (Value.int IntKind.i64 4))).bind fun z => ifD z ((bldD []
 [D.v (Value.int IntKind.i64 0), D.v (Value.int IntKind.i64 0), D.v (Value.int IntKind.i64 0), D.v (Value.int IntKind.i64 0)] []).bind fun z => (stD 4 (D.agg
 [D.v (Value.int IntKind.i64 0), D.v (Value.int IntKind.i64 0), D.v (Value.int IntKind.i64 0), D.v (Value.int IntKind.i64 0)]) (D.ref 0 0) z).bind
 fun b => (fldD true 4 0 b).bind fun y => some (Out.ret [y, D.v (Value.bool false)] [])) ((Option.map D.ptr (elemD 1 (sl rs 0) (D.v (Value.int IntKind.i64 0)))).bind fun z => ((ldD false 1 z).bind chkV).bind fun z =>
 (Option.map D.ptr (elemD 1 (sl rs 0) (D.v (Value.int IntKind.i64 1)))).bind fun z_1 => ((ldD false 1 z_1).bind chkV).bind fun z_2 => (Option.map D.ptr (elemD 1 (sl rs 0) (D.v (Value.int IntKind.i64 2)))).bind fun z_3 =>
 ((ldD false 1 z_3).bind chkV).bind fun z_4 => (Option.map D.ptr (elemD 1 (sl rs 0) (D.v (Value.int IntKind.i64 3)))).bind fun z_5 => ((ldD false 1 z_5).bind chkV).bind fun z_6 => (bldD [(0, 1), (1, 1), (2, 1), (3, 1)]
 [D.v (Value.int IntKind.i64 0), D.v (Value.int IntKind.i64 0), D.v (Value.int IntKind.i64 0), D.v (Value.int IntKind.i64 0)] [z, z_2, z_4, z_6]).bind fun z => (stD 4 (D.agg
 [D.v (Value.int IntKind.i64 0), D.v (Value.int IntKind.i64 0), D.v (Value.int IntKind.i64 0), D.v (Value.int IntKind.i64 0)]) (D.ref 0 0) z).bind fun b => (fldD true 4 0 b).bind fun z =>
 callK (F_impl_isOrder [z]) fun rs _u => (un UnOp.not (sl rs 0)).bind fun z => (gate (D.tup []) z false (fldD true 4 0 b)).bind fun z_7 => gateC z false
 (callK (F_impl_orderText [z_7]) fun rs _u => some (Out.nrm [sl rs 0])) [D.tup []] fun outs => (gate (D.tup []) z false (some x0)).bind fun z_8 => (gate (D.tup []) z false (bin BinOp.neq false [] (sl outs 0) z_8)).bind
 fun z_9 => (pickD z (D.v (Value.bool true)) z_9).bind fun z => ifD z ((bldD [] [D.v (Value.int IntKind.i64 0), D.v (Value.int IntKind.i64 0), D.v (Value.int IntKind.i64 0), D.v (Value.int IntKind.i64 0)] []).bind fun z =>
 (stD 4 (D.agg [D.v (Value.int IntKind.i64 0), D.v (Value.int IntKind.i64 0), D.v (Value.int IntKind.i64 0), D.v (Value.int IntKind.i64 0)]) (D.ref 0 0) z).bind fun b => (fldD true 4 0 b).bind fun y =>
 some (Out.ret [y, D.v (Value.bool false)] [])) ((fldD true 4 0 b).bind fun z => (stD 4 (D.agg [D.v (Value.int IntKind.i64 0), D.v (Value.int IntKind.i64 0), D.v (Value.int IntKind.i64 0), D.v (Value.int IntKind.i64 0)])
 (D.ref 0 0) z).bind fun b => (fldD true 4 0 b).bind fun y => some (Out.ret [y, D.v (Value.bool true)] [])))) := by kernel_rfl
theorem t_spec_l1Split (x0 x1 : D) : F_spec_l1Split [x0, x1] =
  ((loopC (fun s => (lenD true (sl s 0)).bind fun z => (bin BinOp.lss false [] (sl s 4) z).bind fun z => ifD z ((charD (sl s 0) (sl s 4)).bind fun z => (bin BinOp.eql false [] z (sl s 1)).bind fun z => ifD z
 ((sliceD true 0 (sl s 0) (sl s 3) (sl s 4)).bind fun z => (mkArr 1 [z]).bind fun a => (chkA a).bind fun b => (appD 1 16 (sl s 2) b).bind fun y =>
 (bin BinOp.add false [] (sl s 4) (D.v (Value.int IntKind.i64 1))).bind fun z => (bin BinOp.add false [] (sl s 4) (D.v (Value.int IntKind.i64 1))).bind fun z_1 => some (Out.nrm [sl s 0, sl s 1, y, z, z_1]))
 ((bin BinOp.add false [] (sl s 4) (D.v (Value.int IntKind.i64 1))).bind fun z => some (Out.nrm [sl s 0, sl s 1, sl s 2, sl s 3, z]))) (some (Out.ext 0 [sl s 0, sl s 2, sl s 3])))
 [x0, x1, D.arr 1 [], D.v (Value.int IntKind.i64 0), D.v (Value.int IntKind.i64 0)]).bind fun o => outK o (fun i s => ifN (i.beq 0) ((sliceHi true 0 (sl s 0) (sl s 2)).bind fun z => (mkArr 1 [z]).bind fun a =>
 (chkA a).bind fun b => (appD 1 16 (sl s 1) b).bind fun y => some (Out.ret [y] [])) none) fun a b => some (Out.ret a b)) := by kernel_rfl
theorem t_spec_l1Read (x0 : D) : F_spec_l1Read [x0] =
  ((lenD true x0).bind fun z => callK (F_spec_l1In [z, D.v (Value.int IntKind.i64 1), D.v (Value.int IntKind.i64 6)]) fun rs _u => (un UnOp.not (sl rs 0)).bind fun z => (gate (D.tup []) z false (some x0)).bind fun z_1 =>
 (gate (D.tup []) z false (charD z_1 (D.v (Value.int IntKind.i64 0)))).bind fun z_2 => (gate (D.tup []) z false (bin BinOp.eql false [] z_2 (D.v (Value.int IntKind.u8 48)))).bind fun z_3 =>
 (gate (D.tup []) z false (some z_3)).bind fun z_4 => (gate (D.tup []) z_4 true (some x0)).bind fun z_5 => (gate (D.tup []) z_4 true (lenD true z_5)).bind fun z_6 =>
 (gate (D.tup []) z_4 true (bin BinOp.gtr false [] z_6 (D.v (Value.int IntKind.i64 1)))).bind fun z_7 => (gate (D.tup []) z false (pickD z_4 z_7 (D.v (Value.bool false)))).bind fun z_8 =>
 (pickD z (D.v (Value.bool true)) z_8).bind fun z => ifD z (some (Out.ret [D.v (Value.int IntKind.i64 (-1))] [])) ((loopC (fun s => (lenD true (sl s 0)).bind fun z => (bin BinOp.lss false [] (sl s 2) z).bind fun z => ifD z
 ((charD (sl s 0) (sl s 2)).bind fun z => (bin BinOp.lss false [] z (D.v (Value.int IntKind.u8 48))).bind fun z => (gate (D.tup []) z false (some (sl s 0))).bind fun z_9 =>
 (gate (D.tup []) z false (some (sl s 2))).bind fun z_10 => (gate (D.tup []) z false (charD z_9 z_10)).bind fun z_11 => (gate (D.tup []) z false (bin BinOp.gtr false [] z_11 (D.v (Value.int IntKind.u8 57)))).bind
 fun z_12 => (pickD z (D.v (Value.bool true)) z_12).bind fun z => ifD z (some (Out.ret [D.v (Value.int IntKind.i64 (-1))] [])) ((bin BinOp.mul false [] (D.v (Value.int IntKind.i64 10)) (sl s 1)).bind fun z =>
 (charD (sl s 0) (sl s 2)).bind fun z_13 => (bin BinOp.sub false [] z_13 (D.v (Value.int IntKind.u8 48))).bind fun z_14 => (convD (some IntKind.i64) false z_14).bind fun z_15 =>
 (bin BinOp.add false [] z z_15).bind fun z => (bin BinOp.add false [] (sl s 2) (D.v (Value.int IntKind.i64 1))).bind fun z_16 => some (Out.nrm [sl s 0, z, z_16]))) (some (Out.ext 0 [sl s 1])))
 [x0, D.v (Value.int IntKind.i64 0), D.v (Value.int IntKind.i64 0)]).bind fun o => outK o (fun i s => ifN (i.beq 0) (some (Out.ret [sl s 0] [])) none) fun a b => some (Out.ret a b))) := by kernel_rfl
theorem t_spec_ParseOrder (x0 : D) : F_spec_ParseOrder [x0] =
  (callK (F_spec_l1Split [x0, D.v (Value.int IntKind.u8 32)]) fun rs _u => (lenD false (sl rs 0)).bind fun z => (bin BinOp.neq false [] z (D.v (Value.int IntKind.i64 4))).bind fun z =>
 (gate (D.tup []) z false (some (sl rs 0))).bind fun z_1 => (gate (D.tup []) z false (Option.map D.ptr (elemD 1 z_1 (D.v (Value.int IntKind.i64 0))))).bind fun z_2 =>
 (gate (D.tup []) z false ((ldD false 1 z_2).bind chkV)).bind fun z_3 => (gate (D.tup []) z false (bin BinOp.eql false [] z_3 (D.v (Value.string { data := { toList := [] } })))).bind fun z_4 =>
 (pickD z (D.v (Value.bool true)) z_4).bind fun z => ifD z ((bldD [] [D.v (Value.int IntKind.i64 0), D.v (Value.int IntKind.i64 0), D.v (Value.int IntKind.i64 0), D.v (Value.int IntKind.i64 0)] []).bind fun z => (stD 4
 (D.agg [D.v (Value.int IntKind.i64 0), D.v (Value.int IntKind.i64 0), D.v (Value.int IntKind.i64 0), D.v (Value.int IntKind.i64 0)]) (D.ref 0 0) z).bind
 fun b => (fldD true 4 0 b).bind fun y => some (Out.ret [y, D.v (Value.bool false)] [])) ((Option.map D.ptr (elemD 1 (sl rs 0) (D.v (Value.int IntKind.i64 1)))).bind fun z => ((ldD false 1 z).bind chkV).bind fun z =>
 callK (F_spec_l1Split [z, D.v (Value.int IntKind.u8 43)]) fun rs_1 _u => (lenD false (sl rs_1 0)).bind fun z => (bin BinOp.neq false [] z (D.v (Value.int IntKind.i64 2))).bind fun z => ifD z ((bldD []
 [D.v (Value.int IntKind.i64 0), D.v (Value.int IntKind.i64 0), D.v (Value.int IntKind.i64 0), D.v (Value.int IntKind.i64 0)] []).bind fun z => (stD 4 (D.agg [D.v (Value.int IntKind.i64 0), D.v (Value.int IntKind.i64 0),
 D.v (Value.int IntKind.i64 0), D.v (Value.int IntKind.i64 0)]) (D.ref 0 0) z).bind fun b => (fldD true 4 0 b).bind fun y => some (Out.ret [y, D.v (Value.bool false)] []))
 ((Option.map D.ptr (elemD 1 (sl rs 0) (D.v (Value.int IntKind.i64 0)))).bind fun z => ((ldD false 1 z).bind chkV).bind fun z => (sliceHi true 0 z (D.v (Value.int IntKind.i64 1))).bind fun z =>
 callK (F_spec_l1Read [z]) fun rs_2 _u => (Option.map D.ptr (elemD 1 (sl rs_1 0) (D.v (Value.int IntKind.i64 0)))).bind fun z => ((ldD false 1 z).bind chkV).bind fun z => callK (F_spec_l1Read [z]) fun rs_3 _u =>
 (Option.map D.ptr (elemD 1 (sl rs_1 0) (D.v (Value.int IntKind.i64 1)))).bind fun z => ((ldD false 1 z).bind chkV).bind fun z => callK (F_spec_l1Read [z]) fun rs_4 _u => (Option.map D.ptr
 (elemD 1 (sl rs 0) (D.v (Value.int IntKind.i64 3)))).bind fun z => ((ldD false 1 z).bind chkV).bind fun z => callK (F_spec_l1Read [z]) fun rs _u => (bldD [(0, 1), (1, 1), (2, 1), (3, 1)] [D.v (Value.int IntKind.i64 0),
 D.v (Value.int IntKind.i64 0), D.v (Value.int IntKind.i64 0), D.v (Value.int IntKind.i64 0)] [sl rs_2 0, sl rs_3 0, sl rs_4 0, sl rs 0]).bind fun z => (stD 4 (D.agg [D.v (Value.int IntKind.i64 0),
 D.v (Value.int IntKind.i64 0), D.v (Value.int IntKind.i64 0), D.v (Value.int IntKind.i64 0)]) (D.ref 0 0) z).bind fun b => (fldD true 4 0 b).bind fun z => callK (F_spec_orOne [z]) fun rs _u =>
 (un UnOp.not (sl rs 0)).bind fun z => (gate (D.tup []) z false (fldD true 4 0 b)).bind fun z_5 => gateC z false (callK (F_spec_orText [z_5]) fun rs _u => some (Out.nrm [sl rs 0])) [D.tup []] fun outs =>
 (gate (D.tup []) z false (some x0)).bind fun z_6 => (gate (D.tup []) z false (bin BinOp.neq false [] (sl outs 0) z_6)).bind fun z_7 => (pickD z (D.v (Value.bool true)) z_7).bind fun z => ifD z ((bldD []
 [D.v (Value.int IntKind.i64 0), D.v (Value.int IntKind.i64 0), D.v (Value.int IntKind.i64 0), D.v (Value.int IntKind.i64 0)] []).bind fun z => (stD 4 (D.agg [D.v (Value.int IntKind.i64 0), D.v (Value.int IntKind.i64 0),
 D.v (Value.int IntKind.i64 0), D.v (Value.int IntKind.i64 0)]) (D.ref 0 0) z).bind fun b => (fldD true 4 0 b).bind fun y => some (Out.ret [y, D.v (Value.bool false)] [])) ((fldD true 4 0 b).bind fun z => (stD 4 (D.agg
 [D.v (Value.int IntKind.i64 0), D.v (Value.int IntKind.i64 0), D.v (Value.int IntKind.i64 0), D.v (Value.int IntKind.i64 0)]) (D.ref 0 0) z).bind fun b => (fldD true 4 0 b).bind fun y => some (Out.ret
 [y, D.v (Value.bool true)] []))))) := by kernel_rfl
theorem t_spec_l1Cur_next (x0 : D) : F_spec_l1Cur_next [x0] =
  ((liveD x0 (D.ref 0 0)).bind fun z => (liveD z z).bind fun z => (refAdd 1 z).bind fun z => (((atD x0 z).bind (takeD false 1)).bind chkV).bind fun z => (liveD x0 (D.ref 0 0)).bind fun z_1 => (liveD z_1 z_1).bind fun z_2 =>
 (refAdd 0 z_2).bind fun z_3 => ((atD x0 z_3).bind (takeD false 1)).bind fun z_4 => (lenD false z_4).bind fun z_5 => (bin BinOp.lss false [] z z_5).bind fun z => ifD z ((liveD x0 (D.ref 0 0)).bind fun z =>
 (liveD z z).bind fun z => (refAdd 0 z).bind fun z => ((atD x0 z).bind (takeD false 1)).bind fun z => (liveD x0 (D.ref 0 0)).bind fun z_6 => (liveD z_6 z_6).bind fun z_7 => (refAdd 1 z_7).bind fun z_8 =>
 (((atD x0 z_8).bind (takeD false 1)).bind chkV).bind fun z_9 => (Option.map D.ptr (elemD 1 z z_9)).bind fun z => ((ldD false 1 z).bind chkV).bind fun z => (convD (some IntKind.i64) false z).bind fun z =>
 (liveD x0 (D.ref 0 0)).bind fun z_10 => (liveD z_10 z_10).bind fun z_11 => (refAdd 1 z_11).bind fun z_12 => (((atD x0 z_12).bind (takeD false 1)).bind chkV).bind fun z_13 =>
 (bin BinOp.add false [] z_13 (D.v (Value.int IntKind.i64 1))).bind fun z_14 => (liveD z_10 z_10).bind fun z_15 => (refAdd 1 z_15).bind fun z_16 => (stD 1 x0 z_16 z_14).bind fun b => (liveD b (D.ref 0 0)).bind fun z_17 =>
 (liveD b (D.ref 0 0)).bind fun z_18 => (liveD z_18 z_18).bind fun z_19 => (refAdd 2 z_19).bind fun z_20 => (((atD b z_20).bind (takeD false 1)).bind chkV).bind fun z_21 => (bin BinOp.mul false [] z_21 (D.v
 (Value.int IntKind.u64 6364136223846793005))).bind fun z_22 => (convD (some IntKind.u64) false z).bind fun z_23 => (bin BinOp.add false [] z_22 z_23).bind fun z_24 => (bin BinOp.add false [] z_24 (D.v
 (Value.int IntKind.u64 1442695040888963407))).bind fun z_25 => (liveD z_17 z_17).bind fun z_26 => (refAdd 2 z_26).bind fun z_27 => (stD 1 b z_27 z_25).bind fun b => (liveD b (D.ref 0 0)).bind fun z_28 =>
 (liveD z_28 z_28).bind fun z_29 => (refAdd 1 z_29).bind fun z_30 => (((atD b z_30).bind (takeD false 1)).bind chkV).bind fun z_31 => (liveD b (D.ref 0 0)).bind fun z_32 => (liveD z_32 z_32).bind fun z_33 =>
 (refAdd 0 z_33).bind fun z_34 => ((atD b z_34).bind (takeD false 1)).bind fun z_35 => (lenD false z_35).bind fun z_36 => (bin BinOp.leq false [] z_31 z_36).bind fun z_37 => ifD z_37 ((liveD b b).bind fun _u => some
 (Out.ret [z] [b])) ((liveD b (D.ref 0 0)).bind fun z => (liveD z z).bind fun z => (refAdd 2 z).bind fun z => (((atD b z).bind (takeD false 1)).bind chkV).bind fun z => (bin BinOp.shr false [] z (D.v (Value.int IntKind.u64
 40))).bind fun z => (bin BinOp.and false [] z (D.v (Value.int IntKind.u64 255))).bind fun z => (convD (some IntKind.i64) false z).bind fun z => (liveD b b).bind fun _u => some (Out.ret [z] [b])))
 ((liveD x0 (D.ref 0 0)).bind fun z => (liveD z z).bind fun z_6 => (refAdd 1 z_6).bind fun z_7 => (((atD x0 z_7).bind (takeD false 1)).bind chkV).bind fun z_8 =>
 (bin BinOp.add false [] z_8 (D.v (Value.int IntKind.i64 1))).bind fun z_9 => (liveD z z).bind fun z => (refAdd 1 z).bind fun z => (stD 1 x0 z z_9).bind fun b => (liveD b (D.ref 0 0)).bind fun z =>
 (liveD b (D.ref 0 0)).bind fun z_10 => (liveD z_10 z_10).bind fun z_11 => (refAdd 2 z_11).bind fun z_12 => (((atD b z_12).bind (takeD false 1)).bind chkV).bind fun z_13 => (bin BinOp.mul false [] z_13
 (D.v (Value.int IntKind.u64 6364136223846793005))).bind fun z_14 => (convD (some IntKind.u64) false (D.v (Value.int IntKind.i64 0))).bind fun z_15 => (bin BinOp.add false [] z_14 z_15).bind fun z_16 =>
 (bin BinOp.add false [] z_16 (D.v (Value.int IntKind.u64 1442695040888963407))).bind fun z_17 => (liveD z z).bind fun z => (refAdd 2 z).bind fun z => (stD 1 b z z_17).bind fun b => (liveD b (D.ref 0 0)).bind fun z =>
 (liveD z z).bind fun z => (refAdd 1 z).bind fun z => (((atD b z).bind (takeD false 1)).bind chkV).bind fun z => (liveD b (D.ref 0 0)).bind fun z_18 => (liveD z_18 z_18).bind fun z_19 => (refAdd 0 z_19).bind fun z_20 =>
 ((atD b z_20).bind (takeD false 1)).bind fun z_21 => (lenD false z_21).bind fun z_22 => (bin BinOp.leq false [] z z_22).bind fun z => ifD z ((liveD b b).bind fun _u => some (Out.ret [D.v (Value.int IntKind.i64 0)] [b]))
 ((liveD b (D.ref 0 0)).bind fun z => (liveD z z).bind fun z => (refAdd 2 z).bind fun z => (((atD b z).bind (takeD false 1)).bind chkV).bind fun z => (bin BinOp.shr false [] z (D.v (Value.int IntKind.u64 40))).bind
 fun z => (bin BinOp.and false [] z (D.v (Value.int IntKind.u64 255))).bind fun z => (convD (some IntKind.i64) false z).bind fun z => (liveD b b).bind fun _u => some (Out.ret [z] [b])))) := by kernel_rfl
theorem t_spec_l1Cur_pick (x0 x1 : D) : F_spec_l1Cur_pick [x0, x1] =
  ((bin BinOp.leq false [] x1 (D.v (Value.int IntKind.i64 1))).bind fun z => ifD z ((liveD x0 x0).bind fun _u => some (Out.ret [D.v (Value.int IntKind.i64 0)] [x0])) ((liveD x0 (D.ref 0 0)).bind fun z =>
 (ref0 z x0).bind fun i => (liveD i i).bind fun i => callK (F_spec_l1Cur_next [i]) fun rs us => (bin BinOp.gtr false [] x1 (D.v (Value.int IntKind.i64 200))).bind fun z => ifD z
 ((bin BinOp.mul false [] (sl rs 0) (D.v (Value.int IntKind.i64 256))).bind fun z => (liveD (sl us 0) (D.ref 0 0)).bind fun z_1 => (ref0 z_1 (sl us 0)).bind fun i => (liveD i i).bind fun i =>
 callK (F_spec_l1Cur_next [i]) fun rs us => (bin BinOp.add false [] z (sl rs 0)).bind fun z => (bin BinOp.rem false [] z x1).bind fun z => (liveD (sl us 0) (sl us 0)).bind fun _u => some (Out.ret [z] [sl us 0]))
 ((bin BinOp.rem false [] (sl rs 0) x1).bind fun z => (liveD (sl us 0) (sl us 0)).bind fun _u => some (Out.ret [z] [sl us 0])))) := by kernel_rfl
theorem t_spec_l1Cur_one (x0 x1 : D) : F_spec_l1Cur_one [x0, x1] =
  ((liveD x0 (D.ref 0 0)).bind fun z => (ref0 z x0).bind fun i => (liveD i i).bind fun i => callK (F_spec_l1Cur_pick [i, x1]) fun rs us => (bin BinOp.eql false [] (sl rs 0) (D.v (Value.int IntKind.i64 0))).bind fun z =>
 (liveD (sl us 0) (sl us 0)).bind fun _u => some (Out.ret [z] [sl us 0])) := by kernel_rfl
theorem t_spec_l1Cur_among (x0 x1 : D) : F_spec_l1Cur_among [x0, x1] =
  ((liveD x0 (D.ref 0 0)).bind fun z => (lenD false x1).bind fun z_1 => (ref0 z x0).bind fun i => (liveD i i).bind fun i => callK (F_spec_l1Cur_pick [i, z_1]) fun rs us =>
 (Option.map D.ptr (elemD 1 x1 (sl rs 0))).bind fun z => ((ldD false 1 z).bind chkV).bind fun z => (liveD (sl us 0) (sl us 0)).bind fun _u => some (Out.ret [z] [sl us 0])) := by kernel_rfl
theorem t_spec_l1Cur_orders (x0 : D) : F_spec_l1Cur_orders [x0] =
  ((liveD x0 (D.ref 0 0)).bind fun z => (ref0 z x0).bind fun i => (liveD i i).bind fun i => callK (F_spec_l1Cur_pick [i, D.v (Value.int IntKind.i64 6)]) fun rs us => joinC (fun j =>
 (liveD (sl us 0) (D.ref 0 0)).bind fun z => (ref0 z (sl us 0)).bind fun i => (liveD i i).bind fun i => callK (F_spec_l1Cur_one [i, D.v (Value.int IntKind.i64 12)]) fun rs_1 us => ifD (sl rs_1 0)
 ((liveD (sl us 0) (D.ref 0 0)).bind fun z => (ref0 z (sl us 0)).bind fun i => (liveD i i).bind fun i => callK (F_spec_l1Cur_pick [i, D.v (Value.int IntKind.i64 2)]) fun rs us =>
 (bin BinOp.add false [] (D.v (Value.int IntKind.i64 8)) (sl rs 0)).bind fun z => j [sl us 0, D.arr 4 [], D.v (Value.int IntKind.i64 0), z]) (j [sl us 0, D.arr 4 [], D.v (Value.int IntKind.i64 0), sl rs 0])) fun s =>
 (loopC (fun s => (liveD (sl s 1) (D.ref 0 0)).bind fun z => ((liveD z (sl s 1)).bind (lenD false)).bind fun z => (bin BinOp.lss false [] z (sl s 3)).bind fun z => ifD z ((liveD (sl s 0) (D.ref 0 0)).bind fun z =>
 (ref0 z (sl s 0)).bind fun i => (liveD i i).bind fun i => callK (F_spec_l1Cur_pick [i, D.v (Value.int IntKind.i64 4)]) fun rs us => (bin BinOp.add false [] (D.v (Value.int IntKind.i64 1)) (sl rs 0)).bind fun z =>
 (bin BinOp.add false [] (sl s 2) z).bind fun z => (liveD (sl us 0) (D.ref 0 0)).bind fun z_1 => (ref0 z_1 (sl us 0)).bind fun i => (liveD i i).bind fun i =>
 callK (F_spec_l1Cur_pick [i, D.v (Value.int IntKind.i64 10)]) fun rs us => (bin BinOp.mul false [] (D.v (Value.int IntKind.i64 5)) (sl rs 0)).bind fun z_2 => (liveD (sl us 0) (D.ref 0 0)).bind fun z_3 =>
 (ref0 z_3 (sl us 0)).bind fun i => (liveD i i).bind fun i => callK (F_spec_l1Cur_pick [i, D.v (Value.int IntKind.i64 10)]) fun rs us => (bin BinOp.mul false [] (D.v (Value.int IntKind.i64 5)) (sl rs 0)).bind fun z_4 =>
 (liveD (sl us 0) (D.ref 0 0)).bind fun z_5 => (ref0 z_5 (sl us 0)).bind fun i => (liveD i i).bind fun i => callK (F_spec_l1Cur_pick [i, D.v (Value.int IntKind.i64 24)]) fun rs us => (bin BinOp.mul false []
 (D.v (Value.int IntKind.i64 10)) (sl rs 0)).bind fun z_6 => (bldD [(0, 1), (1, 1), (2, 1), (3, 1)] [D.v (Value.int IntKind.i64 0), D.v (Value.int IntKind.i64 0), D.v (Value.int IntKind.i64 0),
 D.v (Value.int IntKind.i64 0)] [z, z_2, z_4, z_6]).bind fun z_7 => (mkArr 4 [z_7]).bind fun a => (chkA a).bind fun b => (appD 4 32 (sl s 1) b).bind fun y => some (Out.nrm [sl us 0, y, z, sl s 3]))
 (some (Out.ext 0 [sl s 0, sl s 1, sl s 3]))) [sl s 0, sl s 1, sl s 2, sl s 3]).bind fun o => outK o (fun i s => ifN (i.beq 0) ((bin BinOp.gtr false [] (sl s 2) (D.v (Value.int IntKind.i64 0))).bind fun z => ifD z
 ((liveD (sl s 0) (D.ref 0 0)).bind fun z => (ref0 z (sl s 0)).bind fun i => (liveD i i).bind fun i => callK (F_spec_l1Cur_pick [i, sl s 2]) fun rs us => (liveD (sl us 0) (D.ref 0 0)).bind fun z =>
 (ref0 z (sl us 0)).bind fun i => (liveD i i).bind fun i => callK (F_spec_l1Cur_pick [i, D.v (Value.int IntKind.i64 24)]) fun rs_1 us => (bin BinOp.eql false [] (sl rs_1 0) (D.v (Value.int IntKind.i64 0))).bind fun z =>
 ifD z ((liveD (sl s 1) (D.ref 0 0)).bind fun z => (liveD (sl us 0) (D.ref 0 0)).bind fun z_1 => (mkArr 1 [D.v (Value.int IntKind.i64 0), D.v (Value.int IntKind.i64 1), D.v (Value.int IntKind.i64 99),
 D.v (Value.int IntKind.i64 100)]).bind fun a => (ref0 z_1 (sl us 0)).bind fun i => (liveD i i).bind fun i => callK (F_spec_l1Cur_among [i, a]) fun rs_2 us => ((liveD z (sl s 1)).bind fun b => refI 4 b (sl rs 0)).bind
 fun z => (refAdd 0 z).bind fun z => (stD 1 (sl s 1) z (sl rs_2 0)).bind fun b => (liveD (sl us 0) (sl us 0)).bind fun _u => some (Out.ret [b] [sl us 0]))
 ((bin BinOp.eql false [] (sl rs_1 0) (D.v (Value.int IntKind.i64 1))).bind fun z => ifD z ((liveD (sl s 1) (D.ref 0 0)).bind fun z => (liveD (sl us 0) (D.ref 0 0)).bind fun z_1 => (mkArr 1
 [D.v (Value.int IntKind.i64 500), D.v (Value.int IntKind.i64 501), D.v (Value.int IntKind.i64 (-1))]).bind fun a => (ref0 z_1 (sl us 0)).bind fun i => (liveD i i).bind fun i =>
 callK (F_spec_l1Cur_among [i, a]) fun rs_2 us => ((liveD z (sl s 1)).bind fun b => refI 4 b (sl rs 0)).bind fun z => (refAdd 1 z).bind fun z => (stD 1 (sl s 1) z (sl rs_2 0)).bind fun b =>
 (liveD (sl us 0) (sl us 0)).bind fun _u => some (Out.ret [b] [sl us 0])) ((bin BinOp.eql false [] (sl rs_1 0) (D.v (Value.int IntKind.i64 2))).bind fun z => ifD z ((liveD (sl s 1) (D.ref 0 0)).bind fun z =>
 (liveD (sl us 0) (D.ref 0 0)).bind fun z_1 => (mkArr 1 [D.v (Value.int IntKind.i64 500), D.v (Value.int IntKind.i64 501), D.v (Value.int IntKind.i64 (-1))]).bind fun a => (ref0 z_1 (sl us 0)).bind fun i =>
 (liveD i i).bind fun i => callK (F_spec_l1Cur_among [i, a]) fun rs_2 us => ((liveD z (sl s 1)).bind fun b => refI 4 b (sl rs 0)).bind fun z => (refAdd 2 z).bind fun z => (stD 1 (sl s 1) z (sl rs_2 0)).bind fun b =>
 (liveD (sl us 0) (sl us 0)).bind fun _u => some (Out.ret [b] [sl us 0])) ((bin BinOp.eql false [] (sl rs_1 0) (D.v (Value.int IntKind.i64 3))).bind fun z => ifD z ((liveD (sl s 1) (D.ref 0 0)).bind fun z =>
 (liveD (sl us 0) (D.ref 0 0)).bind fun z_1 => (mkArr 1 [D.v (Value.int IntKind.i64 0), D.v (Value.int IntKind.i64 10000), D.v (Value.int IntKind.i64 10001), D.v (Value.int IntKind.i64 (-1))]).bind fun a =>
 (ref0 z_1 (sl us 0)).bind fun i => (liveD i i).bind fun i => callK (F_spec_l1Cur_among [i, a]) fun rs_2 us => ((liveD z (sl s 1)).bind fun b => refI 4 b (sl rs 0)).bind fun z => (refAdd 3 z).bind fun z =>
 (stD 1 (sl s 1) z (sl rs_2 0)).bind fun b => (liveD (sl us 0) (sl us 0)).bind fun _u => some (Out.ret [b] [sl us 0])) ((liveD (sl us 0) (sl us 0)).bind fun _u => some (Out.ret [sl s 1] [sl us 0]))))))
 ((liveD (sl s 0) (sl s 0)).bind fun _u => some (Out.ret [sl s 1] [sl s 0]))) none) fun a b => some (Out.ret a b)) := by kernel_rfl
theorem t_spec_l1Cur_sequence (x0 x1 : D) : F_spec_l1Cur_sequence [x0, x1] =
  ((loopC (fun s => (bin BinOp.lss false [] (sl s 3) (sl s 1)).bind fun z => ifD z ((liveD (sl s 0) (D.ref 0 0)).bind fun z => (liveD (sl s 2) (D.ref 0 0)).bind fun z_1 =>
 ((liveD z_1 (sl s 2)).bind (lenD false)).bind fun z_2 => (bin BinOp.add false [] z_2 (D.v (Value.int IntKind.i64 1))).bind fun z_3 => (ref0 z (sl s 0)).bind fun i => (liveD i i).bind fun i =>
 callK (F_spec_l1Cur_pick [i, z_3]) fun rs us => (mkArr 1 []).bind fun a => (sliceD false 1 (sl s 2) (D.v (Value.int IntKind.i64 0)) (sl rs 0)).bind fun z => (chkA z).bind fun b => (appD 1 8 a b).bind fun y =>
 (mkArr 1 [sl s 3]).bind fun a => (chkA a).bind fun b => (appD 1 8 y b).bind fun y => (sliceHi false 1 (sl s 2) (sl rs 0)).bind fun z => (chkA z).bind fun b => (appD 1 8 y b).bind fun y =>
 (bin BinOp.add false [] (sl s 3) (D.v (Value.int IntKind.i64 1))).bind fun z => some (Out.nrm [sl us 0, sl s 1, y, z])) (some (Out.ext 0 [sl s 0, sl s 1, sl s 2])))
 [x0, x1, D.arr 1 [], D.v (Value.int IntKind.i64 0)]).bind fun o => outK o (fun i s => ifN (i.beq 0) ((liveD (sl s 0) (D.ref 0 0)).bind fun z => (ref0 z (sl s 0)).bind fun i => (liveD i i).bind fun i =>
 callK (F_spec_l1Cur_pick [i, D.v (Value.int IntKind.i64 24)]) fun rs us => (bin BinOp.eql false [] (sl rs 0) (D.v (Value.int IntKind.i64 0))).bind fun z => ifD z ((mkArr 1 [D.v (Value.int IntKind.i64 0)]).bind fun a =>
 (chkA a).bind fun b => (appD 1 8 (sl s 2) b).bind fun y => (liveD (sl us 0) (sl us 0)).bind fun _u => some (Out.ret [y] [sl us 0])) ((bin BinOp.eql false [] (sl rs 0) (D.v (Value.int IntKind.i64 1))).bind fun z => ifD z
 ((bin BinOp.gtr false [] (sl s 1) (D.v (Value.int IntKind.i64 0))).bind fun z => ifD z ((liveD (sl s 2) (D.ref 0 0)).bind fun z => (liveD (sl us 0) (D.ref 0 0)).bind fun z_1 => (mkArr 1
 [D.v (Value.int IntKind.i64 0), sl s 1, D.v (Value.int IntKind.i64 (-1))]).bind fun a => (ref0 z_1 (sl us 0)).bind fun i => (liveD i i).bind fun i => callK (F_spec_l1Cur_among [i, a]) fun rs us =>
 ((liveD z (sl s 2)).bind fun b => refI 1 b (D.v (Value.int IntKind.i64 0))).bind fun z => (stD 1 (sl s 2) z (sl rs 0)).bind fun b => (liveD (sl us 0) (sl us 0)).bind fun _u => some (Out.ret [b] [sl us 0]))
 ((liveD (sl us 0) (sl us 0)).bind fun _u => some (Out.ret [sl s 2] [sl us 0]))) ((liveD (sl us 0) (sl us 0)).bind fun _u => some (Out.ret [sl s 2] [sl us 0])))) none) fun a b => some (Out.ret a b)) := by kernel_rfl
theorem t_spec_DrawFinishTimes (x0 : D) : F_spec_DrawFinishTimes [x0] =
  ((bldD [(0, 1)] [D.arr 1 [], D.v (Value.int IntKind.i64 0), D.v (Value.int IntKind.u64 0)] [x0]).bind fun z => (boxD 3 z).bind fun y => (liveD y (D.ref 0 0)).bind fun z => (liveD z z).bind fun z_1 =>
 (ref0 z_1 y).bind fun i => (liveD i i).bind fun i => callK (F_spec_l1Cur_orders [i]) fun rs us => (liveD z z).bind fun z => (lenD false (sl rs 0)).bind fun z_2 => (ref0 z (sl us 0)).bind fun i => (liveD i i).bind fun i =>
 callK (F_spec_l1Cur_sequence [i, z_2]) fun rs_1 _u => some (Out.ret [sl rs 0, sl rs_1 0] [])) := by kernel_rfl
theorem t_spec_DrawOrderText (x0 : D) : F_spec_DrawOrderText [x0] =
  ((bldD [(0, 1)] [D.arr 1 [], D.v (Value.int IntKind.i64 0), D.v (Value.int IntKind.u64 0)] [x0]).bind fun z => (boxD 3 z).bind fun y => (liveD y (D.ref 0 0)).bind fun z => (liveD z z).bind fun z_1 =>
 (ref0 z_1 y).bind fun i => (liveD i i).bind fun i => callK (F_spec_l1Cur_orders [i]) fun rs us => (lenD false (sl rs 0)).bind fun z_2 => (bin BinOp.eql false [] z_2 (D.v (Value.int IntKind.i64 0))).bind fun z_3 => ifD z_3
 ((liveD z z).bind fun z => (mkArr 1 [D.v (Value.int IntKind.i64 1), D.v (Value.int IntKind.i64 0)]).bind fun a => (ref0 z (sl us 0)).bind fun i => (liveD i i).bind fun i => callK (F_spec_l1Cur_among [i, a]) fun rs _u =>
 (bldD [(0, 1)] [D.v (Value.int IntKind.i64 0), D.v (Value.int IntKind.i64 0), D.v (Value.int IntKind.i64 0), D.v (Value.int IntKind.i64 0)] [sl rs 0]).bind fun z => (stD 4 (D.agg
 [D.v (Value.int IntKind.i64 0), D.v (Value.int IntKind.i64 0), D.v (Value.int IntKind.i64 0), D.v (Value.int IntKind.i64 0)]) (D.ref 0 0) z).bind fun b => (fldD true 4 0 b).bind fun y => some (Out.ret [y] []))
 ((liveD z z).bind fun z => (lenD false (sl rs 0)).bind fun z_4 => (ref0 z (sl us 0)).bind fun i => (liveD i i).bind fun i => callK (F_spec_l1Cur_pick [i, z_4]) fun rs_1 _u =>
 (Option.map D.ptr (elemD 4 (sl rs 0) (sl rs_1 0))).bind fun z => ((ldD true 4 z).bind chkV).bind fun z => (stD 4 (D.agg [D.v (Value.int IntKind.i64 0), D.v (Value.int IntKind.i64 0),
 D.v (Value.int IntKind.i64 0), D.v (Value.int IntKind.i64 0)]) (D.ref 0 0) z).bind fun b => (fldD true 4 0 b).bind fun y => some (Out.ret [y] []))) := by kernel_rfl
theorem t_spec_l1Cur_spoilt (x0 x1 x2 : D) : F_spec_l1Cur_spoilt [x0, x1, x2] =
  ((liveD x0 (D.ref 0 0)).bind fun z => (ref0 z x0).bind fun i => (liveD i i).bind fun i => callK (F_spec_l1Cur_pick [i, D.v (Value.int IntKind.i64 2)]) fun rs us =>
 (bin BinOp.add false [] (D.v (Value.int IntKind.i64 1)) (sl rs 0)).bind fun z => (loopC (fun s => (bin BinOp.gtr false [] (sl s 3) (D.v (Value.int IntKind.i64 0))).bind fun z =>
 (gate (D.tup []) z true (some (sl s 1))).bind fun z_1 => (gate (D.tup []) z true (lenD true z_1)).bind fun z_2 => (gate (D.tup []) z true (bin BinOp.gtr false [] z_2 (D.v (Value.int IntKind.i64 0)))).bind fun z_3 =>
 (pickD z z_3 (D.v (Value.bool false))).bind fun z => ifD z ((liveD (sl s 0) (D.ref 0 0)).bind fun z => (lenD true (sl s 1)).bind fun z_4 => (ref0 z (sl s 0)).bind fun i => (liveD i i).bind fun i =>
 callK (F_spec_l1Cur_pick [i, z_4]) fun rs us => (liveD (sl us 0) (D.ref 0 0)).bind fun z => (lenD true (sl s 2)).bind fun z_5 => (ref0 z (sl us 0)).bind fun i => (liveD i i).bind fun i =>
 callK (F_spec_l1Cur_pick [i, z_5]) fun rs_1 us => (charD (sl s 2) (sl rs_1 0)).bind fun z => (mkArr 1 [z]).bind fun a => (strD a).bind fun z => (liveD (sl us 0) (D.ref 0 0)).bind fun z_6 =>
 (ref0 z_6 (sl us 0)).bind fun i => (liveD i i).bind fun i => callK (F_spec_l1Cur_pick [i, D.v (Value.int IntKind.i64 3)]) fun rs_2 us => (bin BinOp.eql false [] (sl rs_2 0) (D.v (Value.int IntKind.i64 0))).bind fun z_7 =>
 ifD z_7 ((sliceD true 0 (sl s 1) (D.v (Value.int IntKind.i64 0)) (sl rs 0)).bind fun z_8 => (bin BinOp.add false [] z_8 z).bind fun z => (sliceHi true 0 (sl s 1) (sl rs 0)).bind fun z_9 =>
 (bin BinOp.add false [] z z_9).bind fun z => (bin BinOp.sub false [] (sl s 3) (D.v (Value.int IntKind.i64 1))).bind fun z_10 => some (Out.nrm [sl us 0, z, sl s 2, z_10])) ((bin BinOp.eql false [] (sl rs_2 0)
 (D.v (Value.int IntKind.i64 1))).bind fun z_8 => ifD z_8 ((sliceD true 0 (sl s 1) (D.v (Value.int IntKind.i64 0)) (sl rs 0)).bind fun z_9 => (bin BinOp.add false [] z_9 z).bind fun z => (bin BinOp.add false [] (sl rs 0)
 (D.v (Value.int IntKind.i64 1))).bind fun z_10 => (sliceHi true 0 (sl s 1) z_10).bind fun z_11 => (bin BinOp.add false [] z z_11).bind fun z => (bin BinOp.sub false [] (sl s 3) (D.v (Value.int IntKind.i64 1))).bind
 fun z_12 => some (Out.nrm [sl us 0, z, sl s 2, z_12])) ((sliceD true 0 (sl s 1) (D.v (Value.int IntKind.i64 0)) (sl rs 0)).bind fun z => (bin BinOp.add false [] (sl rs 0) (D.v (Value.int IntKind.i64 1))).bind fun z_9 =>
 (sliceHi true 0 (sl s 1) z_9).bind fun z_10 => (bin BinOp.add false [] z z_10).bind fun z => (bin BinOp.sub false [] (sl s 3) (D.v (Value.int IntKind.i64 1))).bind fun z_11 => some (Out.nrm [sl us 0, z, sl s 2, z_11]))))
 (some (Out.ext 0 [sl s 0, sl s 1]))) [sl us 0, x1, x2, z]).bind fun o => outK o (fun i s => ifN (i.beq 0) ((liveD (sl s 0) (sl s 0)).bind fun _u => some (Out.ret [sl s 1] [sl s 0])) none) fun a b => some (Out.ret a b)) := by kernel_rfl
theorem t_spec_l1Cur_of (x0 x1 : D) : F_spec_l1Cur_of [x0, x1] =
  ((liveD x0 (D.ref 0 0)).bind fun z => (lenD false x1).bind fun z_1 => (ref0 z x0).bind fun i => (liveD i i).bind fun i => callK (F_spec_l1Cur_pick [i, z_1]) fun rs us =>
 (Option.map D.ptr (elemD 1 x1 (sl rs 0))).bind fun z => ((ldD false 1 z).bind chkV).bind fun z => (liveD (sl us 0) (sl us 0)).bind fun _u => some (Out.ret [z] [sl us 0])) := by kernel_rfl
theorem t_spec_DrawParseOrder (x0 : D) : F_spec_DrawParseOrder [x0] =
  ((bldD [(0, 1)] [D.arr 1 [], D.v (Value.int IntKind.i64 0), D.v (Value.int IntKind.u64 0)] [x0]).bind fun z => (boxD 3 z).bind fun y => (liveD y (D.ref 0 0)).bind fun z => (liveD z z).bind fun z_1 =>
 (ref0 z_1 y).bind fun i => (liveD i i).bind fun i => callK (F_spec_l1Cur_pick [i, D.v (Value.int IntKind.i64 20)]) fun rs us => (bin BinOp.add false [] (D.v (Value.int IntKind.i64 1)) (sl rs 0)).bind fun z_2 =>
 (liveD z z).bind fun z_3 => (ref0 z_3 (sl us 0)).bind fun i => (liveD i i).bind fun i => callK (F_spec_l1Cur_pick [i, D.v (Value.int IntKind.i64 50)]) fun rs us => (liveD z z).bind fun z_4 =>
 (ref0 z_4 (sl us 0)).bind fun i => (liveD i i).bind fun i => callK (F_spec_l1Cur_pick [i, D.v (Value.int IntKind.i64 50)]) fun rs_1 us => (liveD z z).bind fun z_5 => (ref0 z_5 (sl us 0)).bind fun i =>
 (liveD i i).bind fun i => callK (F_spec_l1Cur_pick [i, D.v (Value.int IntKind.i64 300)]) fun rs_2 us => (bldD [(0, 1), (1, 1), (2, 1), (3, 1)] [D.v (Value.int IntKind.i64 0), D.v (Value.int IntKind.i64 0),
 D.v (Value.int IntKind.i64 0), D.v (Value.int IntKind.i64 0)] [z_2, sl rs 0, sl rs_1 0, sl rs_2 0]).bind fun z_6 => callK (F_spec_orText [z_6]) fun rs _u => (liveD z z).bind fun z_7 => (ref0 z_7 (sl us 0)).bind fun i =>
 (liveD i i).bind fun i => callK (F_spec_l1Cur_pick [i, D.v (Value.int IntKind.i64 4)]) fun rs_3 us => (bin BinOp.eql false [] (sl rs_3 0) (D.v (Value.int IntKind.i64 0))).bind fun z_8 => ifD z_8 ((liveD z z).bind fun z =>
 (ref0 z (sl us 0)).bind fun i => (liveD i i).bind fun i => callK (F_spec_l1Cur_spoilt [i, sl rs 0, D.v (Value.string { data := { toList := [35, 32, 43, 98, 121, 48, 49, 57] } })]) fun rs _u => some (Out.ret [sl rs 0] []))
 ((bin BinOp.eql false [] (sl rs_3 0) (D.v (Value.int IntKind.i64 1))).bind fun z_9 => ifD z_9 ((liveD z z).bind fun z => (mkArr 1 [D.v (Value.string { data := { toList := [] } }), D.v (Value.string { data := { toList :=
 [35, 49, 32, 51, 48, 43, 49, 48, 32, 98, 121, 32, 54, 48] } }), D.v (Value.string { data := { toList := [35, 48, 49, 32, 51, 48, 43, 49, 48, 32, 98, 121, 32, 54, 48] } }), D.v (Value.string { data := { toList :=
 [35, 49, 32, 51, 48, 32, 98, 121, 32, 54, 48] } }), D.v (Value.string { data := { toList := [35, 49, 32, 51, 48, 43, 49, 48, 32, 97, 116, 32, 54, 48] } }), D.v (Value.string { data := { toList :=
 [35, 49, 48, 48, 32, 49, 43, 49, 32, 98, 121, 32, 49] } }), D.v (Value.string { data := { toList := [35, 49, 32, 53, 48, 49, 43, 49, 32, 98, 121, 32, 49] } }), D.v (Value.string { data := { toList :=
 [49, 32, 51, 48, 43, 49, 48, 32, 98, 121, 32, 54, 48] } }), D.v (Value.string { data := { toList := [32, 51, 48, 43, 49, 48, 32, 98, 121, 32, 54, 48] } })]).bind fun a => (ref0 z (sl us 0)).bind fun i =>
 (liveD i i).bind fun i => callK (F_spec_l1Cur_of [i, a]) fun rs _u => some (Out.ret [sl rs 0] [])) (some (Out.ret [sl rs 0] [])))) := by kernel_rfl
theorem t_laws_qInts (x0 x1 : D) : F_laws_qInts [x0, x1] =
  ((lenD false x0).bind fun z => (lenD false x1).bind fun z_1 => (bin BinOp.neq false [] z z_1).bind fun z => ifD z (some (Out.ret [D.v (Value.bool false)] [])) ((lenD false x0).bind fun z => (loopC (fun s =>
 (bin BinOp.lss false [] (sl s 3) (sl s 2)).bind fun z => ifD z ((Option.map D.ptr (elemD 1 (sl s 0) (sl s 3))).bind fun z => ((ldD false 1 z).bind chkV).bind fun z =>
 (Option.map D.ptr (elemD 1 (sl s 1) (sl s 3))).bind fun z_2 => ((ldD false 1 z_2).bind chkV).bind fun z_3 => (bin BinOp.neq false [] z z_3).bind fun z => ifD z (some (Out.ret [D.v (Value.bool false)] []))
 ((bin BinOp.add false [] (sl s 3) (D.v (Value.int IntKind.i64 1))).bind fun z => some (Out.nrm [sl s 0, sl s 1, sl s 2, z]))) (some (Out.ext 0 []))) [x0, x1, z, D.v (Value.int IntKind.i64 0)]).bind fun o =>
 outK o (fun i _u => ifN (i.beq 0) (some (Out.ret [D.v (Value.bool true)] [])) none) fun a b => some (Out.ret a b))) := by kernel_rfl
end Go.Proofs.YtecaabmaoaacnaaGreatDoor
/-
  Numbers as texts; the text of an order.
-/
namespace Go.Proofs.YtecaabmaoaacnaaGreatDoor
open Go Go.V
set_option linter.unusedSimpArgs false

theorem e_spec_l1In (a b c : Int) : F_spec_l1In [I a, I b, I c] = some (.ret [B (decide (b ≤ a ∧ a ≤ c))] []) := by
  rw [t_spec_l1In]
  by_cases h : b ≤ a <;> simp [h]
theorem e_impl_within (a b c : Int) : F_impl_within [I a, I b, I c] = some (.ret [B (decide (b ≤ a ∧ a ≤ c))] []) := by
  rw [t_impl_within]
  by_cases h : b ≤ a <;> simp [h]

/-! ### numbers -/
/-- The decimal numeral. -/
def numT (u : Nat) : ByteArray := ⟨(Lib.decDigits u).toArray⟩
def intT (n : Int) : ByteArray := ⟨(Lib.itoa n).toArray⟩
theorem intT_nat (u : Nat) : intT (u : Int) = numT u := by
  unfold intT numT
  rw [Lib.itoa_nonneg]
theorem numT_small {u : Nat} (h : u < 10) : numT u = ⟨#[UInt8.ofNat (48 + u)]⟩ := by
  unfold numT
  rw [Lib.decDigits_one h]
theorem numT_big {u : Nat} (h : ¬ u < 10) : numT u = numT (u / 10) ++ ⟨#[UInt8.ofNat (48 + u % 10)]⟩ := by
  unfold numT
  rw [Lib.decDigits, dif_neg h]
  apply ByteArray.ext
  simp
theorem numT_size : ∀ (k u : Nat), u < 10 ^ (k + 1) → (numT u).size ≤ k + 1
  | 0, u, h => by
    rw [numT_small (by simpa using h)]
    exact Nat.le_refl _
  | k + 1, u, h => by
    by_cases hu : u < 10
    · rw [numT_small hu]
      show 1 ≤ k + 1 + 1
      omega
    · rw [numT_big hu, ByteArray.size_append]
      have h1 := numT_size k (u / 10) (by rw [Nat.pow_succ] at h; exact Nat.div_lt_of_lt_mul (by rw [Nat.mul_comm]; exact h))
      have h2 : (⟨#[UInt8.ofNat (48 + u % 10)]⟩ : ByteArray).size = 1 := rfl
      omega
theorem intT_size (k : Nat) {n : Int} (h0 : 0 ≤ n) (h1 : n < 10 ^ (k + 1)) : (intT n).size ≤ k + 1 := by
  obtain ⟨u, rfl⟩ := Int.eq_ofNat_of_zero_le h0
  rw [intT_nat]
  exact numT_size k u (by exact_mod_cast h1)
theorem byte_of (u : Nat) (h : u < 10) : bytesOf [.v (.int .u8 (48 + (u : Int)))] = some [UInt8.ofNat (48 + u)] := by
  have e : (48 + (u : Int)).toNat = 48 + u := by omega
  simp only [bytesOf, e, Option.map_some]
theorem wrap8 (a : Int) (h0 : 0 ≤ a) (h1 : a < 256) : IntKind.u8.wrap a = a := by
  have := Int.emod_eq_of_lt h0 h1
  simpa [IntKind.wrap, IntKind.bits, IntKind.signed] using this
theorem mkArr_u8 (a : Int) : mkArr 1 [.v (.int .u8 a)] = some (.arr 1 [.v (.int .u8 a)]) := by simp [mkArr, lenOkD]

theorem num_step (k u : Nat) (hu : u < 10 ^ 18) (ih : R_spec_l1Num k [I ((u / 10 : Nat) : Int)] = none ∨ R_spec_l1Num k [I ((u / 10 : Nat) : Int)] = some (.ret [T (numT (u / 10))] [])) :
    (R_spec_l1Num (k + 1) [I (u : Int)] = none ∧ R_spec_l1Num k [I ((u / 10 : Nat) : Int)] = none ∧ ¬ u < 10) ∨ R_spec_l1Num (k + 1) [I (u : Int)] = some (.ret [T (numT u)] []) := by
  rw [t_spec_l1Num]
  by_cases h : u < 10
  · right
    have h1 : (u : Int) < 10 := by omega
    have hw : IntKind.i64.wrap (48 + (u : Int)) = 48 + (u : Int) := wrap_id (by omega) (by omega)
    have hw8 := wrap8 (48 + (u : Int)) (by omega) (by omega)
    simp only [bin_lss, h1, decide_true, Option.bind_some, ifD_B, if_true, bin_add, hw, convD, hw8, mkArr_u8, strD, byte_of u h, Option.map_some, numT_small h]
  · have h1 : ¬ (u : Int) < 10 := by omega
    have hq : IntKind.i64.wrap ((u : Int).tdiv 10) = ((u / 10 : Nat) : Int) := by
      rw [Int.tdiv_eq_ediv_of_nonneg (by omega), wrap_id (by omega) (by omega)]
      omega
    have hr : (u : Int).tmod 10 = ((u % 10 : Nat) : Int) := by
      rw [Int.tmod_eq_emod_of_nonneg (by omega)]
      omega
    have hm : u % 10 < 10 := Nat.mod_lt _ (by decide)
    have hw : IntKind.i64.wrap (48 + ((u % 10 : Nat) : Int)) = 48 + ((u % 10 : Nat) : Int) := wrap_id (by omega) (by omega)
    have hw8 := wrap8 (48 + ((u % 10 : Nat) : Int)) (by omega) (by omega)
    have hs : (numT (u / 10)).size + (⟨#[UInt8.ofNat (48 + u % 10)]⟩ : ByteArray).size ≤ 1152921504606846976 := by
      have := numT_size 17 (u / 10) (by omega)
      have h2 : (⟨#[UInt8.ofNat (48 + u % 10)]⟩ : ByteArray).size = 1 := rfl
      omega
    rcases ih with e | e
    · left
      refine ⟨?_, e, h⟩
      simp only [bin_lss, h1, decide_false, Option.bind_some, ifD_B, Bool.false_eq_true, if_false, bin_quo, show ¬ (10 : Int) = 0 by decide, hq, e, callK]
    · right
      simp only [bin_lss, h1, decide_false, Option.bind_some, ifD_B, Bool.false_eq_true, if_false, bin_quo, show ¬ (10 : Int) = 0 by decide, hq, e, callK_ret, bin_rem, hr, bin_add, hw, convD, hw8, mkArr_u8, strD,
        byte_of _ hm, Option.map_some, sl_zero, bin_addS, hs, if_true, numT_big h]
theorem num_or : ∀ (k u : Nat), u < 10 ^ 18 → R_spec_l1Num k [I (u : Int)] = none ∨ R_spec_l1Num k [I (u : Int)] = some (.ret [T (numT u)] [])
  | 0, _, _ => .inl rfl
  | k + 1, u, hu => (num_step k u hu (num_or k (u / 10) (by omega))).imp (fun h => h.1) id
theorem num_big : ∀ (k u : Nat), u < 10 ^ 18 → u < 10 ^ (k + 1) → R_spec_l1Num (k + 1) [I (u : Int)] = some (.ret [T (numT u)] [])
  | 0, u, hu, h => by
    rcases num_step 0 u hu (num_or 0 _ (by omega)) with ⟨_, _, h1⟩ | h1
    · exact absurd (by simpa using h) h1
    · exact h1
  | k + 1, u, hu, h => by
    rcases num_step (k + 1) u hu (num_or (k + 1) _ (by omega)) with ⟨_, h1, _⟩ | h1
    · rw [num_big k (u / 10) (by omega) (by rw [Nat.pow_succ] at h; exact Nat.div_lt_of_lt_mul (by rw [Nat.mul_comm]; exact h))] at h1
      cases h1
    · exact h1
theorem e_spec_l1Num {n : Int} (h0 : 0 ≤ n) (h1 : n < 1000000000000000000) : F_spec_l1Num [I n] = some (.ret [T (intT n)] []) := by
  obtain ⟨u, rfl⟩ := Int.eq_ofNat_of_zero_le h0
  have hu : u < 10 ^ 18 := by omega
  rw [intT_nat]
  refine recF_eq (fun k o ho => ?_) 18 (num_big 17 u hu hu)
  rcases num_or k u hu with e | e
  · rw [e] at ho; cases ho
  · rw [e] at ho; cases ho; rfl
theorem e_Itoa {n : Int} (h0 : -9223372036854775808 ≤ n) (h1 : n ≤ 9223372036854775807) : fItoa [I n] = some (.ret [T (intT n)] []) := by
  simp only [fItoa, h0, h1, and_self, if_true]
  rfl

/-! ### orders -/
abbrev Od := Int × Int × Int × Int
abbrev od (x : Od) : D := .agg [I x.1, I x.2.1, I x.2.2.1, I x.2.2.2]

def isOd (x : Od) : Bool := decide (1 ≤ x.1 ∧ x.1 ≤ 99) && decide (0 ≤ x.2.1 ∧ x.2.1 ≤ 500) && decide (0 ≤ x.2.2.1 ∧ x.2.2.1 ≤ 500) && decide (0 ≤ x.2.2.2 ∧ x.2.2.2 ≤ 10000)
theorem isOd_iff {x : Od} : isOd x = true ↔ (1 ≤ x.1 ∧ x.1 ≤ 99) ∧ (0 ≤ x.2.1 ∧ x.2.1 ≤ 500) ∧ (0 ≤ x.2.2.1 ∧ x.2.2.1 ≤ 500) ∧ (0 ≤ x.2.2.2 ∧ x.2.2.2 ≤ 10000) := by
  simp only [isOd, Bool.and_eq_true, decide_eq_true_eq, and_assoc]
theorem e_spec_orOne (x : Od) : F_spec_orOne [od x] = some (.ret [B (isOd x)] []) := by
  rw [t_spec_orOne]
  by_cases h1 : 1 ≤ x.1 ∧ x.1 ≤ 99 <;> by_cases h2 : 0 ≤ x.2.1 ∧ x.2.1 ≤ 500 <;> by_cases h3 : 0 ≤ x.2.2.1 ∧ x.2.2.1 ≤ 500 <;> simp -implicitDefEqProofs [e_spec_l1In, isOd, h1, h2, h3]
theorem e_impl_isOrder (x : Od) : F_impl_isOrder [od x] = some (.ret [B (isOd x)] []) := by
  rw [t_impl_isOrder]
  by_cases h1 : 1 ≤ x.1 ∧ x.1 ≤ 99 <;> by_cases h2 : 0 ≤ x.2.1 ∧ x.2.1 ≤ 500 <;> by_cases h3 : 0 ≤ x.2.2.1 ∧ x.2.2.1 ≤ 500 <;> simp -implicitDefEqProofs [e_impl_within, isOd, h1, h2, h3]

/-- A text of few bytes. -/
theorem addS {a b : ByteArray} {bl : Bool} {eq : List Nat} (h : a.size + b.size ≤ 1152921504606846976) : bin .add bl eq (T a) (T b) = some (T (a ++ b)) := by rw [bin_addS, if_pos h]
/-- The text of an order. -/
def odT (x : Od) : ByteArray := (⟨#[35]⟩ ++ intT x.1 ++ ⟨#[32]⟩ ++ intT x.2.1 ++ ⟨#[43]⟩ ++ intT x.2.2.1 ++ ⟨#[32, 98, 121, 32]⟩ ++ intT x.2.2.2)
theorem sz1 (a : UInt8) : (⟨#[a]⟩ : ByteArray).size = 1 := rfl
theorem sz4 (a b c d : UInt8) : (⟨#[a, b, c, d]⟩ : ByteArray).size = 4 := rfl
theorem e_spec_orText (x : Od) (h : isOd x = true) : F_spec_orText [od x] = some (.ret [T (odT x)] []) := by
  rw [t_spec_orText]
  obtain ⟨h1, h2, h3, h4⟩ := isOd_iff.1 h
  have s1 := intT_size 4 (n := x.1) (by omega) (by omega)
  have s2 := intT_size 4 (n := x.2.1) (by omega) (by omega)
  have s3 := intT_size 4 (n := x.2.2.1) (by omega) (by omega)
  have s4 := intT_size 4 (n := x.2.2.2) (by omega) (by omega)
  have n1 := e_spec_l1Num (n := x.1) (by omega) (by omega)
  have n2 := e_spec_l1Num (n := x.2.1) (by omega) (by omega)
  have n3 := e_spec_l1Num (n := x.2.2.1) (by omega) (by omega)
  have n4 := e_spec_l1Num (n := x.2.2.2) (by omega) (by omega)
  simp -implicitDefEqProofs (disch := (simp only [ByteArray.size_append, sz1, sz4]; omega)) [n1, n2, n3, n4, addS, -bin_addS, odT]
theorem e_impl_orderText (x : Od) (h : isOd x = true) : F_impl_orderText [od x] = some (.ret [T (odT x)] []) := by
  rw [t_impl_orderText]
  obtain ⟨h1, h2, h3, h4⟩ := isOd_iff.1 h
  have s1 := intT_size 4 (n := x.1) (by omega) (by omega)
  have s2 := intT_size 4 (n := x.2.1) (by omega) (by omega)
  have s3 := intT_size 4 (n := x.2.2.1) (by omega) (by omega)
  have s4 := intT_size 4 (n := x.2.2.2) (by omega) (by omega)
  have n1 := e_Itoa (n := x.1) (by omega) (by omega)
  have n2 := e_Itoa (n := x.2.1) (by omega) (by omega)
  have n3 := e_Itoa (n := x.2.2.1) (by omega) (by omega)
  have n4 := e_Itoa (n := x.2.2.2) (by omega) (by omega)
  simp -implicitDefEqProofs (disch := (simp only [ByteArray.size_append, sz1, sz4]; omega)) [n1, n2, n3, n4, addS, -bin_addS, odT]

theorem e_spec_OrderText (x : Od) : F_spec_OrderText [od x] = some (.ret [T (if isOd x then odT x else ⟨#[]⟩), B (isOd x)] []) := by
  rw [t_spec_OrderText]
  cases h : isOd x
  · simp -implicitDefEqProofs [e_spec_orOne, h]
  · simp -implicitDefEqProofs [e_spec_orOne, h, e_spec_orText x h]
theorem e_impl_OrderText (x : Od) : F_impl_OrderText [od x] = some (.ret [T (if isOd x then odT x else ⟨#[]⟩), B (isOd x)] []) := by
  rw [t_impl_OrderText]
  cases h : isOd x
  · simp -implicitDefEqProofs [e_impl_isOrder, h]
  · simp -implicitDefEqProofs [e_impl_isOrder, h, e_impl_orderText x h]
end Go.Proofs.YtecaabmaoaacnaaGreatDoor
/-
  More laws of loops; letters; cases.
-/
namespace Go.Proofs.YtecaabmaoaacnaaGreatDoor
open Go Go.V
set_option linter.unusedSimpArgs false

/-- The first place where something holds. -/
def findI {β : Type} (p : β → Bool) : Nat → List β → Option Nat
  | _, [] => none
  | i, x :: l => if p x = true then some i else findI p (i + 1) l
theorem loop_find {β : Type} {body : List D → Option Out} (l : List β) (st : Nat → List D) (p : β → Bool) (o1 : Nat → Out) (o2 : Out) (hs : ∀ (i : Nat) (hi : i < l.length), body (st i) = some (if p l[i] = true then o1 i else .nrm (st (i + 1)))) (he : body (st l.length) = some o2)
    (h1 : ∀ i, (o1 i).ends = true) (h2 : o2.ends = true) {s0 : List D} (h : s0 = st 0) : loopC body s0 = some ((findI p 0 l).elim o2 o1) := by
  have e : ∀ (m : List β) (i : Nat), goL (fun i x (_ : Unit) => if p x = true then .inr (o1 i) else .inl ()) (fun _ => o2) i m () = (findI p i m).elim o2 o1 := by
    intro m
    induction m with
    | nil => intro i; simp [goL, findI]
    | cons x m ih =>
      intro i
      simp only [goL, findI]
      by_cases hp : p x = true
      · simp [hp]
      · simp [hp, ih]
  rw [← e]
  refine loop_list l (fun i _ => st i) (fun _ _ => True) _ _ (fun i x a hx _ => ?_) (fun _ _ => ⟨he, h2⟩) () trivial h
  have hi : i < l.length := (List.getElem?_eq_some_iff.1 hx).1
  have hxe : l[i] = x := (List.getElem?_eq_some_iff.1 hx).2
  have := hs i hi
  rw [hxe] at this
  by_cases hp : p x = true
  · simpa [hp, h1] using this
  · simpa [hp] using this
/-- All is well, and something is gathered. -/
theorem loop_allf {α β : Type} {body : List D → Option Out} (l : List β) (st : Nat → α → List D) (Inv : Nat → α → Prop) (p : Nat → β → Bool) (f : α → β → α) (o1 : Out) (fin : α → Out) (a : α) (hs : ∀ (i : Nat) (a : α) (hi : i < l.length), Inv i a → body (st i a) = some (if p i l[i] = true then .nrm (st (i + 1) (f a l[i])) else o1) ∧ (p i l[i] = true → Inv (i + 1) (f a l[i])))
    (he : ∀ a, Inv l.length a → body (st l.length a) = some (fin a)) (h1 : o1.ends = true) (h2 : ∀ a, (fin a).ends = true) (h0 : Inv 0 a) {s0 : List D} (h : s0 = st 0 a) : loopC body s0 = some (if allI p 0 l = true then fin (l.foldl f a) else o1) := by
  have e : ∀ (m : List β) (i : Nat) (a : α), goL (fun i x (a : α) => if p i x = true then .inl (f a x) else .inr o1) fin i m a = if allI p i m = true then fin (m.foldl f a) else o1 := by
    intro m
    induction m with
    | nil => intro i a; simp [goL, allI]
    | cons x m ih =>
      intro i a
      simp only [goL, allI, List.foldl_cons]
      by_cases hp : p i x = true
      · simp [hp, ih]
      · simp [hp]
  rw [← e]
  refine loop_list l st Inv _ _ (fun i x a hx hI => ?_) (fun a hI => ⟨he a hI, h2 a⟩) a h0 h
  have hi : i < l.length := (List.getElem?_eq_some_iff.1 hx).1
  have hxe : l[i] = x := (List.getElem?_eq_some_iff.1 hx).2
  have := hs i a hi hI
  rw [hxe] at this
  by_cases hp : p i x = true
  · simpa [hp] using this
  · simpa [hp, h1] using this
/-- What is left of a size. -/
theorem sz_loop {β : Type} {body : List D → Option Out} {K : Out → Option Out} {R : Option Out → Prop} (l : List β) (st : Nat → Int → List D) (P : β → Prop)
    (hs : ∀ (i : Nat) (hi : i < l.length) (m : Int), 0 ≤ m → m ≤ 1048576 → body (st i m) = some (.ret [I (-1)] []) ∨ ∃ m', body (st i m) = some (.nrm (st (i + 1) m')) ∧ 0 ≤ m' ∧ m' ≤ m ∧ P l[i])
    (he : ∀ m, body (st l.length m) = some (.ext 0 [I m])) (m0 : Int) (h0 : 0 ≤ m0) (h1 : m0 ≤ 1048576) {s0 : List D} (h : s0 = st 0 m0)
    (hk1 : R (K (.ret [I (-1)] []))) (hk2 : ∀ m, 0 ≤ m → m ≤ m0 → (∀ x ∈ l, P x) → R (K (.ext 0 [I m]))) : R ((loopC body s0).bind K) := by
  have key : ∀ (n i : Nat) (m : Int), i + n = l.length → 0 ≤ m → m ≤ m0 → (∀ (j : Nat) (hj : j < l.length), j < i → P l[j]) → ∃ o, Runs body (st i m) o ∧ (o = .ret [I (-1)] [] ∨ ∃ m', o = .ext 0 [I m'] ∧ 0 ≤ m' ∧ m' ≤ m0 ∧ ∀ x ∈ l, P x) := by
    intro n
    induction n with
    | zero =>
      intro i m hi g0 g1 hP
      have : i = l.length := by omega
      subst this
      refine ⟨_, Runs.one (he m) rfl, .inr ⟨m, rfl, g0, g1, fun x hx => ?_⟩⟩
      obtain ⟨j, hj, rfl⟩ := List.mem_iff_getElem.1 hx
      exact hP j hj hj
    | succ n ih =>
      intro i m hi g0 g1 hP
      have hlt : i < l.length := by omega
      rcases hs i hlt m g0 (by omega) with e | ⟨m', e, k0, k1, kP⟩
      · exact ⟨_, Runs.one e rfl, .inl rfl⟩
      · obtain ⟨o, r1, r2⟩ := ih (i + 1) m' (by omega) k0 (by omega) (fun j hj hji => by
          rcases Nat.lt_or_ge j i with h | h
          · exact hP j hj h
          · have : j = i := by omega
            subst this
            exact kP)
        exact ⟨o, .nrm e r1, r2⟩
  obtain ⟨o, r1, r2⟩ := key l.length 0 m0 (by omega) h0 (Int.le_refl _) (fun _ _ h => absurd h (by omega))
  rw [h, r1.loop]
  rcases r2 with rfl | ⟨m, rfl, g0, g1, gP⟩
  · exact hk1
  · exact hk2 m g0 g1 gP

def chars (s : ByteArray) : List UInt8 := s.data.toList
theorem charD_nat {s : ByteArray} {k : IntKind} {i : Nat} : charD (T s) (.v (.int k (i : Int))) = ((chars s)[i]?).map fun b => U b.toNat := by simp [charD, chars]
theorem size_list (s : ByteArray) : s.size = (chars s).length := rfl
theorem bin_geqS {a b : ByteArray} {bl : Bool} {eq : List Nat} : bin .geq bl eq (T a) (T b) = some (B (!Op.bytesLess a.toList b.toList)) := by simp [bin, strBin]

/-! ### letters -/
def az (b : UInt8) : Bool := decide (97 ≤ (b.toNat : Int)) && decide ((b.toNat : Int) ≤ 122)
def letters (s : ByteArray) (lo hi : Int) : Bool := allI (fun _ b => az b) 0 (chars s) && decide (lo ≤ (s.size : Int) ∧ (s.size : Int) ≤ hi)
/-! ### cases -/
abbrev Bx := ByteArray × Int × Int × Int
abbrev bx (x : Bx) : D := .agg [T x.1, I x.2.1, I x.2.2.1, I x.2.2.2]
abbrev bxs (l : List Bx) : D := .arr 4 (l.map bx)
theorem isV_bx (x : Bx) : (bx x).isV = true := rfl
/-- Sizes are what a machine can hold. -/
def okBx (l : List Bx) : Prop := l.length ≤ 1048576 ∧ ∀ x ∈ l, x.1.size ≤ 1048576
def isBx (x : Bx) : Bool := letters x.1 1 3 && decide (0 ≤ x.2.1 ∧ x.2.1 ≤ 9) && decide (0 ≤ x.2.2.1 ∧ x.2.2.1 ≤ 9) && decide (0 ≤ x.2.2.2 ∧ x.2.2.2 ≤ 9999)
def sameP (x y : Bx) : Bool := decide (y.2.1 = x.2.1) && decide (y.2.2.1 = x.2.2.1)
def pBx (l : List Bx) (i : Nat) (x : Bx) : Bool := isBx x && !(decide (0 < i) && !Op.bytesLess (l.getD (i - 1) (ByteArray.empty, 0, 0, 0)).1.toList x.1.toList) && allI (fun _ y => !sameP x y) 0 (l.take i)
def goodC (l : List Bx) : Bool := allI (pBx l) 0 l && decide (1 ≤ (l.length : Int) ∧ (l.length : Int) ≤ 32)
theorem take_bxs {l : List Bx} {i : Nat} (hi : i ≤ l.length) : sliceD false 4 (bxs l) (I 0) (I (i : Int)) = some (bxs (l.take i)) := by
  have := sliceD_nat (z := 4) (l := l.map bx) (k := .i64) (k' := .i64) (Nat.zero_le i) (by simpa using hi)
  rw [List.drop_zero, ← List.map_take] at this
  exact this
end Go.Proofs.YtecaabmaoaacnaaGreatDoor
