/-
  The evaluator with joins: what stands behind a choice is evaluated once.
-/
import Derived.Test.YtfjkapnonljdeaaGreatDoorRows
import Derived.Test.YtfjkapnonljdeaaGreatDoorTie
import Derived.Test.YtfjkapnonljdeaaGreatDoorCards
import Derived.Test.YtfjkapnonljdeaaGreatDoorM5
namespace Go.V
open Go.RowKit

/-- What stands behind a choice, said once (not unfolded). -/
def joinC (f : (List D → Option Out) → Option Out) (k : List D → Option Out) : Option Out := f k

@[reducible] noncomputable def denJ (c : Cx) (J : List (Nat × List Nat)) : Nat → Nat → Code → List D → (Out → Option Out) → Option Out
  | _, _, .skip, δ, k => k (.nrm δ)
  | _, _, .region _ ops _, δ, k => runOps c ops.toList ops.toList δ fun δ' => k (.nrm δ')
  | p, bid, .seq a b, δ, k => match look J p with
    | none => denJ c J (Nat.mul 2 p) bid a δ fun o => seqK o (fun δ' => denJ c J (Nat.add (Nat.mul 2 p) 1) bid b δ' k) k
    | some hl => joinC (fun j => denJ c J (Nat.mul 2 p) bid a δ fun o => seqK o (fun δ' => getC δ' hl fun s => j s) k) (fun s => expandC (lenN c.K) hl s fun δ' => denJ c J (Nat.add (Nat.mul 2 p) 1) bid b δ' k)
  | p, bid, .cond x t e, δ, k => opC δ x fun q => ifD q (denJ c J (Nat.mul 2 p) bid t δ k) (denJ c J (Nat.add (Nat.mul 2 p) 1) bid e δ k)
  | p, _, .block id b, δ, k => denJ c J (Nat.mul 2 p) id b δ fun o => blkK id o k
  | p, bid, .loop b, δ, k => match look c.H bid with
    | none => none
    | some (hl, xl) =>
      getC δ hl fun s => (loopC (fun s => expandC (lenN c.K) hl s fun δ => denJ c J (Nat.mul 2 p) bid b δ (shrinkK hl xl)) s).bind fun o =>
        outK o (fun i s => expandC (lenN c.K) xl s fun δ => k (.ext i δ)) (fun a b => k (.ret a b))
  | _, _, .exit id, δ, k => k (.ext id δ)
  | _, _, .ret, δ, k => resC c δ c.res fun rs => getC δ c.ios fun us => usK us (k (.ret rs us))
  | _, _, _, _, _ => none

/-- A whole function. -/
@[reducible] noncomputable def denFJ (c : Cx) (J : List (Nat × List Nat)) (fn : Func) (ds : List D) : Option Out :=
  match fn.body with
  | none => none
  | some b => denJ c J 1 0 b (padTo fn.ntmps ds) fun o => match o with
    | .nrm δ => resC c δ c.res fun rs => getC δ c.ios fun us => usK us (some (.ret rs us))
    | .ext _ _ => none
    | .ret rs us => some (.ret rs us)

def okJ (c : Cx) (J : List (Nat × List Nat)) : Bool := J.all fun p => okLive c.K p.2
theorem okJ_at {c : Cx} : ∀ {J : List (Nat × List Nat)} {p : Nat} {hl : List Nat}, okJ c J = true → look J p = some hl → okLive c.K hl = true
  | [], _, _, _, h => by cases h
  | (q, l) :: J, p, hl, hJ, h => by
    unfold okJ at hJ
    rw [List.all_cons, Bool.and_eq_true] at hJ
    simp only [look] at h
    split at h
    · cases h
      exact hJ.1
    · exact okJ_at (J := J) hJ.2 h

section
variable {P : Program} {c : Cx} {B : Nat} {X : Nat → Prop} {w0 : World} {F0 F : Nat → Prop} {O : Nat → Option (Nat × Nat)} {a : Act} {w : World} {δ : List D}

theorem loop_roundsJ {V : Nat → Value} {J : List (Nat × List Nat)} {p : Nat} {b : Code} {bid : Nat} {hl xl : List Nat} (h1 : okLive c.K hl = true) (h2 : okLive c.K xl = true)
    (ih : ∀ (F : Nat → Prop) (O : Nat → Option (Nat × Nat)) (a : Act) (w : World) (δ : List D), Inv c B X w0 F0 F O a w δ → IoV c V a → ∀ (k : Out → Option Out) (r : Out), denJ c J p bid b δ k = some r → ∀ Q, (∀ e a w, Post c B X w0 F0 V k r e a w → Q e a w) → b.wp P Q a w)
    {k : Out → Option Out} {r : Out} {Q : Exit → Act → World → Prop} (hQ : ∀ e a w, Post c B X w0 F0 V k r e a w → Q e a w) {o : Out}
    (ho : outK o (fun i s => expandC (lenN c.K) xl s fun δ => k (.ext i δ)) (fun x y => k (.ret x y)) = some r) : ∀ (n : Nat) (F : Nat → Prop) (O : Nat → Option (Nat × Nat)) (a : Act) (w : World) (δ : List D), Inv c B X w0 F0 F O a w δ → IoV c V a →
    iter (fun s => expandC (lenN c.K) hl s fun δ => denJ c J p bid b δ (shrinkK hl xl)) n (getAll δ hl) = some o → Code.rounds P b Q n a w
  | 0, _, _, _, _, _, _, _, h => by cases h
  | n + 1, F, O, a, w, δ, hI, hV, h => by
    simp only [iter, expandC_eq] at h
    rw [rounds_succ]
    have hI' := hI.carry h1
    cases hb : denJ c J p bid b (carry (lenN c.K) hl δ) (shrinkK hl xl) with
    | none => rw [hb] at h; cases h
    | some ob =>
      rw [hb] at h
      refine ih F O a w _ hI' hV _ ob hb _ (fun e a' w' hp => ?_)
      cases ob with
      | nrm s' =>
        simp only at h
        cases e with
        | normal =>
          obtain ⟨⟨F', O', δ', g1, g2⟩, g3⟩ := hp
          simp only [shrinkK, getC_eq, Option.some.injEq, Out.nrm.injEq] at g2
          rw [← g2] at h
          exact loop_roundsJ h1 h2 ih hQ ho n F' O' a' w' δ' g1 g3 h
        | exit i =>
          obtain ⟨⟨F', O', δ', g1, g2⟩, g3⟩ := hp
          simp [shrinkK, getC_eq] at g2
        | ret =>
          obtain ⟨⟨F', O', δ', g1, g2⟩, g3⟩ := hp
          obtain ⟨rs, _, _, g4⟩ := retK_is g2
          simp [shrinkK] at g4
        | _ => exact hp.elim
      | ext i l =>
        simp only [Option.some.injEq] at h
        subst h
        cases e with
        | normal =>
          obtain ⟨⟨F', O', δ', g1, g2⟩, g3⟩ := hp
          simp [shrinkK, getC_eq] at g2
        | exit j =>
          obtain ⟨⟨F', O', δ', g1, g2⟩, g3⟩ := hp
          simp only [shrinkK, getC_eq, Option.some.injEq, Out.ext.injEq] at g2
          obtain ⟨rfl, rfl⟩ := g2
          simp only [outK, expandC_eq] at ho
          exact hQ (.exit j) _ _ ⟨⟨F', O', _, g1.carry h2, ho⟩, g3⟩
        | ret =>
          obtain ⟨⟨F', O', δ', g1, g2⟩, g3⟩ := hp
          obtain ⟨rs, _, _, g4⟩ := retK_is g2
          simp [shrinkK] at g4
        | _ => exact hp.elim
      | ret x y =>
        simp only [Option.some.injEq] at h
        subst h
        cases e with
        | normal =>
          obtain ⟨⟨F', O', δ', g1, g2⟩, g3⟩ := hp
          simp [shrinkK, getC_eq] at g2
        | exit j =>
          obtain ⟨⟨F', O', δ', g1, g2⟩, g3⟩ := hp
          simp [shrinkK, getC_eq] at g2
        | ret =>
          obtain ⟨⟨F', O', δ', g1, g2⟩, g3⟩ := hp
          obtain ⟨rs, g5, g6, g4⟩ := retK_is g2
          simp only [shrinkK, Option.some.injEq, Out.ret.injEq] at g4
          obtain ⟨rfl, rfl⟩ := g4
          exact hQ .ret _ _ ⟨⟨F', O', δ', g1, retK_of g5 g6 ho⟩, g3⟩
        | _ => exact hp.elim

theorem denJ_sound (hT : okT P c.T = true) (hS : ∀ f S, look c.S f = some S → Meets c.G P f S) (hm : P.follows .mixedOrders = true) {V : Nat → Value} {J : List (Nat × List Nat)} (hJ : okJ c J = true) : ∀ (b : Code) (p bid : Nat), okCode c bid b = true → ∀ (F : Nat → Prop) (O : Nat → Option (Nat × Nat)) (a : Act) (w : World) (δ : List D),
    Inv c B X w0 F0 F O a w δ → IoV c V a → ∀ (k : Out → Option Out) (r : Out), denJ c J p bid b δ k = some r → ∀ Q, (∀ e a w, Post c B X w0 F0 V k r e a w → Q e a w) → b.wp P Q a w
  | .skip, p, bid, _, F, O, a, w, δ, hI, hV, k, r, hg, Q, hQ => wp_skip (hQ _ _ _ ⟨⟨F, O, δ, hI, hg⟩, hV⟩)
  | .region id ops d, p, bid, hok, F, O, a, w, δ, hI, hV, k, r, hg, Q, hQ => by
    simp only [okCode, Bool.and_eq_true, List.all_eq_true] at hok
    have hq : ∀ a w, NextV c B X w0 F0 V (fun δ => k (.nrm δ)) r a w → Q .normal a w := fun a w h => hQ _ _ _ h
    cases d
    · exact wp_region_list (list_sound hT hS hq ops.toList hok.1 F O a w δ hI hV hg)
    · exact any_sound hT hS (by simpa using hok.2) hm hq hok.1 hI hV hg id
  | .seq x y, p, bid, hok, F, O, a, w, δ, hI, hV, k, r, hg, Q, hQ => by
    simp only [okCode, Bool.and_eq_true] at hok
    simp only [denJ] at hg
    cases hH : look J p with
    | none =>
      rw [hH] at hg
      refine wp_seq (denJ_sound hT hS hm hJ x _ bid hok.1 F O a w δ hI hV _ r hg _ (fun e a' w' hp => ?_))
      cases e with
      | normal =>
        obtain ⟨⟨F', O', δ', hI', hk'⟩, hV'⟩ := hp
        exact denJ_sound hT hS hm hJ y _ bid hok.2 F' O' a' w' δ' hI' hV' k r hk' Q hQ
      | exit id => exact hQ _ _ _ hp
      | ret => exact hQ _ _ _ hp
      | _ => exact hp.elim
    | some hl =>
      rw [hH] at hg
      simp only [joinC] at hg
      have hlive := okJ_at hJ hH
      refine wp_seq (denJ_sound hT hS hm hJ x _ bid hok.1 F O a w δ hI hV _ r hg _ (fun e a' w' hp => ?_))
      cases e with
      | normal =>
        obtain ⟨⟨F', O', δ', hI', hk'⟩, hV'⟩ := hp
        simp only [seqK, getC_eq, expandC_eq] at hk'
        exact denJ_sound hT hS hm hJ y _ bid hok.2 F' O' a' w' _ (hI'.carry hlive) hV' k r hk' Q hQ
      | exit id => exact hQ _ _ _ hp
      | ret => exact hQ _ _ _ hp
      | _ => exact hp.elim
  | .cond x t e, p, bid, hok, F, O, a, w, δ, hI, hV, k, r, hg, Q, hQ => by
    simp only [okCode, Bool.and_eq_true] at hok
    obtain ⟨⟨hlv, hok1⟩, hok2⟩ := hok
    have hop := hI.opd (ble_iff.1 hlv)
    have key : ifD (opD δ x) (denJ c J (Nat.mul 2 p) bid t δ k) (denJ c J (Nat.add (Nat.mul 2 p) 1) bid e δ k) = some r := by
      simp only [denJ] at hg
      cases x with
      | tmp s => simpa only [opC, nthC_eq, opD] using hg
      | const v => simpa only [opC, opD] using hg
      | func f => simpa only [opC, opD] using hg
      | global g => simp [opC] at hg
    unfold ifD at key
    split at key
    · rename_i hd
      rw [hd] at hop
      exact wp_cond_true (RepB_v hop).1 (denJ_sound hT hS hm hJ t _ bid hok1 F O a w δ hI hV k r key Q hQ)
    · rename_i hd
      rw [hd] at hop
      exact wp_cond_false (RepB_v hop).1 (denJ_sound hT hS hm hJ e _ bid hok2 F O a w δ hI hV k r key Q hQ)
    · cases key
  | .block id b, p, bid, hok, F, O, a, w, δ, hI, hV, k, r, hg, Q, hQ => by
    simp only [okCode] at hok
    refine wp_block (denJ_sound hT hS hm hJ b _ id hok F O a w δ hI hV _ r hg _ (fun e a' w' hp => ?_))
    cases e with
    | normal => exact hQ .normal _ _ hp
    | exit i =>
      simp only [Exit.inBlock]
      have hp' : NextV c B X w0 F0 V (fun δ => blkK id (.ext i δ) k) r a' w' := hp
      split
      · rename_i hi
        refine hQ .normal _ _ (NextV_mono hp' fun δ F O _ h => ?_)
        simp only [blkK] at h
        rw [beq_iff.2 (by simpa using hi)] at h
        exact h
      · rename_i hi
        refine hQ (.exit i) _ _ (NextV_mono hp' fun δ F O _ h => ?_)
        simp only [blkK] at h
        cases hb : Nat.beq i id
        · rw [hb] at h; exact h
        · exact absurd (by simpa using beq_iff.1 hb) hi
    | ret => exact hQ .ret _ _ hp
    | _ => exact hp.elim
  | .loop b, p, bid, hok, F, O, a, w, δ, hI, hV, k, r, hg, Q, hQ => by
    simp only [okCode, Bool.and_eq_true] at hok
    obtain ⟨hok1, hok2⟩ := hok
    simp only [denJ] at hg
    cases hH : look c.H bid with
    | none => rw [hH] at hg; cases hg
    | some hx =>
      obtain ⟨hl, xl⟩ := hx
      rw [hH] at hg hok2
      simp only [Bool.and_eq_true] at hok2
      simp only [getC_eq] at hg
      obtain ⟨o', h1, h2⟩ := Option.bind_eq_some_iff.1 hg
      unfold loopC at h1
      split at h1
      case isFalse => cases h1
      rename_i hex
      refine wp_loop_rounds (Classical.choose hex) ?_
      refine loop_roundsJ (hl := hl) (xl := xl) hok2.1 hok2.2 (fun F O a w δ hI hV k r hg Q hQ => denJ_sound hT hS hm hJ b _ bid hok1 F O a w δ hI hV k r hg Q hQ) hQ h2 _ F O a w δ hI hV h1
  | .exit id, p, bid, _, F, O, a, w, δ, hI, hV, k, r, hg, Q, hQ => wp_exit (hQ _ _ _ ⟨⟨F, O, δ, hI, hg⟩, hV⟩)
  | .ret, p, bid, _, F, O, a, w, δ, hI, hV, k, r, hg, Q, hQ => wp_ret (hQ _ _ _ ⟨⟨F, O, δ, hI, hg⟩, hV⟩)
  | .label _, _, _, hok, _, _, _, _, _, _, _, _, _, _, _, _ => by simp [okCode] at hok
  | .goto _, _, _, hok, _, _, _, _, _, _, _, _, _, _, _, _ => by simp [okCode] at hok
  | .scope _, _, _, hok, _, _, _, _, _, _, _, _, _, _, _, _ => by simp [okCode] at hok


theorem fn_callsJ (hT : okT P c.T = true) (hS : ∀ f S, look c.S f = some S → Meets c.G P f S) (hm : P.follows .mixedOrders = true) {J : List (Nat × List Nat)} (hJ : okJ c J = true) {f : FuncId} {fn : Func} (hf : P.funcs[f]? = some fn) {pm rm : List Kd} (hok : okFn c fn pm rm = true) (hres : c.res = fn.results.toList)
    {ds rs us : List D} (hd : denFJ c J fn ds = some (.ret rs us)) {args : Array Value} {w : World} {F : Nat → Prop} {ow : Nat → Option Nat} (hgl : gOk c.G w F) (ha : ArgsOk w F ow 0 pm ds args.toList) (hF : ∀ b, F b → b < w.heap.size ∧ ow b = none) (hO : ∀ b i, ow b = some i → b < w.heap.size) :
    Calls P f args w fun e w' => ∃ v, e = .returned v ∧ ∃ F' R vs, v = resV vs ∧ CallPost { pm := pm, rm := rm, f := denFJ c J fn } args rs us w F ow F' R vs w' := by
  unfold okFn at hok
  simp only [Bool.and_eq_true, decide_eq_true_eq] at hok
  obtain ⟨⟨⟨⟨⟨hcode, hlenK⟩, hpre⟩, hpm⟩, hokr⟩, hios⟩ := hok
  rw [beq_iff, lenN_eq] at hlenK
  obtain ⟨hpl, hpn⟩ := prefK_nth hpre
  obtain ⟨hdl, hal, hargs⟩ := ArgsOk_at pm ds args.toList 0 ha
  have hasz : args.size = pm.length := by simpa using hal
  unfold denFJ at hd
  cases hb : fn.body with
  | none => rw [hb] at hd; cases hd
  | some b =>
    rw [hb] at hd hcode
    simp only at hd hcode
    refine calls_of_wp hf hb ?_
    have hav : ∀ s, s < pm.length → av ({ tmps := args ++ Array.replicate (fn.ntmps - args.size) undef, defers := [] } : Act) s = args.toList.getD s undef := fun s hs => by
      have h1 : s < args.size := by omega
      simp only [av, Array.getD_eq_getD_getElem?, List.getD_eq_getElem?_getD, Array.getElem?_toList]
      rw [Array.getElem?_append_left h1]
    have hinit : Inv c w.heap.size (fun b => ow b ≠ none) w F F (fun b => (ow b).map fun i => (i, 0)) { tmps := args ++ Array.replicate (fn.ntmps - args.size) undef, defers := [] } w (padTo fn.ntmps ds) := by
      refine ⟨by simp; omega, by rw [padTo_len, hlenK], rfl, fun s => ?_, fun b hb => ⟨(hF b hb).1, by simp [(hF b hb).2]⟩, fun b p hp => ?_, fun _ h => h, fun _ h => .inl h, Nat.le_refl _, rfl, rfl, rfl, fun _ _ _ => rfl, hgl⟩
      · unfold SlotOk
        rw [padTo_nth _ _ _ (by rw [hdl]; omega)]
        by_cases hs : s < pm.length
        · rw [hpn s hs, hav s hs]
          rcases hargs s hs with hbad | harg
          · exact .inl hbad
          refine .inr ?_
          have hlv : ∀ lv, lv ≠ 1 → ∀ b, FB F 0 lv b → FB F w.heap.size lv b := fun lv h1 b hb => by
            match lv, h1 with
            | 0, _ => exact hb
            | _ + 2, _ => exact hb
          rcases okPm_at hpm s hs with ⟨lv, hk, h1⟩ | ⟨z, lv, hk, h1⟩ | ⟨n, lv, hk, h1⟩
          · rw [hk] at harg ⊢
            exact .inr (RepV_mono (hlv lv h1) (fun _ _ => rfl) harg)
          · rw [hk] at harg ⊢
            exact .inr (OwnV_mono' (hlv lv h1) (fun _ _ => rfl) (fun g _ hg => ⟨⟨by simp only [Nat.zero_add] at hg; simp [hg], fun h => by cases h⟩, rfl⟩) harg)
          · rw [hk] at harg ⊢
            exact .inr (BoxV_mono' (hlv lv h1) (fun _ _ => rfl) (fun g _ hg => ⟨⟨by simp only [Nat.zero_add] at hg; simp [hg], fun h => by cases h⟩, rfl⟩) harg)
        · refine .inl ?_
          rw [nth_eq, List.getD_eq_getElem?_getD, List.getElem?_eq_none (by omega)]
          rfl
      · obtain ⟨i, hi, rfl⟩ := Option.map_eq_some_iff.1 hp
        exact ⟨hO b i hi, .inr (by rw [hi]; simp)⟩
    refine denJ_sound hT hS hm hJ b 1 0 hcode F _ _ w _ hinit (V := av { tmps := args ++ Array.replicate (fn.ntmps - args.size) undef, defers := [] }) (fun _ _ => rfl) _ _ hd _ (fun e a' w' hp => ?_)
    have fin : NextV c w.heap.size (fun b => ow b ≠ none) w F (av { tmps := args ++ Array.replicate (fn.ntmps - args.size) undef, defers := [] }) (fun δ => retK c δ some) (.ret rs us) a' w' → a'.defers = [] ∧ ∃ v, (results fn a'.tmps).run P w' = .ok v w' ∧ ∃ v', Ending.returned v = .returned v' ∧ ∃ F' R vs, v' = resV vs ∧ CallPost { pm := pm, rm := rm, f := denFJ c J fn } args rs us w F ow F' R vs w' := by
      rintro ⟨⟨F', O', δ', hI', hk⟩, hV'⟩
      obtain ⟨rs', h1, h2, h3⟩ := retK_is hk
      simp only [Option.some.injEq, Out.ret.injEq] at h3
      obtain ⟨rfl, rfl⟩ := h3
      obtain ⟨vs, g1, g2, g3, g4⟩ := res_run (P := P) hT hI' c.res rm rs' hokr h1
      refine ⟨hI'.df, resV vs, ?_, _, rfl, F', fun b => if w.heap.size ≤ b then (match O' b with
        | some (t, 0) => resIx c.res t 0
        | _ => none) else none, vs, rfl, ?_⟩
      · have hrun : (fn.results.mapM (getRes a'.tmps)).run P w' = .ok vs.toArray w' := by
          rw [Array.mapM_eq_mapM_toList, ← hres]
          simp [g1]
        have hrw : results fn a'.tmps = (do
            let vs ← fn.results.mapM (getRes a'.tmps)
            pure (if h : vs.size = 1 then vs[0] else .tuple vs)) := by
          unfold results
          congr 1
        rw [hrw]
        simp only [Sem.run_bind, hrun, Result.andThen_ok, Sem.run_pure]
        congr 1
        rcases vs with _ | ⟨y, _ | ⟨y', vs⟩⟩
        · simp [resV]
        · simp [resV]
        · simp [resV]
      · refine ⟨hI'.os, hI'.tape, hI'.output, hI'.bb, fun b hb ho => hI'.keep b hb (by simp [ho]), hI'.f0, fun b hb => ⟨hI'.fn b hb, (hI'.fl b hb).1, by simp only [(hI'.fl b hb).2]; split <;> rfl⟩, fun b j hj => ?_, g2, g3, fun j => ?_, ?_⟩
        · split at hj
          case isFalse => cases hj
          rename_i hB
          refine ⟨hB, ?_⟩
          split at hj
          · rename_i t he; exact (hI'.ol b _ he).1
          · cases hj
        · refine ResOk_mono (fun hk g hg => ?_) (g4 j)
          obtain ⟨z, lv, hk⟩ := hk
          obtain ⟨e1, t, e2, e3⟩ := hg
          rw [if_pos e1]
          simp only [e3]
          have := (resIx_own c.res rm hokr j t 0 z lv hk e2).1
          simpa using this
        · rw [hios]
          refine UsOk_of pm args.toList 0 hal (fun j hj hio => ?_)
          rw [Nat.zero_add]
          have hkj := hpn j hj
          have hbj : nth δ' j ≠ .bad := by
            refine h2 _ ?_
            rw [hios, getAll_map]
            exact List.mem_map_of_mem (by simpa using ioIdx_mem pm 0 j hj hio)
          have havj : av a' j = args.toList.getD j undef := (hV' j (by rw [hkj]; exact hio)).trans (hav j hj)
          have hlv : ∀ lv, lv ≠ 1 → ∀ b, FB F' w.heap.size lv b → FB F' 0 lv b := fun lv h1 b hb => by
            match lv, h1 with
            | 0, _ => exact hb
            | _ + 2, _ => exact hb
          refine ⟨hbj, .inr ?_⟩
          rcases okPm_at hpm j hj with ⟨lv, hk, h1⟩ | ⟨z, lv, hk, h1⟩ | ⟨n, lv, hk, h1⟩
          · rw [hk] at hio; cases hio
          · have h5 := hI'.own (hkj.trans hk) hbj
            rw [havj] at h5
            rw [hk]
            exact OwnV_mono' (hlv lv h1) (fun _ _ => rfl) (fun _ _ _ => ⟨trivial, rfl⟩) h5
          · have h5 := hI'.box (hkj.trans hk) hbj
            rw [havj] at h5
            rw [hk]
            exact BoxV_mono' (hlv lv h1) (fun _ _ => rfl) (fun _ _ _ => ⟨trivial, rfl⟩) h5
    cases e with
    | normal => exact fin hp
    | exit i =>
      obtain ⟨⟨_, _, _, _, h⟩, _⟩ := hp
      cases h
    | ret =>
      refine fin (NextV_mono hp fun δ F O _ h => ?_)
      obtain ⟨rs', h1, h2, h3⟩ := retK_is h
      exact retK_of h1 h2 h3
    | _ => exact hp.elim

theorem meets_ofJ (hT : okT P c.T = true) (hS : ∀ f S, look c.S f = some S → Meets c.G P f S) (hm : P.follows .mixedOrders = true) {J : List (Nat × List Nat)} (hJ : okJ c J = true) {f : FuncId} {fn : Func} (hf : P.funcs[f]? = some fn) (hname : (fn.name == "runtime.NumGoroutine") = false) {pm rm : List Kd} (hok : okFn c fn pm rm = true) (hres : c.res = fn.results.toList) :
    Meets c.G P f { pm := pm, rm := rm, f := denFJ c J fn } := by
  intro ds rs us hd args w F ow hgl ha hF hO o a next Q hn
  have hbody : ∃ b, fn.body = some b := by
    have hd' : denFJ c J fn ds = some (.ret rs us) := hd
    unfold denFJ at hd'
    cases hb : fn.body with
    | none => rw [hb] at hd'; cases hd'
    | some b => exact ⟨b, rfl⟩
  obtain ⟨b, hb⟩ := hbody
  have hrun : (callFunc f args).run P w = .ok (.enter f args) w := by
    have h1 : ¬ fn.name = "runtime.NumGoroutine" := by simpa using hname
    simp [callFunc, hf, h1, hb]
  rw [hrun, Oper.upon_enter]
  refine Calls.mono (fn_callsJ hT hS hm hJ hf hok hres hd hgl ha hF hO) (fun e w' he => ?_)
  obtain ⟨v, rfl, F', R, vs, h1, h2⟩ := he
  exact hn v w' ⟨F', R, vs, h1, h2⟩


end

/-- A join: what is so of all that comes to it is so of the whole. -/
theorem joinC_of {f : (List D → Option Out) → Option Out} {k : List D → Option Out} {r : Option Out} (p : List D → Prop) (hk : ∀ s, p s → k s = r) (hf : ∀ j : List D → Option Out, (∀ s, p s → j s = r) → f j = r) : joinC f k = r := hf k hk
end Go.V
/-
  Contexts and contracts of functions, printed by gen.py.
-/
namespace Go.Proofs.YtfjkapnonljdeaaGreatDoor
open Go.V
set_option maxRecDepth 100000
@[reducible] def ty4 : TI := { n := 1, zero := [.v (.bool false)], bl := true }
@[reducible] def ty52 : TI := { n := 1, zero := [.v (.int .u64 0)], ik := some .u64 }
@[reducible] def ty54 : TI := { agg := true, n := 3, zero := [.arr 1 [], .v (.int .i64 0), .v (.int .u64 0)], fs := [(0, 22), (1, 3), (2, 52)] }
/-- loop.example/g01054/laws.big -/
@[reducible] noncomputable def c_laws_big : Cx := { K := [.dat 2, .dat 2, .no, .no, .dat 0, .dat 2, .dat 0, .dat 0, .dat 0, .dat 2, .dat 0, .dat 2, .dat 0, .dat 0, .dat 0, .dat 0], T := [(3, ty3), (5, ty5), (22, ty22)], S := [], H := [], res := [.tmp 4], ios := [], G := gl0 }
noncomputable def F_laws_big : List D → Option Out := denF c_laws_big Tryz.f4
@[reducible] noncomputable def S_laws_big : FS := { pm := [.dat 2, .dat 2], rm := [.dat 0], f := F_laws_big }
theorem M_laws_big : Meets gl0 Tryz.prog 4 S_laws_big := meets_of (P := Tryz.prog) (c := c_laws_big) (fn := Tryz.f4) (pm := S_laws_big.pm) (rm := S_laws_big.rm) (by kernel_rfl) lookNil follows_mixed Tryz.func4 (by kernel_rfl) (by kernel_rfl) rfl
/-- (*loop.example/g01054/spec.l1Cur).next -/
@[reducible] noncomputable def c_spec_l1Cur_next : Cx := { K := [.box 3 2 true, .no, .dat 0, .dat 0, .ref 0, .ref 0, .ref 0, .dat 0, .ref 0, .ref 0, .ref 0, .dat 2, .dat 0, .dat 0, .ref 0, .ref 0, .ref 0, .dat 2, .ref 0, .ref 0, .ref 0, .dat 0, .dat 2, .dat 0, .dat 0, .ref 0, .ref 0, .ref 0, .dat 0, .dat 0, .ref 0, .ref 0, .ref 0, .ref 0, .ref 0, .ref 0, .dat 0, .dat 0, .dat 0, .dat 0, .dat 0, .dat 0, .ref 0, .ref 0, .ref 0, .ref 0, .ref 0, .dat 0, .ref 0, .ref 0, .ref 0, .dat 2, .dat 0, .dat 0, .dat 0, .ref 0, .ref 0, .ref 0, .dat 0, .dat 0, .dat 0, .dat 0], T := [(3, ty3), (5, ty5), (22, ty22), (52, ty52), (54, ty54)], S := [], H := [], res := [.tmp 2], ios := [0], G := gl0 }
noncomputable def F_spec_l1Cur_next : List D → Option Out := denF c_spec_l1Cur_next Tryz.f56
@[reducible] noncomputable def S_spec_l1Cur_next : FS := { pm := [.box 3 2 true], rm := [.dat 0], f := F_spec_l1Cur_next }
theorem M_spec_l1Cur_next : Meets gl0 Tryz.prog 56 S_spec_l1Cur_next := meets_of (P := Tryz.prog) (c := c_spec_l1Cur_next) (fn := Tryz.f56) (pm := S_spec_l1Cur_next.pm) (rm := S_spec_l1Cur_next.rm) (by kernel_rfl) lookNil follows_mixed Tryz.func56 (by kernel_rfl) (by kernel_rfl) rfl
/-- (*loop.example/g01054/spec.l1Cur).pick -/
@[reducible] noncomputable def c_spec_l1Cur_pick : Cx := { K := [.box 3 2 true, .dat 0, .no, .no, .dat 0, .dat 0, .dat 0, .dat 0, .ref 0, .dat 0, .dat 0, .dat 0, .dat 0, .dat 0, .ref 0, .dat 0, .dat 0, .dat 0, .dat 0, .dat 0], T := [(3, ty3)], S := [(56, S_spec_l1Cur_next)], H := [], res := [.tmp 4], ios := [0], G := gl0 }
noncomputable def F_spec_l1Cur_pick : List D → Option Out := denF c_spec_l1Cur_pick Tryz.f39
@[reducible] noncomputable def S_spec_l1Cur_pick : FS := { pm := [.box 3 2 true, .dat 0], rm := [.dat 0], f := F_spec_l1Cur_pick }
theorem M_spec_l1Cur_pick : Meets gl0 Tryz.prog 39 S_spec_l1Cur_pick := meets_of (P := Tryz.prog) (c := c_spec_l1Cur_pick) (fn := Tryz.f39) (pm := S_spec_l1Cur_pick.pm) (rm := S_spec_l1Cur_pick.rm) (by kernel_rfl) (lookCons M_spec_l1Cur_next lookNil) follows_mixed Tryz.func39 (by kernel_rfl) (by kernel_rfl) rfl
/-- (*loop.example/g01054/spec.l1Cur).one -/
@[reducible] noncomputable def c_spec_l1Cur_one : Cx := { K := [.box 3 2 true, .dat 0, .no, .no, .dat 0, .ref 0, .dat 0, .dat 0, .dat 0], T := [(3, ty3)], S := [(39, S_spec_l1Cur_pick)], H := [], res := [.tmp 4], ios := [0], G := gl0 }
noncomputable def F_spec_l1Cur_one : List D → Option Out := denF c_spec_l1Cur_one Tryz.f38
@[reducible] noncomputable def S_spec_l1Cur_one : FS := { pm := [.box 3 2 true, .dat 0], rm := [.dat 0], f := F_spec_l1Cur_one }
theorem M_spec_l1Cur_one : Meets gl0 Tryz.prog 38 S_spec_l1Cur_one := meets_of (P := Tryz.prog) (c := c_spec_l1Cur_one) (fn := Tryz.f38) (pm := S_spec_l1Cur_one.pm) (rm := S_spec_l1Cur_one.rm) (by kernel_rfl) (lookCons M_spec_l1Cur_pick lookNil) follows_mixed Tryz.func38 (by kernel_rfl) (by kernel_rfl) rfl
/-- (*loop.example/g01054/spec.l1Cur).among -/
@[reducible] noncomputable def c_spec_l1Cur_among : Cx := { K := [.box 3 2 true, .dat 2, .no, .no, .dat 0, .dat 2, .ref 0, .dat 2, .dat 0, .dat 0, .dat 2, .dat 0], T := [(3, ty3), (58, ty58)], S := [(39, S_spec_l1Cur_pick)], H := [], res := [.tmp 4], ios := [0], G := gl0 }
noncomputable def F_spec_l1Cur_among : List D → Option Out := denF c_spec_l1Cur_among Tryz.f36
@[reducible] noncomputable def S_spec_l1Cur_among : FS := { pm := [.box 3 2 true, .dat 2], rm := [.dat 0], f := F_spec_l1Cur_among }
theorem M_spec_l1Cur_among : Meets gl0 Tryz.prog 36 S_spec_l1Cur_among := meets_of (P := Tryz.prog) (c := c_spec_l1Cur_among) (fn := Tryz.f36) (pm := S_spec_l1Cur_among.pm) (rm := S_spec_l1Cur_among.rm) (by kernel_rfl) (lookCons M_spec_l1Cur_pick lookNil) follows_mixed Tryz.func36 (by kernel_rfl) (by kernel_rfl) rfl
/-- (*loop.example/g01054/spec.l1Cur).note -/
@[reducible] noncomputable def c_spec_l1Cur_note : Cx := { K := [.box 3 2 true, .dat 0, .no, .no, .box 3 0 false, .box 3 0 false, .dat 0, .ref 0, .dat 0, .ref 0, .dat 0, .dat 0, .dat 0, .ref 0, .dat 0, .dat 0, .dat 0, .ref 0, .dat 1, .dat 0, .ref 5, .dat 0, .dat 0, .ref 0, .dat 1, .dat 0, .ref 5, .dat 0, .dat 0, .ref 0, .dat 1, .dat 0, .ref 5, .dat 0], T := [(3, ty3), (38, ty38), (58, ty58)], S := [(36, S_spec_l1Cur_among), (39, S_spec_l1Cur_pick)], H := [], res := [.cell 4 38], ios := [0], G := gl0 }
noncomputable def F_spec_l1Cur_note : List D → Option Out := denF c_spec_l1Cur_note Tryz.f35
@[reducible] noncomputable def S_spec_l1Cur_note : FS := { pm := [.box 3 2 true, .dat 0], rm := [.dat 0], f := F_spec_l1Cur_note }
theorem M_spec_l1Cur_note : Meets gl0 Tryz.prog 35 S_spec_l1Cur_note := meets_of (P := Tryz.prog) (c := c_spec_l1Cur_note) (fn := Tryz.f35) (pm := S_spec_l1Cur_note.pm) (rm := S_spec_l1Cur_note.rm) (by kernel_rfl) (lookCons M_spec_l1Cur_among (lookCons M_spec_l1Cur_pick lookNil)) follows_mixed Tryz.func35 (by kernel_rfl) (by kernel_rfl) rfl
/-- (*loop.example/g01054/spec.l1Cur).notes -/
@[reducible] noncomputable def c_spec_l1Cur_notes : Cx := { K := [.box 3 2 true, .no, .own 3 0 false, .own 3 0 false, .dat 0, .dat 0, .ref 0, .dat 0, .ref 0, .dat 0, .ref 0, .dat 0, .ref 0, .dat 0, .dat 0, .via 3, .dat 0, .dat 0, .dat 0, .own 3 0 false, .ref 0, .dat 0, .dat 0, .dat 1, .own 3 0 false, .dat 0, .ref 0, .dat 0, .dat 0, .dat 0, .dat 0, .dat 0, .ref 0, .dat 0, .dat 0, .via 3, .dat 0, .dat 0, .ref 3, .ref 3, .own 3 0 false], T := [(3, ty3), (24, ty24), (38, ty38)], S := [(35, S_spec_l1Cur_note), (38, S_spec_l1Cur_one), (39, S_spec_l1Cur_pick)], H := [(0, ([0, 3, 4, 5], [0, 3, 5]))], res := [.tmp 2], ios := [0], G := gl0 }
noncomputable def F_spec_l1Cur_notes : List D → Option Out := denF c_spec_l1Cur_notes Tryz.f37
@[reducible] noncomputable def S_spec_l1Cur_notes : FS := { pm := [.box 3 2 true], rm := [.own 3 0 false], f := F_spec_l1Cur_notes }
theorem M_spec_l1Cur_notes : Meets gl0 Tryz.prog 37 S_spec_l1Cur_notes := meets_of (P := Tryz.prog) (c := c_spec_l1Cur_notes) (fn := Tryz.f37) (pm := S_spec_l1Cur_notes.pm) (rm := S_spec_l1Cur_notes.rm) (by kernel_rfl) (lookCons M_spec_l1Cur_note (lookCons M_spec_l1Cur_one (lookCons M_spec_l1Cur_pick lookNil))) follows_mixed Tryz.func37 (by kernel_rfl) (by kernel_rfl) rfl
/-- loop.example/g01054/spec.DrawAreNotes -/
@[reducible] noncomputable def c_spec_DrawAreNotes : Cx := { K := [.dat 2, .no, .own 3 0 false, .ref 6, .dat 2, .dat 2, .box 3 2 false, .ref 6, .own 3 0 false], T := [(3, ty3), (22, ty22), (24, ty24), (52, ty52), (54, ty54)], S := [(37, S_spec_l1Cur_notes)], H := [], res := [.tmp 2], ios := [], G := gl0 }
noncomputable def F_spec_DrawAreNotes : List D → Option Out := denF c_spec_DrawAreNotes Tryz.f23
@[reducible] noncomputable def S_spec_DrawAreNotes : FS := { pm := [.dat 2], rm := [.own 3 0 false], f := F_spec_DrawAreNotes }
theorem M_spec_DrawAreNotes : Meets gl0 Tryz.prog 23 S_spec_DrawAreNotes := meets_of (P := Tryz.prog) (c := c_spec_DrawAreNotes) (fn := Tryz.f23) (pm := S_spec_DrawAreNotes.pm) (rm := S_spec_DrawAreNotes.rm) (by kernel_rfl) (lookCons M_spec_l1Cur_notes lookNil) follows_mixed Tryz.func23 (by kernel_rfl) (by kernel_rfl) rfl
/-- loop.example/g01054/spec.DrawJournalText -/
@[reducible] noncomputable def c_spec_DrawJournalText : Cx := { K := [.dat 2, .no, .own 3 0 false, .dat 2, .own 3 0 false], T := [(24, ty24)], S := [(23, S_spec_DrawAreNotes)], H := [], res := [.tmp 2], ios := [], G := gl0 }
noncomputable def F_spec_DrawJournalText : List D → Option Out := denF c_spec_DrawJournalText Tryz.f5
@[reducible] noncomputable def S_spec_DrawJournalText : FS := { pm := [.dat 2], rm := [.own 3 0 false], f := F_spec_DrawJournalText }
theorem M_spec_DrawJournalText : Meets gl0 Tryz.prog 5 S_spec_DrawJournalText := meets_of (P := Tryz.prog) (c := c_spec_DrawJournalText) (fn := Tryz.f5) (pm := S_spec_DrawJournalText.pm) (rm := S_spec_DrawJournalText.rm) (by kernel_rfl) (lookCons M_spec_DrawAreNotes lookNil) follows_mixed Tryz.func5 (by kernel_rfl) (by kernel_rfl) rfl
/-- loop.example/g01054/impl.JournalText -/
@[reducible] noncomputable def c_impl_JournalText : Cx := { K := [.dat 2, .no, .dat 0, .dat 0, .dat 2, .dat 0, .dat 0, .dat 0, .dat 2, .dat 0, .dat 0, .dat 0, .dat 0, .dat 2, .dat 0], T := [(3, ty3), (9, ty9)], S := [(10, S_impl_AreNotes), (24, S_impl_journalText)], H := [], res := [.tmp 2, .tmp 3], ios := [], G := gl1 }
noncomputable def F_impl_JournalText : List D → Option Out := denF c_impl_JournalText Tryz.f6
@[reducible] noncomputable def S_impl_JournalText : FS := { pm := [.dat 2], rm := [.dat 0, .dat 0], f := F_impl_JournalText }
theorem M_impl_JournalText : Meets gl1 Tryz.prog 6 S_impl_JournalText := meets_of (P := Tryz.prog) (c := c_impl_JournalText) (fn := Tryz.f6) (pm := S_impl_JournalText.pm) (rm := S_impl_JournalText.rm) (by kernel_rfl) (lookCons (meets_mono gl01 M_impl_AreNotes) (lookCons M_impl_journalText lookNil)) follows_mixed Tryz.func6 (by kernel_rfl) (by kernel_rfl) rfl
/-- loop.example/g01054/spec.joText -/
@[reducible] noncomputable def c_spec_joText : Cx := { K := [.dat 2, .no, .dat 0, .dat 0, .dat 0, .no, .box 3 0 false, .dat 2, .dat 0, .dat 0, .dat 0, .dat 2, .dat 0, .dat 0, .dat 0, .dat 0, .dat 0, .dat 0, .dat 0, .dat 0, .dat 0, .dat 0, .dat 0], T := [(3, ty3), (9, ty9), (24, ty24), (38, ty38)], S := [(45, S_spec_joCheck), (46, S_spec_joLine)], H := [(0, ([3, 4, 7, 8, 9], [3]))], res := [.tmp 2], ios := [], G := gl0 }
noncomputable def F_spec_joText : List D → Option Out := denF c_spec_joText Tryz.f27
@[reducible] noncomputable def S_spec_joText : FS := { pm := [.dat 2], rm := [.dat 0], f := F_spec_joText }
theorem M_spec_joText : Meets gl0 Tryz.prog 27 S_spec_joText := meets_of (P := Tryz.prog) (c := c_spec_joText) (fn := Tryz.f27) (pm := S_spec_joText.pm) (rm := S_spec_joText.rm) (by kernel_rfl) (lookCons M_spec_joCheck (lookCons M_spec_joLine lookNil)) follows_mixed Tryz.func27 (by kernel_rfl) (by kernel_rfl) rfl
/-- loop.example/g01054/spec.joIf -/
@[reducible] noncomputable def c_spec_joIf : Cx := { K := [.dat 0, .no, .dat 0, .dat 0, .dat 0, .dat 0, .dat 0, .dat 0], T := [(3, ty3), (9, ty9)], S := [], H := [], res := [.tmp 2, .tmp 3], ios := [], G := gl0 }
noncomputable def F_spec_joIf : List D → Option Out := denF c_spec_joIf Tryz.f26
@[reducible] noncomputable def S_spec_joIf : FS := { pm := [.dat 0], rm := [.dat 0, .dat 0], f := F_spec_joIf }
theorem M_spec_joIf : Meets gl0 Tryz.prog 26 S_spec_joIf := meets_of (P := Tryz.prog) (c := c_spec_joIf) (fn := Tryz.f26) (pm := S_spec_joIf.pm) (rm := S_spec_joIf.rm) (by kernel_rfl) lookNil follows_mixed Tryz.func26 (by kernel_rfl) (by kernel_rfl) rfl
/-- loop.example/g01054/spec.JournalText -/
@[reducible] noncomputable def c_spec_JournalText : Cx := { K := [.dat 2, .no, .dat 0, .dat 0, .dat 2, .dat 0, .dat 0, .dat 2, .dat 0, .tup [.dat 0, .dat 0], .dat 0, .dat 0], T := [], S := [(25, S_spec_joGood), (26, S_spec_joIf), (27, S_spec_joText)], H := [], res := [.tmp 2, .tmp 3], ios := [], G := gl0 }
noncomputable def F_spec_JournalText : List D → Option Out := denF c_spec_JournalText Tryz.f7
@[reducible] noncomputable def S_spec_JournalText : FS := { pm := [.dat 2], rm := [.dat 0, .dat 0], f := F_spec_JournalText }
theorem M_spec_JournalText : Meets gl0 Tryz.prog 7 S_spec_JournalText := meets_of (P := Tryz.prog) (c := c_spec_JournalText) (fn := Tryz.f7) (pm := S_spec_JournalText.pm) (rm := S_spec_JournalText.rm) (by kernel_rfl) (lookCons M_spec_joGood (lookCons M_spec_joIf (lookCons M_spec_joText lookNil))) follows_mixed Tryz.func7 (by kernel_rfl) (by kernel_rfl) rfl
/-- loop.example/g01054/laws.pSameNotes -/
@[reducible] noncomputable def c_laws_pSameNotes : Cx := { K := [.dat 2, .dat 2, .no, .no, .dat 0, .dat 0, .dat 2, .dat 0, .dat 2, .dat 0, .dat 0, .dat 2, .dat 0, .dat 0, .dat 0, .dat 0, .dat 2, .dat 0, .dat 2, .dat 0, .dat 2, .dat 0, .dat 2, .dat 0, .dat 0, .dat 0], T := [(3, ty3), (24, ty24), (38, ty38)], S := [], H := [(0, ([0, 1, 12, 13], []))], res := [.tmp 4], ios := [], G := gl0 }
noncomputable def F_laws_pSameNotes : List D → Option Out := denF c_laws_pSameNotes Tryz.f9
@[reducible] noncomputable def S_laws_pSameNotes : FS := { pm := [.dat 2, .dat 2], rm := [.dat 0], f := F_laws_pSameNotes }
theorem M_laws_pSameNotes : Meets gl0 Tryz.prog 9 S_laws_pSameNotes := meets_of (P := Tryz.prog) (c := c_laws_pSameNotes) (fn := Tryz.f9) (pm := S_laws_pSameNotes.pm) (rm := S_laws_pSameNotes.rm) (by kernel_rfl) lookNil follows_mixed Tryz.func9 (by kernel_rfl) (by kernel_rfl) rfl
/-- (*loop.example/g01054/spec.l1Cur).spoilt -/
@[reducible] noncomputable def c_spec_l1Cur_spoilt : Cx := { K := [.box 3 2 true, .dat 0, .dat 0, .no, .no, .no, .dat 0, .dat 0, .dat 0, .dat 0, .ref 0, .dat 0, .dat 0, .dat 0, .dat 0, .dat 0, .dat 0, .dat 0, .dat 0, .dat 0, .dat 0, .dat 0, .ref 0, .dat 0, .dat 0, .dat 0, .dat 0, .ref 0, .dat 0, .dat 0, .dat 0, .dat 0, .dat 1, .dat 0, .ref 0, .dat 0, .dat 0, .dat 0, .dat 0, .dat 0, .dat 0, .dat 0, .dat 0, .dat 0, .dat 0, .dat 0, .dat 0, .dat 0, .dat 0, .dat 0, .dat 0, .dat 0, .dat 0, .dat 0, .dat 0, .dat 0, .dat 0, .dat 0, .dat 0, .dat 0, .dat 0, .dat 0, .dat 0, .dat 0, .dat 0, .dat 0, .dat 0, .dat 0], T := [(3, ty3), (5, ty5), (9, ty9), (22, ty22)], S := [(39, S_spec_l1Cur_pick)], H := [(0, ([0, 1, 2, 7], [0, 1]))], res := [.tmp 6], ios := [0], G := gl0 }
noncomputable def F_spec_l1Cur_spoilt : List D → Option Out := denF c_spec_l1Cur_spoilt Tryz.f53
@[reducible] noncomputable def S_spec_l1Cur_spoilt : FS := { pm := [.box 3 2 true, .dat 0, .dat 0], rm := [.dat 0], f := F_spec_l1Cur_spoilt }
theorem M_spec_l1Cur_spoilt : Meets gl0 Tryz.prog 53 S_spec_l1Cur_spoilt := meets_of (P := Tryz.prog) (c := c_spec_l1Cur_spoilt) (fn := Tryz.f53) (pm := S_spec_l1Cur_spoilt.pm) (rm := S_spec_l1Cur_spoilt.rm) (by kernel_rfl) (lookCons M_spec_l1Cur_pick lookNil) follows_mixed Tryz.func53 (by kernel_rfl) (by kernel_rfl) rfl
/-- loop.example/g01054/spec.l1Least -/
@[reducible] noncomputable def c_spec_l1Least : Cx := { K := [.dat 0, .dat 0, .no, .no, .dat 0, .dat 0, .dat 0, .dat 0, .dat 0, .dat 0], T := [(3, ty3)], S := [], H := [], res := [.tmp 4], ios := [], G := gl0 }
noncomputable def F_spec_l1Least : List D → Option Out := denF c_spec_l1Least Tryz.f54
@[reducible] noncomputable def S_spec_l1Least : FS := { pm := [.dat 0, .dat 0], rm := [.dat 0], f := F_spec_l1Least }
theorem M_spec_l1Least : Meets gl0 Tryz.prog 54 S_spec_l1Least := meets_of (P := Tryz.prog) (c := c_spec_l1Least) (fn := Tryz.f54) (pm := S_spec_l1Least.pm) (rm := S_spec_l1Least.rm) (by kernel_rfl) lookNil follows_mixed Tryz.func54 (by kernel_rfl) (by kernel_rfl) rfl
/-- (*loop.example/g01054/spec.l1Cur).of -/
@[reducible] noncomputable def c_spec_l1Cur_of : Cx := { K := [.box 3 2 true, .dat 2, .no, .no, .dat 0, .dat 2, .ref 0, .dat 2, .dat 0, .dat 0, .dat 2, .dat 0], T := [(9, ty9), (75, ty75)], S := [(39, S_spec_l1Cur_pick)], H := [], res := [.tmp 4], ios := [0], G := gl0 }
noncomputable def F_spec_l1Cur_of : List D → Option Out := denF c_spec_l1Cur_of Tryz.f55
@[reducible] noncomputable def S_spec_l1Cur_of : FS := { pm := [.box 3 2 true, .dat 2], rm := [.dat 0], f := F_spec_l1Cur_of }
theorem M_spec_l1Cur_of : Meets gl0 Tryz.prog 55 S_spec_l1Cur_of := meets_of (P := Tryz.prog) (c := c_spec_l1Cur_of) (fn := Tryz.f55) (pm := S_spec_l1Cur_of.pm) (rm := S_spec_l1Cur_of.rm) (by kernel_rfl) (lookCons M_spec_l1Cur_pick lookNil) follows_mixed Tryz.func55 (by kernel_rfl) (by kernel_rfl) rfl
/-- (*loop.example/g01054/spec.l1Cur).book -/
@[reducible] noncomputable def c_spec_l1Cur_book : Cx := { K := [.box 3 2 true, .no, .dat 0, .dat 1, .dat 0, .dat 0, .ref 0, .dat 1, .dat 1, .dat 0, .dat 0, .dat 1, .dat 1, .dat 0, .dat 0, .dat 1, .dat 1, .dat 0, .ref 0, .dat 0, .dat 0, .dat 0, .ref 0, .dat 0, .dat 0, .dat 0, .dat 0, .dat 0, .dat 0, .dat 0, .dat 0, .ref 0, .dat 0, .dat 0, .dat 0, .dat 0, .dat 0, .dat 0, .dat 0, .dat 0, .dat 0, .dat 0, .ref 0, .dat 1, .dat 0, .dat 0, .dat 0, .dat 0, .ref 0, .dat 0, .ref 0, .dat 0, .dat 0, .dat 0, .dat 0, .dat 0, .dat 0, .dat 0, .dat 0, .dat 0], T := [(3, ty3), (9, ty9), (24, ty24), (38, ty38), (75, ty75)], S := [(25, S_spec_joGood), (27, S_spec_joText), (37, S_spec_l1Cur_notes), (38, S_spec_l1Cur_one), (39, S_spec_l1Cur_pick), (53, S_spec_l1Cur_spoilt), (54, S_spec_l1Least), (55, S_spec_l1Cur_of)], H := [(0, ([0, 3], [0, 3])), (3, ([0, 4, 5], [0, 4]))], res := [.tmp 2], ios := [0], G := gl0 }
noncomputable def F_spec_l1Cur_book : List D → Option Out := denF c_spec_l1Cur_book Tryz.f34
@[reducible] noncomputable def S_spec_l1Cur_book : FS := { pm := [.box 3 2 true], rm := [.dat 0], f := F_spec_l1Cur_book }
theorem M_spec_l1Cur_book : Meets gl0 Tryz.prog 34 S_spec_l1Cur_book := meets_of (P := Tryz.prog) (c := c_spec_l1Cur_book) (fn := Tryz.f34) (pm := S_spec_l1Cur_book.pm) (rm := S_spec_l1Cur_book.rm) (by kernel_rfl) (lookCons M_spec_joGood (lookCons M_spec_joText (lookCons M_spec_l1Cur_notes (lookCons M_spec_l1Cur_one (lookCons M_spec_l1Cur_pick (lookCons M_spec_l1Cur_spoilt (lookCons M_spec_l1Least (lookCons M_spec_l1Cur_of lookNil)))))))) follows_mixed Tryz.func34 (by kernel_rfl) (by kernel_rfl) rfl
/-- loop.example/g01054/spec.DrawReadJournal -/
@[reducible] noncomputable def c_spec_DrawReadJournal : Cx := { K := [.dat 2, .no, .dat 0, .ref 6, .dat 2, .dat 2, .box 3 2 false, .ref 6, .dat 0], T := [(3, ty3), (22, ty22), (52, ty52), (54, ty54)], S := [(34, S_spec_l1Cur_book)], H := [], res := [.tmp 2], ios := [], G := gl0 }
noncomputable def F_spec_DrawReadJournal : List D → Option Out := denF c_spec_DrawReadJournal Tryz.f32
@[reducible] noncomputable def S_spec_DrawReadJournal : FS := { pm := [.dat 2], rm := [.dat 0], f := F_spec_DrawReadJournal }
theorem M_spec_DrawReadJournal : Meets gl0 Tryz.prog 32 S_spec_DrawReadJournal := meets_of (P := Tryz.prog) (c := c_spec_DrawReadJournal) (fn := Tryz.f32) (pm := S_spec_DrawReadJournal.pm) (rm := S_spec_DrawReadJournal.rm) (by kernel_rfl) (lookCons M_spec_l1Cur_book lookNil) follows_mixed Tryz.func32 (by kernel_rfl) (by kernel_rfl) rfl
/-- loop.example/g01054/spec.DrawRecovered -/
@[reducible] noncomputable def c_spec_DrawRecovered : Cx := { K := [.dat 2, .no, .dat 0, .dat 2, .dat 0], T := [], S := [(32, S_spec_DrawReadJournal)], H := [], res := [.tmp 2], ios := [], G := gl0 }
noncomputable def F_spec_DrawRecovered : List D → Option Out := denF c_spec_DrawRecovered Tryz.f12
@[reducible] noncomputable def S_spec_DrawRecovered : FS := { pm := [.dat 2], rm := [.dat 0], f := F_spec_DrawRecovered }
theorem M_spec_DrawRecovered : Meets gl0 Tryz.prog 12 S_spec_DrawRecovered := meets_of (P := Tryz.prog) (c := c_spec_DrawRecovered) (fn := Tryz.f12) (pm := S_spec_DrawRecovered.pm) (rm := S_spec_DrawRecovered.rm) (by kernel_rfl) (lookCons M_spec_DrawReadJournal lookNil) follows_mixed Tryz.func12 (by kernel_rfl) (by kernel_rfl) rfl
/-- loop.example/g01054/spec.DrawAppendNote -/
@[reducible] noncomputable def c_spec_DrawAppendNote : Cx := { K := [.dat 2, .no, .dat 0, .box 3 0 false, .ref 8, .dat 0, .dat 2, .dat 2, .box 3 2 false, .ref 8, .dat 0, .dat 0, .ref 8, .ref 8, .dat 1, .dat 0, .dat 0], T := [(3, ty3), (22, ty22), (38, ty38), (52, ty52), (54, ty54), (58, ty58)], S := [(34, S_spec_l1Cur_book), (35, S_spec_l1Cur_note), (36, S_spec_l1Cur_among)], H := [], res := [.tmp 2, .cell 3 38], ios := [], G := gl0 }
noncomputable def F_spec_DrawAppendNote : List D → Option Out := denF c_spec_DrawAppendNote Tryz.f17
@[reducible] noncomputable def S_spec_DrawAppendNote : FS := { pm := [.dat 2], rm := [.dat 0, .dat 0], f := F_spec_DrawAppendNote }
theorem M_spec_DrawAppendNote : Meets gl0 Tryz.prog 17 S_spec_DrawAppendNote := meets_of (P := Tryz.prog) (c := c_spec_DrawAppendNote) (fn := Tryz.f17) (pm := S_spec_DrawAppendNote.pm) (rm := S_spec_DrawAppendNote.rm) (by kernel_rfl) (lookCons M_spec_l1Cur_book (lookCons M_spec_l1Cur_note (lookCons M_spec_l1Cur_among lookNil))) follows_mixed Tryz.func17 (by kernel_rfl) (by kernel_rfl) rfl
/-- loop.example/g01054/impl.AppendNote -/
@[reducible] noncomputable def c_impl_AppendNote : Cx := { K := [.dat 0, .dat 0, .no, .box 3 0 false, .dat 0, .dat 0, .own 3 0 false, .dat 0, .tup [.own 3 0 false, .dat 0], .dat 0, .tup [.own 3 0 false, .dat 0], .own 3 0 false, .dat 0, .dat 0, .dat 0, .dat 0, .dat 0, .dat 0, .dat 0, .dat 0, .own 3 0 false, .dat 0, .dat 1, .dat 1, .tup [.dat 0, .dat 0], .dat 0, .dat 0], T := [(3, ty3), (24, ty24), (38, ty38)], S := [(6, S_impl_JournalText), (28, S_impl_readJournal), (29, S_impl_isNote)], H := [], res := [.tmp 4, .tmp 5], ios := [], G := gl2 }
noncomputable def F_impl_AppendNote : List D → Option Out := denF c_impl_AppendNote Tryz.f18
@[reducible] noncomputable def S_impl_AppendNote : FS := { pm := [.dat 0, .dat 0], rm := [.dat 0, .dat 0], f := F_impl_AppendNote }
theorem M_impl_AppendNote : Meets gl2 Tryz.prog 18 S_impl_AppendNote := meets_of (P := Tryz.prog) (c := c_impl_AppendNote) (fn := Tryz.f18) (pm := S_impl_AppendNote.pm) (rm := S_impl_AppendNote.rm) (by kernel_rfl) (lookCons (meets_mono gl12 M_impl_JournalText) (lookCons M_impl_readJournal (lookCons (meets_mono gl02 M_impl_isNote) lookNil))) follows_mixed Tryz.func18 (by kernel_rfl) (by kernel_rfl) rfl
/-- loop.example/g01054/spec.AppendNote -/
@[reducible] noncomputable def c_spec_AppendNote : Cx := { K := [.dat 0, .dat 0, .no, .box 3 0 false, .dat 0, .dat 0, .dat 1, .dat 0, .dat 1, .tup [.own 3 0 false, .dat 0], .dat 0, .tup [.own 3 0 false, .dat 0], .dat 1, .dat 0, .own 3 0 false, .dat 1, .own 3 0 false, .dat 0, .dat 1, .dat 1, .dat 0, .dat 0, .dat 0, .dat 1, .dat 0, .dat 0, .dat 0, .dat 1, .dat 0, .tup [.dat 0, .dat 0], .dat 0, .dat 0], T := [(3, ty3), (24, ty24), (38, ty38)], S := [(16, S_spec_ReadJournal), (25, S_spec_joGood), (26, S_spec_joIf), (27, S_spec_joText)], H := [], res := [.tmp 4, .tmp 5], ios := [], G := gl0 }
noncomputable def F_spec_AppendNote : List D → Option Out := denF c_spec_AppendNote Tryz.f19
@[reducible] noncomputable def S_spec_AppendNote : FS := { pm := [.dat 0, .dat 0], rm := [.dat 0, .dat 0], f := F_spec_AppendNote }
theorem M_spec_AppendNote : Meets gl0 Tryz.prog 19 S_spec_AppendNote := meets_of (P := Tryz.prog) (c := c_spec_AppendNote) (fn := Tryz.f19) (pm := S_spec_AppendNote.pm) (rm := S_spec_AppendNote.rm) (by kernel_rfl) (lookCons M_spec_ReadJournal (lookCons M_spec_joGood (lookCons M_spec_joIf (lookCons M_spec_joText lookNil)))) follows_mixed Tryz.func19 (by kernel_rfl) (by kernel_rfl) rfl
/-- loop.example/g01054/spec.DrawSameStart -/
@[reducible] noncomputable def c_spec_DrawSameStart : Cx := { K := [.dat 2, .no, .dat 0, .dat 0, .ref 9, .dat 1, .own 3 0 false, .dat 2, .dat 2, .box 3 2 false, .ref 9, .dat 1, .dat 1, .dat 0, .dat 0, .dat 1, .dat 0, .dat 0, .dat 0, .dat 0, .ref 9, .dat 0, .dat 0, .dat 0, .own 3 0 false, .dat 1, .ref 9, .dat 1, .dat 0, .dat 0, .dat 1, .own 3 0 false, .ref 9, .dat 0, .own 3 0 false, .dat 0, .dat 1, .own 3 0 false, .dat 1, .dat 0, .via 6, .dat 0, .ref 9, .dat 0, .ref 9, .dat 0], T := [(3, ty3), (22, ty22), (24, ty24), (38, ty38), (52, ty52), (54, ty54)], S := [(25, S_spec_joGood), (27, S_spec_joText), (34, S_spec_l1Cur_book), (37, S_spec_l1Cur_notes), (38, S_spec_l1Cur_one), (39, S_spec_l1Cur_pick)], H := [], res := [.tmp 2, .tmp 3], ios := [], G := gl0 }
noncomputable def F_spec_DrawSameStart : List D → Option Out := denF c_spec_DrawSameStart Tryz.f21
@[reducible] noncomputable def S_spec_DrawSameStart : FS := { pm := [.dat 2], rm := [.dat 0, .dat 0], f := F_spec_DrawSameStart }
theorem M_spec_DrawSameStart : Meets gl0 Tryz.prog 21 S_spec_DrawSameStart := meets_of (P := Tryz.prog) (c := c_spec_DrawSameStart) (fn := Tryz.f21) (pm := S_spec_DrawSameStart.pm) (rm := S_spec_DrawSameStart.rm) (by kernel_rfl) (lookCons M_spec_joGood (lookCons M_spec_joText (lookCons M_spec_l1Cur_book (lookCons M_spec_l1Cur_notes (lookCons M_spec_l1Cur_one (lookCons M_spec_l1Cur_pick lookNil)))))) follows_mixed Tryz.func21 (by kernel_rfl) (by kernel_rfl) rfl
/-- loop.example/g01054/laws.FnJournals -/
@[reducible] noncomputable def c_laws_FnJournals : Cx := { K := [.dat 2, .dat 2, .no, .no, .dat 0, .dat 1, .dat 0, .dat 0, .dat 0, .dat 0, .dat 1, .dat 0, .dat 1, .dat 0, .dat 0, .dat 0, .dat 1, .dat 0, .dat 0, .dat 1, .dat 0, .dat 0, .dat 0, .dat 0, .dat 0, .dat 0, .dat 1, .dat 0, .dat 1, .dat 0, .dat 0, .dat 0, .dat 0, .box 3 0 false, .dat 0, .dat 0, .dat 0, .dat 0, .dat 0, .dat 0, .dat 1, .dat 0, .dat 1, .dat 0, .dat 0, .dat 0, .dat 0, .dat 0, .dat 0, .dat 0, .dat 2, .dat 2, .dat 0, .dat 2, .dat 1, .tup [.dat 0, .dat 0], .dat 1, .tup [.dat 0, .dat 0], .dat 0, .dat 0, .tup [.dat 0, .dat 0], .dat 1, .tup [.dat 0, .dat 0], .dat 0, .dat 0, .dat 0, .dat 0, .dat 0, .dat 0, .dat 0, .dat 0, .dat 0, .dat 0, .dat 0, .tup [.own 3 0 false, .dat 0], .dat 0, .tup [.own 3 0 false, .dat 0], .dat 1, .dat 0, .dat 0, .dat 0, .dat 0, .dat 1, .dat 1, .dat 0, .dat 0, .dat 0, .dat 0, .dat 1, .dat 0, .dat 0, .dat 0, .dat 0, .dat 0, .dat 0, .tup [.own 3 0 false, .dat 0, .dat 0], .dat 0, .dat 0, .dat 0, .dat 0, .dat 0, .tup [.own 3 0 false, .dat 0, .dat 0], .dat 1, .dat 0, .dat 0, .dat 0, .dat 0, .dat 0, .dat 1, .dat 0, .dat 1, .dat 0, .dat 0, .dat 0, .dat 0, .dat 0, .dat 1, .dat 1, .dat 1, .dat 0, .dat 0, .dat 1, .dat 0, .dat 0, .dat 0, .dat 0, .dat 0, .dat 0, .dat 0, .dat 0, .dat 0, .dat 2, .dat 0, .tup [.own 3 0 false, .dat 0, .dat 0], .dat 0, .tup [.own 3 0 false, .dat 0, .dat 0], .dat 1, .dat 0, .dat 0, .tup [.own 3 0 false, .dat 0, .dat 0], .dat 0, .tup [.own 3 0 false, .dat 0, .dat 0], .dat 1, .dat 0, .dat 0, .tup [.dat 0, .dat 0], .dat 0, .tup [.dat 0, .dat 0], .dat 0, .dat 0, .tup [.dat 0, .dat 0], .dat 0, .tup [.dat 0, .dat 0], .dat 0, .dat 0, .tup [.own 3 0 false, .dat 0], .dat 0, .tup [.own 3 0 false, .dat 0], .dat 1, .dat 0, .tup [.own 3 0 false, .dat 0], .dat 0, .tup [.own 3 0 false, .dat 0], .dat 1, .dat 0, .dat 0, .dat 0, .dat 0, .dat 0, .dat 1, .dat 1, .dat 0, .dat 0, .dat 0, .dat 0, .dat 0, .dat 0, .dat 0, .dat 0, .dat 0, .dat 0, .dat 0, .dat 0, .dat 0, .dat 0, .dat 0, .dat 0, .dat 0, .dat 0, .dat 0, .dat 0, .dat 0, .dat 0, .dat 0, .dat 0, .dat 1, .dat 1, .dat 0, .dat 0, .dat 0, .dat 0, .dat 0, .dat 0, .dat 0, .dat 0, .dat 0, .dat 0, .dat 1, .dat 0, .dat 0, .dat 0, .dat 0, .dat 0, .dat 0, .dat 0, .dat 0, .dat 0, .dat 0, .dat 0, .dat 0, .dat 0, .dat 0, .tup [.dat 0, .dat 0], .dat 1, .tup [.dat 0, .dat 0], .dat 0, .dat 0, .dat 0, .dat 0, .dat 0, .dat 0, .dat 0, .dat 0, .dat 0, .dat 0, .dat 0, .tup [.dat 0, .dat 0], .dat 2, .tup [.dat 0, .dat 0], .dat 0, .dat 0, .tup [.dat 0, .dat 0], .dat 0, .dat 0, .tup [.dat 0, .dat 0], .dat 0, .dat 0, .tup [.dat 0, .dat 0], .dat 0, .dat 0, .tup [.dat 0, .dat 0], .dat 0, .dat 0, .dat 0, .dat 0, .dat 0, .dat 0, .dat 0, .dat 0, .dat 0, .dat 0, .dat 0, .tup [.dat 0, .dat 0], .dat 0, .dat 0, .tup [.dat 0, .dat 0], .dat 0, .dat 0, .tup [.own 3 0 false, .dat 0], .dat 0, .tup [.own 3 0 false, .dat 0], .dat 1, .dat 0, .tup [.own 3 0 false, .dat 0], .dat 0, .tup [.own 3 0 false, .dat 0], .dat 1, .dat 0, .dat 0, .dat 0, .dat 0, .dat 0, .dat 0, .dat 0, .dat 0, .dat 0, .dat 0, .dat 0, .dat 0, .dat 1, .dat 1, .dat 0, .dat 0, .dat 0, .dat 0, .dat 0, .dat 1, .dat 0, .dat 0, .dat 0, .dat 0, .dat 0, .dat 0, .dat 0, .dat 0, .dat 0, .dat 0, .dat 0, .tup [.dat 0, .dat 0], .dat 2, .tup [.dat 0, .dat 0], .dat 0, .dat 0, .tup [.dat 0, .dat 0], .dat 0, .dat 0, .tup [.dat 0, .dat 0], .dat 0, .dat 0, .tup [.dat 0, .dat 0], .dat 0, .dat 0, .tup [.dat 0, .dat 0], .dat 0, .dat 0, .dat 0, .dat 0, .dat 0, .dat 0, .dat 0, .dat 0, .dat 0, .dat 0], T := [(3, ty3), (4, ty4), (9, ty9), (24, ty24), (38, ty38)], S := [(4, S_laws_big), (5, S_spec_DrawJournalText), (6, S_impl_JournalText), (7, S_spec_JournalText), (8, S_impl_ReadJournal), (9, S_laws_pSameNotes), (10, S_impl_AreNotes), (11, S_impl_Recovered), (12, S_spec_DrawRecovered), (13, S_spec_Recovered), (14, S_impl_FirstBadLine), (15, S_spec_FirstBadLine), (16, S_spec_ReadJournal), (17, S_spec_DrawAppendNote), (18, S_impl_AppendNote), (19, S_spec_AppendNote), (20, S_impl_SameStart), (21, S_spec_DrawSameStart), (22, S_spec_SameStart)], H := [], res := [.tmp 4], ios := [], G := gl2 }
@[reducible] def J_laws_FnJournals : List (Nat × List Nat) := [(127, [1]), (65535, [1]), (2097151, [1])]
noncomputable def F_laws_FnJournals : List D → Option Out := denFJ c_laws_FnJournals J_laws_FnJournals Tryz.f3
@[reducible] noncomputable def S_laws_FnJournals : FS := { pm := [.dat 2, .dat 2], rm := [.dat 0], f := F_laws_FnJournals }
theorem M_laws_FnJournals : Meets gl2 Tryz.prog 3 S_laws_FnJournals := meets_ofJ (J := J_laws_FnJournals) (P := Tryz.prog) (c := c_laws_FnJournals) (fn := Tryz.f3) (pm := S_laws_FnJournals.pm) (rm := S_laws_FnJournals.rm) (by kernel_rfl) (lookCons (meets_mono gl02 M_laws_big) (lookCons (meets_mono gl02 M_spec_DrawJournalText) (lookCons (meets_mono gl12 M_impl_JournalText) (lookCons (meets_mono gl02 M_spec_JournalText) (lookCons M_impl_ReadJournal (lookCons (meets_mono gl02 M_laws_pSameNotes) (lookCons (meets_mono gl02 M_impl_AreNotes) (lookCons M_impl_Recovered (lookCons (meets_mono gl02 M_spec_DrawRecovered) (lookCons (meets_mono gl02 M_spec_Recovered) (lookCons M_impl_FirstBadLine (lookCons (meets_mono gl02 M_spec_FirstBadLine) (lookCons (meets_mono gl02 M_spec_ReadJournal) (lookCons (meets_mono gl02 M_spec_DrawAppendNote) (lookCons M_impl_AppendNote (lookCons (meets_mono gl02 M_spec_AppendNote) (lookCons M_impl_SameStart (lookCons (meets_mono gl02 M_spec_DrawSameStart) (lookCons (meets_mono gl02 M_spec_SameStart) lookNil))))))))))))))))))) follows_mixed (by kernel_rfl) Tryz.func3 (by kernel_rfl) (by kernel_rfl) rfl
end Go.Proofs.YtfjkapnonljdeaaGreatDoor
/-
  What the functions compute: their evaluated texts, printed.
-/
namespace Go.Proofs.YtfjkapnonljdeaaGreatDoor
open Go Go.V
theorem t_laws_big (x0 x1 : D) : F_laws_big [x0, x1] =
  ((lenD false x0).bind fun z => (bin BinOp.gtr false [] z (D.v (Value.int IntKind.i64 1048576))).bind fun z => (gate (D.tup []) z false (some x1)).bind fun z_1 => (gate (D.tup []) z false (lenD false z_1)).bind fun z_2 =>
 (gate (D.tup []) z false (some x0)).bind fun z_3 => (gate (D.tup []) z false (lenD false z_3)).bind fun z_4 => (gate (D.tup []) z false (bin BinOp.sub false [] (D.v (Value.int IntKind.i64 1048576)) z_4)).bind fun z_5 =>
 (gate (D.tup []) z false (bin BinOp.gtr false [] z_2 z_5)).bind fun z_6 => (pickD z (D.v (Value.bool true)) z_6).bind fun z => some (Out.ret [z] [])) := by kernel_rfl
theorem t_spec_l1Cur_next (x0 : D) : F_spec_l1Cur_next [x0] =
  ((liveD x0 (D.ref 0 0)).bind fun z => (liveD z z).bind fun z => (refAdd 1 z).bind fun z => (((atD x0 z).bind (takeD false 1)).bind chkV).bind fun z => (liveD x0 (D.ref 0 0)).bind fun z_1 => (liveD z_1 z_1).bind fun z_2 =>
 (refAdd 0 z_2).bind fun z_3 => ((atD x0 z_3).bind (takeD false 1)).bind fun z_4 => (lenD false z_4).bind fun z_5 => (bin BinOp.lss false [] z z_5).bind fun z => ifD z ((liveD x0 (D.ref 0 0)).bind fun z =>
 (liveD z z).bind fun z => (refAdd 0 z).bind fun z => ((atD x0 z).bind (takeD false 1)).bind fun z => (liveD x0 (D.ref 0 0)).bind fun z_6 => (liveD z_6 z_6).bind fun z_7 => (refAdd 1 z_7).bind fun z_8 =>
 (((atD x0 z_8).bind (takeD false 1)).bind chkV).bind fun z_9 => (Option.map D.ptr (elemD 1 z z_9)).bind fun z => ((ldD false 1 z).bind chkV).bind fun z => (convD (some IntKind.i64) false z).bind fun z =>
 (liveD x0 (D.ref 0 0)).bind fun z_10 => (liveD z_10 z_10).bind fun z_11 => (refAdd 1 z_11).bind fun z_12 => (((atD x0 z_12).bind (takeD false 1)).bind chkV).bind fun z_13 =>
 (bin BinOp.add false [] z_13 (D.v (Value.int IntKind.i64 1))).bind fun z_14 => (liveD z_10 z_10).bind fun z_15 => (refAdd 1 z_15).bind fun z_16 => (stD 1 x0 z_16 z_14).bind fun b => (liveD b (D.ref 0 0)).bind fun z_17 =>
 (liveD b (D.ref 0 0)).bind fun z_18 => (liveD z_18 z_18).bind fun z_19 => (refAdd 2 z_19).bind fun z_20 => (((atD b z_20).bind (takeD false 1)).bind chkV).bind fun z_21 => (bin BinOp.mul false [] z_21 (D.v
 (Value.int IntKind.u64 6364136223846793005))).bind fun z_22 => (convD (some IntKind.u64) false z).bind fun z_23 => (bin BinOp.add false [] z_22 z_23).bind fun z_24 => (bin BinOp.add false [] z_24 (D.v
 (Value.int IntKind.u64 1442695040888963407))).bind fun z_25 => (liveD z_17 z_17).bind fun z_26 => (refAdd 2 z_26).bind fun z_27 => (stD 1 b z_27 z_25).bind fun b => (liveD b (D.ref 0 0)).bind fun z_28 =>
 (liveD z_28 z_28).bind fun z_29 => (refAdd 1 z_29).bind fun z_30 => (((atD b z_30).bind (takeD false 1)).bind chkV).bind fun z_31 => (liveD b (D.ref 0 0)).bind fun z_32 => (liveD z_32 z_32).bind fun z_33 =>
 (refAdd 0 z_33).bind fun z_34 => ((atD b z_34).bind (takeD false 1)).bind fun z_35 => (lenD false z_35).bind fun z_36 => (bin BinOp.leq false [] z_31 z_36).bind fun z_37 => ifD z_37 ((liveD b b).bind fun _u => some
 (Out.ret [z] [b])) ((liveD b (D.ref 0 0)).bind fun z => (liveD z z).bind fun z => (refAdd 2 z).bind fun z => (((atD b z).bind (takeD false 1)).bind chkV).bind fun z => (bin BinOp.shr false [] z (D.v (Value.int IntKind.u64
 40))).bind fun z => (bin BinOp.and false [] z (D.v (Value.int IntKind.u64 255))).bind fun z => (convD (some IntKind.i64) false z).bind fun z => (liveD b b).bind fun _u => some (Out.ret [z] [b])))
 ((liveD x0 (D.ref 0 0)).bind fun z => (liveD z z).bind fun z_6 => (refAdd 1 z_6).bind fun z_7 => (((atD x0 z_7).bind (takeD false 1)).bind chkV).bind fun z_8 =>
 (bin BinOp.add false [] z_8 (D.v (Value.int IntKind.i64 1))).bind fun z_9 => (liveD z z).bind fun z => (refAdd 1 z).bind fun z => (stD 1 x0 z z_9).bind fun b => (liveD b (D.ref 0 0)).bind fun z =>
 (liveD b (D.ref 0 0)).bind fun z_10 => (liveD z_10 z_10).bind fun z_11 => (refAdd 2 z_11).bind fun z_12 => (((atD b z_12).bind (takeD false 1)).bind chkV).bind fun z_13 => (bin BinOp.mul false [] z_13
 (D.v (Value.int IntKind.u64 6364136223846793005))).bind fun z_14 => (convD (some IntKind.u64) false (D.v (Value.int IntKind.i64 0))).bind fun z_15 => (bin BinOp.add false [] z_14 z_15).bind fun z_16 =>
 (bin BinOp.add false [] z_16 (D.v (Value.int IntKind.u64 1442695040888963407))).bind fun z_17 => (liveD z z).bind fun z => (refAdd 2 z).bind fun z => (stD 1 b z z_17).bind fun b => (liveD b (D.ref 0 0)).bind fun z =>
 (liveD z z).bind fun z => (refAdd 1 z).bind fun z => (((atD b z).bind (takeD false 1)).bind chkV).bind fun z => (liveD b (D.ref 0 0)).bind fun z_18 => (liveD z_18 z_18).bind fun z_19 => (refAdd 0 z_19).bind fun z_20 =>
 ((atD b z_20).bind (takeD false 1)).bind fun z_21 => (lenD false z_21).bind fun z_22 => (bin BinOp.leq false [] z z_22).bind fun z => ifD z ((liveD b b).bind fun _u => some (Out.ret [D.v (Value.int IntKind.i64 0)] [b]))
 ((liveD b (D.ref 0 0)).bind fun z => (liveD z z).bind fun z => (refAdd 2 z).bind fun z => (((atD b z).bind (takeD false 1)).bind chkV).bind fun z => (bin BinOp.shr false [] z (D.v (Value.int IntKind.u64 40))).bind
 fun z => (bin BinOp.and false [] z (D.v (Value.int IntKind.u64 255))).bind fun z => (convD (some IntKind.i64) false z).bind fun z => (liveD b b).bind fun _u => some (Out.ret [z] [b])))) := by kernel_rfl
theorem t_spec_l1Cur_pick (x0 x1 : D) : F_spec_l1Cur_pick [x0, x1] =
  ((bin BinOp.leq false [] x1 (D.v (Value.int IntKind.i64 1))).bind fun z => ifD z ((liveD x0 x0).bind fun _u => some (Out.ret [D.v (Value.int IntKind.i64 0)] [x0])) ((liveD x0 (D.ref 0 0)).bind fun z =>
 (ref0 z x0).bind fun i => (liveD i i).bind fun i => callK (F_spec_l1Cur_next [i]) fun rs us => (bin BinOp.gtr false [] x1 (D.v (Value.int IntKind.i64 200))).bind fun z => ifD z
 ((bin BinOp.mul false [] (sl rs 0) (D.v (Value.int IntKind.i64 256))).bind fun z => (liveD (sl us 0) (D.ref 0 0)).bind fun z_1 => (ref0 z_1 (sl us 0)).bind fun i => (liveD i i).bind fun i =>
 callK (F_spec_l1Cur_next [i]) fun rs us => (bin BinOp.add false [] z (sl rs 0)).bind fun z => (bin BinOp.rem false [] z x1).bind fun z => (liveD (sl us 0) (sl us 0)).bind fun _u => some (Out.ret [z] [sl us 0]))
 ((bin BinOp.rem false [] (sl rs 0) x1).bind fun z => (liveD (sl us 0) (sl us 0)).bind fun _u => some (Out.ret [z] [sl us 0])))) := by kernel_rfl
theorem t_spec_l1Cur_one (x0 x1 : D) : F_spec_l1Cur_one [x0, x1] =
  ((liveD x0 (D.ref 0 0)).bind fun z => (ref0 z x0).bind fun i => (liveD i i).bind fun i => callK (F_spec_l1Cur_pick [i, x1]) fun rs us => (bin BinOp.eql false [] (sl rs 0) (D.v (Value.int IntKind.i64 0))).bind fun z =>
 (liveD (sl us 0) (sl us 0)).bind fun _u => some (Out.ret [z] [sl us 0])) := by kernel_rfl
theorem t_spec_l1Cur_among (x0 x1 : D) : F_spec_l1Cur_among [x0, x1] =
  ((liveD x0 (D.ref 0 0)).bind fun z => (lenD false x1).bind fun z_1 => (ref0 z x0).bind fun i => (liveD i i).bind fun i => callK (F_spec_l1Cur_pick [i, z_1]) fun rs us =>
 (Option.map D.ptr (elemD 1 x1 (sl rs 0))).bind fun z => ((ldD false 1 z).bind chkV).bind fun z => (liveD (sl us 0) (sl us 0)).bind fun _u => some (Out.ret [z] [sl us 0])) := by kernel_rfl
theorem t_spec_l1Cur_note (x0 x1 : D) : F_spec_l1Cur_note [x0, x1] =
  ((liveD x0 (D.ref 0 0)).bind fun z => (ref0 z x0).bind fun i => (liveD i i).bind fun i => callK (F_spec_l1Cur_pick [i, D.v (Value.int IntKind.i64 4)]) fun rs us => (liveD (sl us 0) (D.ref 0 0)).bind fun z =>
 (ref0 z (sl us 0)).bind fun i => (liveD i i).bind fun i => callK (F_spec_l1Cur_pick [i, D.v (Value.int IntKind.i64 500)]) fun rs_1 us => (bin BinOp.add false [] (D.v (Value.int IntKind.i64 1)) (sl rs_1 0)).bind fun z =>
 (bldD [(0, 1), (1, 1), (2, 1)] [D.v (Value.int IntKind.i64 0), D.v (Value.int IntKind.i64 0), D.v (Value.int IntKind.i64 0)] [x1, sl rs 0, z]).bind fun z => (stD 3 (D.agg
 [D.v (Value.int IntKind.i64 0), D.v (Value.int IntKind.i64 0), D.v (Value.int IntKind.i64 0)]) (D.ref 0 0) z).bind fun b => (liveD (sl us 0) (D.ref 0 0)).bind fun z => (ref0 z (sl us 0)).bind fun i =>
 (liveD i i).bind fun i => callK (F_spec_l1Cur_pick [i, D.v (Value.int IntKind.i64 60)]) fun rs us => (bin BinOp.eql false [] (sl rs 0) (D.v (Value.int IntKind.i64 0))).bind fun z => ifD z
 ((liveD (sl us 0) (D.ref 0 0)).bind fun z => (mkArr 1 [D.v (Value.int IntKind.i64 (-1)), D.v (Value.int IntKind.i64 9999), D.v (Value.int IntKind.i64 10000)]).bind fun a => (ref0 z (sl us 0)).bind fun i =>
 (liveD i i).bind fun i => callK (F_spec_l1Cur_among [i, a]) fun rs us => (liveD b (D.ref 0 0)).bind fun z => (stD 1 b z (sl rs 0)).bind fun b => (fldD true 3 0 b).bind fun z => (stD 3 (D.agg
 [D.v (Value.int IntKind.i64 0), D.v (Value.int IntKind.i64 0), D.v (Value.int IntKind.i64 0)]) (D.ref 0 0) z).bind fun b => (fldD true 3 0 b).bind fun y => (liveD (sl us 0) (sl us 0)).bind fun _u =>
 some (Out.ret [y] [sl us 0])) ((bin BinOp.eql false [] (sl rs 0) (D.v (Value.int IntKind.i64 1))).bind fun z => ifD z ((liveD (sl us 0) (D.ref 0 0)).bind fun z => (mkArr 1
 [D.v (Value.int IntKind.i64 (-1)), D.v (Value.int IntKind.i64 4)]).bind fun a => (ref0 z (sl us 0)).bind fun i => (liveD i i).bind fun i => callK (F_spec_l1Cur_among [i, a]) fun rs us =>
 (liveD b (D.ref 0 1)).bind fun z => (stD 1 b z (sl rs 0)).bind fun b => (fldD true 3 0 b).bind fun z => (stD 3 (D.agg [D.v (Value.int IntKind.i64 0), D.v (Value.int IntKind.i64 0), D.v (Value.int IntKind.i64 0)])
 (D.ref 0 0) z).bind fun b => (fldD true 3 0 b).bind fun y => (liveD (sl us 0) (sl us 0)).bind fun _u => some (Out.ret [y] [sl us 0])) ((bin BinOp.eql false [] (sl rs 0) (D.v (Value.int IntKind.i64 2))).bind fun z => ifD z
 ((liveD (sl us 0) (D.ref 0 0)).bind fun z => (mkArr 1 [D.v (Value.int IntKind.i64 0), D.v (Value.int IntKind.i64 99999), D.v (Value.int IntKind.i64 100000), D.v (Value.int IntKind.i64 (-9223372036854775808))]).bind
 fun a => (ref0 z (sl us 0)).bind fun i => (liveD i i).bind fun i => callK (F_spec_l1Cur_among [i, a]) fun rs us => (liveD b (D.ref 0 2)).bind fun z => (stD 1 b z (sl rs 0)).bind fun b => (fldD true 3 0 b).bind fun z =>
 (stD 3 (D.agg [D.v (Value.int IntKind.i64 0), D.v (Value.int IntKind.i64 0), D.v (Value.int IntKind.i64 0)]) (D.ref 0 0) z).bind fun b => (fldD true 3 0 b).bind fun y => (liveD (sl us 0) (sl us 0)).bind fun _u =>
 some (Out.ret [y] [sl us 0])) ((fldD true 3 0 b).bind fun z => (stD 3 (D.agg [D.v (Value.int IntKind.i64 0), D.v (Value.int IntKind.i64 0), D.v (Value.int IntKind.i64 0)]) (D.ref 0 0) z).bind fun b =>
 (fldD true 3 0 b).bind fun y => (liveD (sl us 0) (sl us 0)).bind fun _u => some (Out.ret [y] [sl us 0]))))) := by kernel_rfl
theorem t_spec_l1Cur_notes (x0 : D) : F_spec_l1Cur_notes [x0] =
  ((liveD x0 (D.ref 0 0)).bind fun z => (ref0 z x0).bind fun i => (liveD i i).bind fun i => callK (F_spec_l1Cur_pick [i, D.v (Value.int IntKind.i64 5)]) fun rs us => (liveD (sl us 0) (D.ref 0 0)).bind fun z =>
 (ref0 z (sl us 0)).bind fun i => (liveD i i).bind fun i => callK (F_spec_l1Cur_pick [i, D.v (Value.int IntKind.i64 6)]) fun rs_1 us => (liveD (sl us 0) (D.ref 0 0)).bind fun z => (ref0 z (sl us 0)).bind fun i =>
 (liveD i i).bind fun i => callK (F_spec_l1Cur_one [i, D.v (Value.int IntKind.i64 12)]) fun rs_2 us => ifD (sl rs_2 0) ((liveD (sl us 0) (D.ref 0 0)).bind fun z => (ref0 z (sl us 0)).bind fun i => (liveD i i).bind fun i =>
 callK (F_spec_l1Cur_pick [i, D.v (Value.int IntKind.i64 2)]) fun rs_3 us => (bin BinOp.add false [] (D.v (Value.int IntKind.i64 24)) (sl rs_3 0)).bind fun z => (loopC (fun s => (liveD (sl s 1) (D.ref 0 0)).bind fun z =>
 ((liveD z (sl s 1)).bind (lenD false)).bind fun z => (bin BinOp.lss false [] z (sl s 3)).bind fun z => ifD z ((liveD (sl s 0) (D.ref 0 0)).bind fun z => (ref0 z (sl s 0)).bind fun i => (liveD i i).bind fun i =>
 callK (F_spec_l1Cur_note [i, sl s 2]) fun rs us => (mkArr 3 [sl rs 0]).bind fun a => (chkA a).bind fun b => (appD 3 24 (sl s 1) b).bind fun y => (liveD (sl us 0) (D.ref 0 0)).bind fun z => (ref0 z (sl us 0)).bind fun i =>
 (liveD i i).bind fun i => callK (F_spec_l1Cur_pick [i, D.v (Value.int IntKind.i64 3)]) fun rs us => (bin BinOp.add false [] (sl s 2) (sl rs 0)).bind fun z => some (Out.nrm [sl us 0, y, z, sl s 3]))
 (some (Out.ext 0 [sl s 0, sl s 1, sl s 3]))) [sl us 0, D.arr 3 [], sl rs 0, z]).bind fun o => outK o (fun i s => ifN (i.beq 0) ((bin BinOp.gtr false [] (sl s 2) (D.v (Value.int IntKind.i64 1))).bind fun z =>
 (gate D.bad z true (liveD (sl s 0) (D.ref 0 0))).bind fun z_1 => gateC z true ((ref0 z_1 (sl s 0)).bind fun i => (liveD i i).bind fun i => callK (F_spec_l1Cur_one [i, D.v (Value.int IntKind.i64 16)])
 fun rs us => some (Out.nrm [sl rs 0, sl us 0])) [D.tup [], sl s 0] fun outs => (pickD z (sl outs 0) (D.v (Value.bool false))).bind fun z => ifD z ((liveD (sl s 1) (D.ref 0 0)).bind fun z =>
 (bin BinOp.sub false [] (sl s 2) (D.v (Value.int IntKind.i64 1))).bind fun z_2 => ((liveD z (sl s 1)).bind fun b => refI 3 b z_2).bind fun z => (refAdd 0 z).bind fun z =>
 (stD 1 (sl s 1) z (D.v (Value.int IntKind.i64 0))).bind fun b => (liveD (sl outs 1) (sl outs 1)).bind fun _u => some (Out.ret [b] [sl outs 1])) ((liveD (sl outs 1) (sl outs 1)).bind fun _u =>
 some (Out.ret [sl s 1] [sl outs 1]))) none) fun a b => some (Out.ret a b)) ((loopC (fun s => (liveD (sl s 1) (D.ref 0 0)).bind fun z => ((liveD z (sl s 1)).bind (lenD false)).bind fun z =>
 (bin BinOp.lss false [] z (sl s 3)).bind fun z => ifD z ((liveD (sl s 0) (D.ref 0 0)).bind fun z => (ref0 z (sl s 0)).bind fun i => (liveD i i).bind fun i => callK (F_spec_l1Cur_note [i, sl s 2]) fun rs us =>
 (mkArr 3 [sl rs 0]).bind fun a => (chkA a).bind fun b => (appD 3 24 (sl s 1) b).bind fun y => (liveD (sl us 0) (D.ref 0 0)).bind fun z => (ref0 z (sl us 0)).bind fun i => (liveD i i).bind fun i => callK
 (F_spec_l1Cur_pick [i, D.v (Value.int IntKind.i64 3)]) fun rs us => (bin BinOp.add false [] (sl s 2) (sl rs 0)).bind fun z => some (Out.nrm [sl us 0, y, z, sl s 3])) (some (Out.ext 0 [sl s 0, sl s 1, sl s 3])))
 [sl us 0, D.arr 3 [], sl rs 0, sl rs_1 0]).bind fun o => outK o (fun i s => ifN (i.beq 0) ((bin BinOp.gtr false [] (sl s 2) (D.v (Value.int IntKind.i64 1))).bind fun z =>
 (gate D.bad z true (liveD (sl s 0) (D.ref 0 0))).bind fun z_1 => gateC z true ((ref0 z_1 (sl s 0)).bind fun i => (liveD i i).bind fun i => callK (F_spec_l1Cur_one [i, D.v (Value.int IntKind.i64 16)]) fun rs us =>
 some (Out.nrm [sl rs 0, sl us 0])) [D.tup [], sl s 0] fun outs => (pickD z (sl outs 0) (D.v (Value.bool false))).bind fun z => ifD z ((liveD (sl s 1) (D.ref 0 0)).bind fun z =>
 (bin BinOp.sub false [] (sl s 2) (D.v (Value.int IntKind.i64 1))).bind fun z_2 => ((liveD z (sl s 1)).bind fun b => refI 3 b z_2).bind fun z => (refAdd 0 z).bind fun z =>
 (stD 1 (sl s 1) z (D.v (Value.int IntKind.i64 0))).bind fun b => (liveD (sl outs 1) (sl outs 1)).bind fun _u => some (Out.ret [b] [sl outs 1])) ((liveD (sl outs 1) (sl outs 1)).bind fun _u =>
 some (Out.ret [sl s 1] [sl outs 1]))) none) fun a b => some (Out.ret a b))) := by kernel_rfl
theorem t_spec_DrawAreNotes (x0 : D) : F_spec_DrawAreNotes [x0] =
  ((bldD [(0, 1)] [D.arr 1 [], D.v (Value.int IntKind.i64 0), D.v (Value.int IntKind.u64 0)] [x0]).bind fun z => (boxD 3 z).bind fun y => (liveD y (D.ref 0 0)).bind fun z => (liveD z z).bind fun z => (ref0 z y).bind fun i =>
 (liveD i i).bind fun i => callK (F_spec_l1Cur_notes [i]) fun rs _u => some (Out.ret [sl rs 0] [])) := by kernel_rfl
theorem t_spec_DrawJournalText (x0 : D) : F_spec_DrawJournalText [x0] =
  (callK (F_spec_DrawAreNotes [x0]) fun rs _u => some (Out.ret [sl rs 0] [])) := by kernel_rfl
theorem t_impl_JournalText (x0 : D) : F_impl_JournalText [x0] =
  (callK (F_impl_AreNotes [x0]) fun rs _u => (un UnOp.not (sl rs 0)).bind fun z => (gate (D.tup []) z false (some x0)).bind fun z_1 =>
 gateC z false (callK (fJournal [z_1]) fun rs _u => some (Out.nrm [sl rs 0])) [D.tup []] fun outs => (gate (D.tup []) z false (lenD true (sl outs 0))).bind fun z_2 =>
 (gate (D.tup []) z false (bin BinOp.gtr false [] z_2 (D.v (Value.int IntKind.i64 300)))).bind fun z_3 => (pickD z (D.v (Value.bool true)) z_3).bind fun z =>
 ifD z (some (Out.ret [D.v (Value.string { data := { toList := [] } }), D.v (Value.bool false)] [])) (callK (fJournal [x0]) fun rs _u => some (Out.ret [sl rs 0, D.v (Value.bool true)] []))) := by kernel_rfl
theorem t_spec_joText (x0 : D) : F_spec_joText [x0] =
  ((lenD false x0).bind fun z => (loopC (fun s => (bin BinOp.lss false [] (sl s 4) (sl s 3)).bind fun z => ifD z ((Option.map D.ptr (elemD 3 (sl s 2) (sl s 4))).bind fun z => ((ldD true 3 z).bind chkV).bind fun z => (stD 3
 (D.agg [D.v (Value.int IntKind.i64 0), D.v (Value.int IntKind.i64 0), D.v (Value.int IntKind.i64 0)]) (D.ref 0 0) z).bind fun b => (fldD true 3 0 b).bind fun z => callK (F_spec_joCheck [sl s 1, z]) fun rs _u =>
 (fldD true 3 0 b).bind fun z => callK (F_spec_joLine [z, sl rs 0]) fun rs_1 _u => (bin BinOp.add false [] (sl s 0) (sl rs_1 0)).bind fun z =>
 (bin BinOp.add false [] (sl s 4) (D.v (Value.int IntKind.i64 1))).bind fun z_1 => some (Out.nrm [z, sl rs 0, sl s 2, sl s 3, z_1])) (some (Out.ext 0 [sl s 0])))
 [D.v (Value.string { data := { toList := [] } }), D.v (Value.int IntKind.i64 7), x0, z, D.v (Value.int IntKind.i64 0)]).bind
 fun o => outK o (fun i s => ifN (i.beq 0) (some (Out.ret [sl s 0] [])) none) fun a b => some (Out.ret a b)) := by kernel_rfl
theorem t_spec_joIf (x0 : D) : F_spec_joIf [x0] =
  ((lenD true x0).bind fun z => (bin BinOp.gtr false [] z (D.v (Value.int IntKind.i64 300))).bind fun z => ifD z (some (Out.ret [D.v (Value.string { data := { toList := [] } }), D.v (Value.bool false)] []))
 (some (Out.ret [x0, D.v (Value.bool true)] []))) := by kernel_rfl
theorem t_spec_JournalText (x0 : D) : F_spec_JournalText [x0] =
  (callK (F_spec_joGood [x0]) fun rs _u => (un UnOp.not (sl rs 0)).bind fun z => ifD z (some (Out.ret [D.v (Value.string { data := { toList := [] } }), D.v (Value.bool false)] [])) (callK (F_spec_joText [x0]) fun rs _u =>
 callK (F_spec_joIf [sl rs 0]) fun rs _u => (tupAt (D.tup rs) 0).bind fun z => (tupAt (D.tup rs) 1).bind fun z_1 => some (Out.ret [z, z_1] []))) := by kernel_rfl
theorem t_laws_pSameNotes (x0 x1 : D) : F_laws_pSameNotes [x0, x1] =
  ((lenD false x0).bind fun z => (lenD false x1).bind fun z_1 => (bin BinOp.neq false [] z z_1).bind fun z => ifD z (some (Out.ret [D.v (Value.bool false)] [])) ((lenD false x0).bind fun z => (loopC (fun s =>
 (bin BinOp.lss false [] (sl s 3) (sl s 2)).bind fun z => ifD z ((Option.map D.ptr (elemD 3 (sl s 0) (sl s 3))).bind fun z => ((ldD true 3 z).bind chkV).bind fun z =>
 (Option.map D.ptr (elemD 3 (sl s 1) (sl s 3))).bind fun z_2 => ((ldD true 3 z_2).bind chkV).bind fun z_3 => (bin BinOp.neq false [1, 1, 1] z z_3).bind fun z => ifD z (some (Out.ret [D.v (Value.bool false)] []))
 ((bin BinOp.add false [] (sl s 3) (D.v (Value.int IntKind.i64 1))).bind fun z => some (Out.nrm [sl s 0, sl s 1, sl s 2, z]))) (some (Out.ext 0 []))) [x0, x1, z, D.v (Value.int IntKind.i64 0)]).bind fun o =>
 outK o (fun i _u => ifN (i.beq 0) (some (Out.ret [D.v (Value.bool true)] [])) none) fun a b => some (Out.ret a b))) := by kernel_rfl
theorem t_spec_l1Cur_spoilt (x0 x1 x2 : D) : F_spec_l1Cur_spoilt [x0, x1, x2] =
  ((liveD x0 (D.ref 0 0)).bind fun z => (ref0 z x0).bind fun i => (liveD i i).bind fun i => callK (F_spec_l1Cur_pick [i, D.v (Value.int IntKind.i64 2)]) fun rs us =>
 (bin BinOp.add false [] (D.v (Value.int IntKind.i64 1)) (sl rs 0)).bind fun z => (loopC (fun s => (bin BinOp.gtr false [] (sl s 3) (D.v (Value.int IntKind.i64 0))).bind fun z =>
 (gate (D.tup []) z true (some (sl s 1))).bind fun z_1 => (gate (D.tup []) z true (lenD true z_1)).bind fun z_2 => (gate (D.tup []) z true (bin BinOp.gtr false [] z_2 (D.v (Value.int IntKind.i64 0)))).bind fun z_3 =>
 (pickD z z_3 (D.v (Value.bool false))).bind fun z => ifD z ((liveD (sl s 0) (D.ref 0 0)).bind fun z => (lenD true (sl s 1)).bind fun z_4 => (ref0 z (sl s 0)).bind fun i => (liveD i i).bind fun i =>
 callK (F_spec_l1Cur_pick [i, z_4]) fun rs us => (liveD (sl us 0) (D.ref 0 0)).bind fun z => (lenD true (sl s 2)).bind fun z_5 => (ref0 z (sl us 0)).bind fun i => (liveD i i).bind fun i =>
 callK (F_spec_l1Cur_pick [i, z_5]) fun rs_1 us => (charD (sl s 2) (sl rs_1 0)).bind fun z => (mkArr 1 [z]).bind fun a => (strD a).bind fun z => (liveD (sl us 0) (D.ref 0 0)).bind fun z_6 =>
 (ref0 z_6 (sl us 0)).bind fun i => (liveD i i).bind fun i => callK (F_spec_l1Cur_pick [i, D.v (Value.int IntKind.i64 3)]) fun rs_2 us => (bin BinOp.eql false [] (sl rs_2 0) (D.v (Value.int IntKind.i64 0))).bind fun z_7 =>
 ifD z_7 ((sliceD true 0 (sl s 1) (D.v (Value.int IntKind.i64 0)) (sl rs 0)).bind fun z_8 => (bin BinOp.add false [] z_8 z).bind fun z => (sliceHi true 0 (sl s 1) (sl rs 0)).bind fun z_9 =>
 (bin BinOp.add false [] z z_9).bind fun z => (bin BinOp.sub false [] (sl s 3) (D.v (Value.int IntKind.i64 1))).bind fun z_10 => some (Out.nrm [sl us 0, z, sl s 2, z_10])) ((bin BinOp.eql false [] (sl rs_2 0)
 (D.v (Value.int IntKind.i64 1))).bind fun z_8 => ifD z_8 ((sliceD true 0 (sl s 1) (D.v (Value.int IntKind.i64 0)) (sl rs 0)).bind fun z_9 => (bin BinOp.add false [] z_9 z).bind fun z => (bin BinOp.add false [] (sl rs 0)
 (D.v (Value.int IntKind.i64 1))).bind fun z_10 => (sliceHi true 0 (sl s 1) z_10).bind fun z_11 => (bin BinOp.add false [] z z_11).bind fun z => (bin BinOp.sub false [] (sl s 3) (D.v (Value.int IntKind.i64 1))).bind
 fun z_12 => some (Out.nrm [sl us 0, z, sl s 2, z_12])) ((sliceD true 0 (sl s 1) (D.v (Value.int IntKind.i64 0)) (sl rs 0)).bind fun z => (bin BinOp.add false [] (sl rs 0) (D.v (Value.int IntKind.i64 1))).bind fun z_9 =>
 (sliceHi true 0 (sl s 1) z_9).bind fun z_10 => (bin BinOp.add false [] z z_10).bind fun z => (bin BinOp.sub false [] (sl s 3) (D.v (Value.int IntKind.i64 1))).bind fun z_11 => some (Out.nrm [sl us 0, z, sl s 2, z_11]))))
 (some (Out.ext 0 [sl s 0, sl s 1]))) [sl us 0, x1, x2, z]).bind fun o => outK o (fun i s => ifN (i.beq 0) ((liveD (sl s 0) (sl s 0)).bind fun _u => some (Out.ret [sl s 1] [sl s 0])) none) fun a b => some (Out.ret a b)) := by kernel_rfl
theorem t_spec_l1Least (x0 x1 : D) : F_spec_l1Least [x0, x1] =
  ((bin BinOp.lss false [] x0 x1).bind fun z => ifD z (some (Out.ret [x0] [])) (some (Out.ret [x1] []))) := by kernel_rfl
theorem t_spec_l1Cur_of (x0 x1 : D) : F_spec_l1Cur_of [x0, x1] =
  ((liveD x0 (D.ref 0 0)).bind fun z => (lenD false x1).bind fun z_1 => (ref0 z x0).bind fun i => (liveD i i).bind fun i => callK (F_spec_l1Cur_pick [i, z_1]) fun rs us =>
 (Option.map D.ptr (elemD 1 x1 (sl rs 0))).bind fun z => ((ldD false 1 z).bind chkV).bind fun z => (liveD (sl us 0) (sl us 0)).bind fun _u => some (Out.ret [z] [sl us 0])) := by kernel_rfl
theorem t_spec_l1Cur_book (x0 : D) : F_spec_l1Cur_book [x0] =
  ((liveD x0 (D.ref 0 0)).bind fun z => (ref0 z x0).bind fun i => (liveD i i).bind fun i => callK (F_spec_l1Cur_notes [i]) fun rs us => (loopC (fun s => callK (F_spec_joGood [sl s 1]) fun rs _u =>
 (un UnOp.not (sl rs 0)).bind fun z => ifD z ((lenD false (sl s 1)).bind fun z => (bin BinOp.sub false [] z (D.v (Value.int IntKind.i64 1))).bind fun z =>
 (sliceD false 3 (sl s 1) (D.v (Value.int IntKind.i64 0)) z).bind fun z => some (Out.nrm [sl s 0, z])) (some (Out.ext 0 [sl s 0, sl s 1]))) [sl us 0, sl rs 0]).bind fun o => outK o (fun i s => ifN (i.beq 0)
 (callK (F_spec_joText [sl s 1]) fun rs _u => (liveD (sl s 0) (D.ref 0 0)).bind fun z => (ref0 z (sl s 0)).bind fun i => (liveD i i).bind fun i => callK (F_spec_l1Cur_pick [i, D.v (Value.int IntKind.i64 8)]) fun rs_1 us =>
 (bin BinOp.eql false [] (sl rs_1 0) (D.v (Value.int IntKind.i64 0))).bind fun z => ifD z ((liveD (sl us 0) (D.ref 0 0)).bind fun z => (ref0 z (sl us 0)).bind fun i => (liveD i i).bind fun i => callK (F_spec_l1Cur_spoilt
 [i, sl rs 0, D.v (Value.string { data := { toList := [48, 32, 49, 10, 55] } })]) fun rs us => (liveD (sl us 0) (sl us 0)).bind fun _u => some (Out.ret [sl rs 0] [sl us 0]))
 ((bin BinOp.eql false [] (sl rs_1 0) (D.v (Value.int IntKind.i64 1))).bind fun z => ifD z (ifD z ((lenD true (sl rs 0)).bind fun z => (liveD (sl us 0) (D.ref 0 0)).bind fun z_1 => (lenD true (sl rs 0)).bind fun z_2 =>
 callK (F_spec_l1Least [z_2, D.v (Value.int IntKind.i64 30)]) fun rs_2 _u => (bin BinOp.add false [] (sl rs_2 0) (D.v (Value.int IntKind.i64 1))).bind fun z_3 => (ref0 z_1 (sl us 0)).bind fun i => (liveD i i).bind fun i =>
 callK (F_spec_l1Cur_pick [i, z_3]) fun rs_3 us => (bin BinOp.sub false [] z (sl rs_3 0)).bind fun z => (sliceD true 0 (sl rs 0) (D.v (Value.int IntKind.i64 0)) z).bind fun z => (liveD (sl us 0) (sl us 0)).bind fun _u =>
 some (Out.ret [z] [sl us 0])) ((bin BinOp.eql false [] (sl rs_1 0) (D.v (Value.int IntKind.i64 3))).bind fun z => ifD z ((liveD (sl us 0) (D.ref 0 0)).bind fun z => (mkArr 1
 [D.v (Value.string { data := { toList := [120] } }), D.v (Value.string { data := { toList := [10] } }), D.v (Value.string { data := { toList := [49, 32, 48, 32, 53, 32, 48, 10] } }),
 D.v (Value.string { data := { toList := [32] } })]).bind fun a => (ref0 z (sl us 0)).bind fun i => (liveD i i).bind fun i => callK (F_spec_l1Cur_of [i, a]) fun rs_2 us =>
 (bin BinOp.add false [] (sl rs 0) (sl rs_2 0)).bind fun z => (liveD (sl us 0) (sl us 0)).bind fun _u => some (Out.ret [z] [sl us 0])) ((bin BinOp.eql false [] (sl rs_1 0) (D.v (Value.int IntKind.i64 4))).bind fun z =>
 ifD z ((liveD (sl us 0) (D.ref 0 0)).bind fun z => (ref0 z (sl us 0)).bind fun i => (liveD i i).bind fun i => callK (F_spec_l1Cur_one [i, D.v (Value.int IntKind.i64 4)]) fun rs_2 us => ifD (sl rs_2 0)
 ((liveD (sl us 0) (D.ref 0 0)).bind fun z => (ref0 z (sl us 0)).bind fun i => (liveD i i).bind fun i => callK (F_spec_l1Cur_pick [i, D.v (Value.int IntKind.i64 2)]) fun rs_3 us => (bin BinOp.add false []
 (D.v (Value.int IntKind.i64 300)) (sl rs_3 0)).bind fun z => (loopC (fun s => (lenD true (sl s 1)).bind fun z => (bin BinOp.lss false [] z (sl s 2)).bind fun z => ifD z ((bin BinOp.add false [] (sl s 1) (D.v (Value.string
 { data := { toList := [120] } }))).bind fun z => some (Out.nrm [sl s 0, z, sl s 2])) (some (Out.ext 3 [sl s 0, sl s 1]))) [sl us 0, sl rs 0, z]).bind fun o => outK o (fun i s => ifN (i.beq 3)
 ((liveD (sl s 0) (sl s 0)).bind fun _u => some (Out.ret [sl s 1] [sl s 0])) (ifN (i.beq 2) ((liveD (sl s 0) (sl s 0)).bind fun _u => some (Out.ret [sl s 1] [sl s 0])) none)) fun a b => some (Out.ret a b))
 ((liveD (sl us 0) (sl us 0)).bind fun _u => some (Out.ret [sl rs 0] [sl us 0]))) ((liveD (sl us 0) (sl us 0)).bind fun _u => some (Out.ret [sl rs 0] [sl us 0])))))
 ((bin BinOp.eql false [] (sl rs_1 0) (D.v (Value.int IntKind.i64 2))).bind fun z => ifD z ((lenD true (sl rs 0)).bind fun z => (liveD (sl us 0) (D.ref 0 0)).bind fun z_1 => (lenD true (sl rs 0)).bind fun z_2 =>
 callK (F_spec_l1Least [z_2, D.v (Value.int IntKind.i64 30)]) fun rs_2 _u => (bin BinOp.add false [] (sl rs_2 0) (D.v (Value.int IntKind.i64 1))).bind fun z_3 => (ref0 z_1 (sl us 0)).bind fun i => (liveD i i).bind fun i =>
 callK (F_spec_l1Cur_pick [i, z_3]) fun rs_3 us => (bin BinOp.sub false [] z (sl rs_3 0)).bind fun z => (sliceD true 0 (sl rs 0) (D.v (Value.int IntKind.i64 0)) z).bind fun z => (liveD (sl us 0) (sl us 0)).bind fun _u =>
 some (Out.ret [z] [sl us 0])) ((bin BinOp.eql false [] (sl rs_1 0) (D.v (Value.int IntKind.i64 3))).bind fun z => ifD z ((liveD (sl us 0) (D.ref 0 0)).bind fun z => (mkArr 1
 [D.v (Value.string { data := { toList := [120] } }), D.v (Value.string { data := { toList := [10] } }), D.v (Value.string { data := { toList := [49, 32, 48, 32, 53, 32, 48, 10] } }),
 D.v (Value.string { data := { toList := [32] } })]).bind fun a => (ref0 z (sl us 0)).bind fun i => (liveD i i).bind fun i => callK (F_spec_l1Cur_of [i, a]) fun rs_2 us =>
 (bin BinOp.add false [] (sl rs 0) (sl rs_2 0)).bind fun z => (liveD (sl us 0) (sl us 0)).bind fun _u => some (Out.ret [z] [sl us 0])) ((bin BinOp.eql false [] (sl rs_1 0) (D.v (Value.int IntKind.i64 4))).bind fun z =>
 ifD z ((liveD (sl us 0) (D.ref 0 0)).bind fun z => (ref0 z (sl us 0)).bind fun i => (liveD i i).bind fun i => callK (F_spec_l1Cur_one [i, D.v (Value.int IntKind.i64 4)]) fun rs_2 us => ifD (sl rs_2 0)
 ((liveD (sl us 0) (D.ref 0 0)).bind fun z => (ref0 z (sl us 0)).bind fun i => (liveD i i).bind fun i => callK (F_spec_l1Cur_pick [i, D.v (Value.int IntKind.i64 2)]) fun rs_3 us => (bin BinOp.add false []
 (D.v (Value.int IntKind.i64 300)) (sl rs_3 0)).bind fun z => (loopC (fun s => (lenD true (sl s 1)).bind fun z => (bin BinOp.lss false [] z (sl s 2)).bind fun z => ifD z ((bin BinOp.add false [] (sl s 1) (D.v (Value.string
 { data := { toList := [120] } }))).bind fun z => some (Out.nrm [sl s 0, z, sl s 2])) (some (Out.ext 3 [sl s 0, sl s 1]))) [sl us 0, sl rs 0, z]).bind fun o => outK o (fun i s => ifN (i.beq 3)
 ((liveD (sl s 0) (sl s 0)).bind fun _u => some (Out.ret [sl s 1] [sl s 0])) (ifN (i.beq 2) ((liveD (sl s 0) (sl s 0)).bind fun _u => some (Out.ret [sl s 1] [sl s 0])) none)) fun a b => some (Out.ret a b))
 ((liveD (sl us 0) (sl us 0)).bind fun _u => some (Out.ret [sl rs 0] [sl us 0]))) ((liveD (sl us 0) (sl us 0)).bind fun _u => some (Out.ret [sl rs 0] [sl us 0]))))))) none) fun a b => some (Out.ret a b)) := by kernel_rfl
theorem t_spec_DrawReadJournal (x0 : D) : F_spec_DrawReadJournal [x0] =
  ((bldD [(0, 1)] [D.arr 1 [], D.v (Value.int IntKind.i64 0), D.v (Value.int IntKind.u64 0)] [x0]).bind fun z => (boxD 3 z).bind fun y => (liveD y (D.ref 0 0)).bind fun z => (liveD z z).bind fun z => (ref0 z y).bind fun i =>
 (liveD i i).bind fun i => callK (F_spec_l1Cur_book [i]) fun rs _u => some (Out.ret [sl rs 0] [])) := by kernel_rfl
theorem t_spec_DrawRecovered (x0 : D) : F_spec_DrawRecovered [x0] =
  (callK (F_spec_DrawReadJournal [x0]) fun rs _u => some (Out.ret [sl rs 0] [])) := by kernel_rfl
theorem t_spec_DrawAppendNote (x0 : D) : F_spec_DrawAppendNote [x0] =
  ((bldD [(0, 1)] [D.arr 1 [], D.v (Value.int IntKind.i64 0), D.v (Value.int IntKind.u64 0)] [x0]).bind fun z => (boxD 3 z).bind fun y => (liveD y (D.ref 0 0)).bind fun z => (liveD z z).bind fun z_1 =>
 (ref0 z_1 y).bind fun i => (liveD i i).bind fun i => callK (F_spec_l1Cur_book [i]) fun rs us => (liveD z z).bind fun z_2 => (liveD z z).bind fun z => (mkArr 1
 [D.v (Value.int IntKind.i64 12), D.v (Value.int IntKind.i64 20), D.v (Value.int IntKind.i64 80), D.v (Value.int IntKind.i64 0)]).bind fun a => (ref0 z (sl us 0)).bind fun i => (liveD i i).bind fun i =>
 callK (F_spec_l1Cur_among [i, a]) fun rs_1 us => (ref0 z_2 (sl us 0)).bind fun i => (liveD i i).bind fun i => callK (F_spec_l1Cur_note [i, sl rs_1 0]) fun rs_2 _u => (stD 3 (D.agg
 [D.v (Value.int IntKind.i64 0), D.v (Value.int IntKind.i64 0), D.v (Value.int IntKind.i64 0)]) (D.ref 0 0) (sl rs_2 0)).bind fun b => (fldD true 3 0 b).bind fun y => some (Out.ret [sl rs 0, y] [])) := by kernel_rfl
theorem t_impl_AppendNote (x0 x1 : D) : F_impl_AppendNote [x0, x1] =
  ((boxD 3 x1).bind fun y => callK (F_impl_readJournal [x0]) fun rs _u => (tupAt (D.tup rs) 0).bind fun y_1 => (tupAt (tupCut (D.tup rs) 0) 1).bind fun z => (un UnOp.not z).bind fun z =>
 (gate (D.tup []) z false (fldD true 3 0 y)).bind fun z_1 => gateC z false (callK (F_impl_isNote [z_1]) fun rs _u => some (Out.nrm [sl rs 0])) [D.tup []] fun outs =>
 (gate (D.tup []) z false (un UnOp.not (sl outs 0))).bind fun z_2 => (pickD z (D.v (Value.bool true)) z_2).bind fun z => ifD z (some (Out.ret [D.v (Value.string { data := { toList := [] } }), D.v (Value.bool false)] []))
 ((fldD true 3 0 y).bind fun z => (mkArr 3 [z]).bind fun a => (appD 3 24 y_1 a).bind fun y => callK (F_impl_JournalText [y]) fun rs _u => (tupAt (D.tup rs) 0).bind fun z =>
 (tupAt (D.tup rs) 1).bind fun z_3 => some (Out.ret [z, z_3] []))) := by kernel_rfl
theorem t_spec_AppendNote (x0 x1 : D) : F_spec_AppendNote [x0, x1] =
  ((boxD 3 x1).bind fun y => callK (F_spec_ReadJournal [x0]) fun rs _u => (tupAt (D.tup rs) 0).bind fun y_1 => (tupAt (tupCut (D.tup rs) 0) 1).bind fun z => (mkArr 3 []).bind fun a => (chkA y_1).bind fun b =>
 (appD 3 24 a b).bind fun y_2 => (fldD true 3 0 y).bind fun z_1 => (mkArr 3 [z_1]).bind fun a => (appD 3 24 y_2 a).bind fun y => (un UnOp.not z).bind fun z => (gate (D.tup []) z false (some y)).bind fun z_2 =>
 gateC z false (callK (F_spec_joGood [z_2]) fun rs _u => some (Out.nrm [sl rs 0])) [D.tup []] fun outs => (gate (D.tup []) z false (un UnOp.not (sl outs 0))).bind fun z_3 =>
 (pickD z (D.v (Value.bool true)) z_3).bind fun z => ifD z (some (Out.ret [D.v (Value.string { data := { toList := [] } }), D.v (Value.bool false)] [])) (callK (F_spec_joText [y]) fun rs _u =>
 callK (F_spec_joIf [sl rs 0]) fun rs _u => (tupAt (D.tup rs) 0).bind fun z => (tupAt (D.tup rs) 1).bind fun z_4 => some (Out.ret [z, z_4] []))) := by kernel_rfl
theorem t_spec_DrawSameStart (x0 : D) : F_spec_DrawSameStart [x0] =
  ((bldD [(0, 1)] [D.arr 1 [], D.v (Value.int IntKind.i64 0), D.v (Value.int IntKind.u64 0)] [x0]).bind fun z => (boxD 3 z).bind fun y => (liveD y (D.ref 0 0)).bind fun z => (liveD z z).bind fun z_1 =>
 (ref0 z_1 y).bind fun i => (liveD i i).bind fun i => callK (F_spec_l1Cur_notes [i]) fun rs us => callK (F_spec_joGood [sl rs 0]) fun rs_1 _u => (gate (D.tup []) (sl rs_1 0) true (some (sl rs 0))).bind fun z_2 =>
 (gate (D.tup []) (sl rs_1 0) true (lenD false z_2)).bind fun z_3 => (gate (D.tup []) (sl rs_1 0) true (bin BinOp.gtr false [] z_3 (D.v (Value.int IntKind.i64 1)))).bind fun z_4 =>
 (pickD (sl rs_1 0) z_4 (D.v (Value.bool false))).bind fun z_5 => (gate D.bad z_5 true (liveD z z)).bind fun z_6 => gateC z_5 true ((ref0 z_6 (sl us 0)).bind fun i => (liveD i i).bind fun i =>
 callK (F_spec_l1Cur_one [i, D.v (Value.int IntKind.i64 4)]) fun rs us => some (Out.nrm [sl rs 0, sl us 0])) [D.tup [], sl us 0] fun outs => (gate (D.tup []) z_5 true (un UnOp.not (sl outs 0))).bind fun z_7 =>
 (pickD z_5 z_7 (D.v (Value.bool false))).bind fun z_8 => ifD z_8 ((mkArr 3 []).bind fun a => (liveD z z).bind fun z_9 => (lenD false (sl rs 0)).bind fun z_10 => (ref0 z_9 (sl outs 1)).bind fun i =>
 (liveD i i).bind fun i => callK (F_spec_l1Cur_pick [i, z_10]) fun rs_2 us => (sliceD false 3 (sl rs 0) (D.v (Value.int IntKind.i64 0)) (sl rs_2 0)).bind fun z_11 => (chkA z_11).bind fun b => (appD 3 24 a b).bind fun y =>
 (liveD z z).bind fun z => (ref0 z (sl us 0)).bind fun i => (liveD i i).bind fun i => callK (F_spec_l1Cur_one [i, D.v (Value.int IntKind.i64 2)]) fun rs_3 _u => ifD (sl rs_3 0) ((bldD [(0, 1), (2, 1)]
 [D.v (Value.int IntKind.i64 0), D.v (Value.int IntKind.i64 0), D.v (Value.int IntKind.i64 0)] [D.v (Value.int IntKind.i64 9000), D.v (Value.int IntKind.i64 1)]).bind fun z => (mkArr 3 [z]).bind fun a =>
 (chkA a).bind fun b => (appD 3 24 y b).bind fun y => callK (F_spec_joText [sl rs 0]) fun rs _u => (liveD y (D.ref 0 0)).bind fun z => (liveD z y).bind fun i => callK (F_spec_joText [i]) fun rs_4 _u =>
 some (Out.ret [sl rs 0, sl rs_4 0] [])) (callK (F_spec_joText [sl rs 0]) fun rs _u => (liveD y (D.ref 0 0)).bind fun z => (liveD z y).bind fun i => callK (F_spec_joText [i]) fun rs_4 _u =>
 some (Out.ret [sl rs 0, sl rs_4 0] []))) ((liveD z z).bind fun z_9 => (ref0 z_9 (sl outs 1)).bind fun i => (liveD i i).bind fun i => callK (F_spec_l1Cur_book [i]) fun rs us => (liveD z z).bind fun z =>
 (ref0 z (sl us 0)).bind fun i => (liveD i i).bind fun i => callK (F_spec_l1Cur_book [i]) fun rs_2 _u => some (Out.ret [sl rs 0, sl rs_2 0] []))) := by kernel_rfl
end Go.Proofs.YtfjkapnonljdeaaGreatDoor
/-
  The laws of journals that are written.
-/
namespace Go.Proofs.YtfjkapnonljdeaaGreatDoor
open Go Go.V
set_option linter.unusedSimpArgs false

theorem good_all {l : List Nt} (h : goodN l = true) : (∀ x ∈ l, isNt x = true) ∧ l.length ≤ 24 := by
  unfold goodN at h
  simp only [Bool.and_eq_true, decide_eq_true_eq] at h
  refine ⟨?_, h.2⟩
  have key : ∀ (p : Nat → Nt → Bool) (m : List Nt) (i : Nat), allI p i m = true → ∀ x ∈ m, ∃ j, p j x = true := by
    intro p m
    induction m with
    | nil => intro i _ x hx; cases hx
    | cons y m ih =>
      intro i hi x hx
      simp only [allI, Bool.and_eq_true] at hi
      rcases List.mem_cons.1 hx with rfl | hx
      · exact ⟨i, hi.1⟩
      · exact ih (i + 1) hi.2 x hx
  intro x hx
  obtain ⟨j, hj⟩ := key _ _ _ h.1 x hx
  simp only [pNt, Bool.and_eq_true] at hj
  exact hj.1
theorem e_spec_joText (l : List Nt) (hg : ∀ x ∈ l, isNt x = true) (hl : l.length ≤ 1048576) : F_spec_joText [nts l] = some (.ret [T (jT l 7)] []) := by
  rw [t_spec_joText]
  simp -implicitDefEqProofs only [lenD_arr, List.length_map, Option.bind_some]
  refine loop_wf_bind (fun r => r = _) (fun (a : ByteArray × Int × Nat) => [T a.1, I a.2.1, nts l, I (l.length : Int), I (a.2.2 : Int)]) (fun a => a.2.2 ≤ l.length ∧ (0 ≤ a.2.1 ∧ a.2.1 ≤ 9972) ∧ a.1 ++ jT (l.drop a.2.2) a.2.1 = jT l 7 ∧ a.1.size ≤ 44 * a.2.2)
    (fun a => l.length - a.2.2) (fun o => o = .ext 0 [T (jT l 7)]) ?_ (⟨#[]⟩, 7, 0) ⟨Nat.zero_le _, ⟨by decide, by decide⟩, by apply chars_inj; rw [chars_append]; rfl, Nat.le_refl _⟩ rfl ?_
  · rintro ⟨s, c, i⟩ ⟨h1, h2, h3, h4⟩
    simp only at h1 h2 h3 h4
    by_cases hp : i < l.length
    · left
      have hpi : (i : Int) < (l.length : Int) := by omega
      have hx : isNt l[i] = true := hg _ (List.getElem_mem hp)
      have hck := ckN_range c l[i]
      have hel : elemD 3 (nts l) (I (i : Int)) = some (nt l[i]).cells := by simp [hp]
      have lx : ∀ x : Nt, (ldD true 3 (.ptr (nt x).cells)).bind chkV = some (nt x) := fun x => by simp
      have hz := lnT_size hx hck
      have hw : IntKind.i64.wrap ((i : Int) + 1) = ((i + 1 : Nat) : Int) := by rw [wrap_id (by omega) (by omega)]; omega
      have hadd : bin BinOp.add false [] (T s) (T (lnT l[i] (ckN c l[i]))) = some (T (s ++ lnT l[i] (ckN c l[i]))) := by rw [bin_addS, if_pos (by omega)]
      refine ⟨(s ++ lnT l[i] (ckN c l[i]), ckN c l[i], i + 1), ?_, ⟨hp, hck, ?_, ?_⟩, by simp only; omega⟩
      · simp -implicitDefEqProofs only [sl_zero, sl_succ, bin_lss, hpi, decide_true, Option.bind_some, ifD_B, if_true, hel, Option.map_some, lx, put_nt, fld_nt, e_spec_joCheck h2 hx, callK_ret, e_spec_joLine hx hck, hadd, bin_add, hw]
      · rw [← h3, List.drop_eq_getElem_cons hp]
        apply chars_inj
        simp only [jT, chars_append, List.append_assoc]
      · rw [ByteArray.size_append]
        simp only
        omega
    · right
      have hpi : ¬ (i : Int) < (l.length : Int) := by omega
      rw [List.drop_eq_nil_of_le (by omega)] at h3
      have h5 : s = jT l 7 := by
        rw [← h3]
        apply chars_inj
        rw [chars_append]
        simp [jT, chars]
      refine ⟨_, ?_, rfl, rfl⟩
      simp -implicitDefEqProofs only [sl_zero, sl_succ, bin_lss, hpi, decide_false, Option.bind_some, ifD_B, Bool.false_eq_true, if_false, h5]
  · rintro o rfl
    simp -implicitDefEqProofs only [outK_ext, Nat.beq_refl, ifN_B, if_true, sl_zero]
theorem e_spec_joIf (s : ByteArray) : F_spec_joIf [T s] = some (.ret [T (if s.size ≤ 300 then s else ⟨#[]⟩), B (decide (s.size ≤ 300))] []) := by
  rw [t_spec_joIf]
  by_cases h : s.size ≤ 300
  · have h' : ¬ (300 : Int) < (s.size : Int) := by omega
    simp -implicitDefEqProofs only [lenD_str, bin_gtr, h', h, decide_false, decide_true, Option.bind_some, ifD_B, Bool.false_eq_true, if_false, if_true]
  · have h' : (300 : Int) < (s.size : Int) := by omega
    simp -implicitDefEqProofs only [lenD_str, bin_gtr, h', h, decide_false, decide_true, Option.bind_some, ifD_B, if_false, if_true]
theorem e_fJournal (l : List Nt) (hg : ∀ x ∈ l, isNt x = true) (hl : l.length ≤ 1048576) : fJournal [nts l] = some (.ret [T (jT l 7)] []) := by
  simp only [fJournal, ntsOf_map, Option.bind_some]
  rw [if_pos ⟨hg, hl⟩]

def jtS (l : List Nt) : ByteArray × Bool := if goodN l = true ∧ (jT l 7).size ≤ 300 then (jT l 7, true) else (⟨#[]⟩, false)
theorem e_spec_JournalText (l : List Nt) (h : l.length ≤ 1048576) : F_spec_JournalText [nts l] = some (.ret [T (jtS l).1, B (jtS l).2] []) := by
  rw [t_spec_JournalText]
  unfold jtS
  cases hg : goodN l
  · rw [if_neg (fun g => by cases g.1)]
    simp -implicitDefEqProofs only [e_spec_joGood l h, hg, callK_ret, sl_zero, un_not, Bool.not_false, Option.bind_some, ifD_B, if_true]
  · have hall := (good_all hg).1
    by_cases hz : (jT l 7).size ≤ 300
    · rw [if_pos ⟨rfl, hz⟩]
      simp -implicitDefEqProofs [e_spec_joGood l h, hg, e_spec_joText l hall h, e_spec_joIf, hz]
    · rw [if_neg (fun g => hz g.2)]
      simp -implicitDefEqProofs [e_spec_joGood l h, hg, e_spec_joText l hall h, e_spec_joIf, hz]
theorem e_impl_JournalText (l : List Nt) (h : l.length ≤ 1048576) : F_impl_JournalText [nts l] = some (.ret [T (jtS l).1, B (jtS l).2] []) := by
  rw [t_impl_JournalText]
  unfold jtS
  cases hg : goodN l
  · rw [if_neg (fun g => by cases g.1)]
    simp -implicitDefEqProofs [e_impl_AreNotes l h, hg]
  · have hall := (good_all hg).1
    by_cases hz : (jT l 7).size ≤ 300
    · have hz' : ¬ (300 : Int) < ((jT l 7).size : Int) := by omega
      rw [if_pos ⟨rfl, hz⟩]
      simp -implicitDefEqProofs [e_impl_AreNotes l h, hg, e_fJournal l hall h, hz']
    · have hz' : (300 : Int) < ((jT l 7).size : Int) := by omega
      rw [if_neg (fun g => hz g.2)]
      simp -implicitDefEqProofs [e_impl_AreNotes l h, hg, e_fJournal l hall h, hz']
def anS (s : ByteArray) (x : Nt) : ByteArray × Bool := if (jrS s).2 = true then jtS ((jrS s).1 ++ [x]) else (⟨#[]⟩, false)
theorem jrS_len (s : ByteArray) : (jrS s).1.length ≤ 24 := by
  unfold jrS
  split
  · exact jo_len s
  · exact Nat.zero_le _
theorem box_nt (x : Nt) : boxD 3 (nt x) = some (nt x) := by simp
theorem emptyT : D.v (Value.string { data := { toList := [] } }) = T ⟨#[]⟩ := rfl
theorem e_spec_AppendNote (s : ByteArray) (x : Nt) (h : s.size ≤ 1048576) : F_spec_AppendNote [T s, nt x] = some (.ret [T (anS s x).1, B (anS s x).2] []) := by
  rw [t_spec_AppendNote]
  have e1 := e_spec_ReadJournal s h
  have hlen := jrS_len s
  unfold anS
  generalize jrS s = R at *
  obtain ⟨l, p⟩ := R
  simp only at e1 hlen ⊢
  have ha0 : appD 3 24 (.arr 3 []) (nts l) = some (nts l) := app_nts (l := []) (m := l) (by simp; omega)
  have hap := app_nts (l := l) (m := [x]) (by simp; omega)
  simp -implicitDefEqProofs only [box_nt, Option.bind_some, e1, callK_ret, tp0, tc0, tpB1, mkArr_nil, chk_nts, ha0, fld_nt, mk_nts, hap, un_not]
  have hl2 : (l ++ [x]).length ≤ 1048576 := by rw [List.length_append, List.length_singleton]; omega
  have hg := e_spec_joGood (l ++ [x]) hl2
  cases p
  · simp -implicitDefEqProofs
  unfold jtS
  cases hgd : goodN (l ++ [x])
  · simp -implicitDefEqProofs [hg, hgd]
  · have hall := (good_all hgd).1
    have hT := e_spec_joText (l ++ [x]) hall hl2
    have hI := e_spec_joIf (jT (l ++ [x]) 7)
    rw [hgd] at hg
    generalize l ++ [x] = m at *
    by_cases hz : (jT m 7).size ≤ 300 <;> simp -implicitDefEqProofs [hg, hT, hI, hz]
theorem e_impl_AppendNote (s : ByteArray) (x : Nt) (h : s.size ≤ 1048576) : F_impl_AppendNote [T s, nt x] = some (.ret [T (anS s x).1, B (anS s x).2] []) := by
  rw [t_impl_AppendNote]
  have e1 := e_impl_readJournal s h
  have hlen := jrS_len s
  unfold anS
  generalize jrS s = R at *
  obtain ⟨l, p⟩ := R
  simp only at e1 hlen ⊢
  have hap := app_nts (l := l) (m := [x]) (by simp; omega)
  have hl2 : (l ++ [x]).length ≤ 1048576 := by rw [List.length_append, List.length_singleton]; omega
  have hJ := e_impl_JournalText (l ++ [x]) hl2
  simp -implicitDefEqProofs only [box_nt, Option.bind_some, e1, callK_ret, tp0, tc0, tpB1, un_not, fld_nt]
  cases p
  · simp -implicitDefEqProofs
  cases hx : isNt x
  · have hg : goodN (l ++ [x]) = false := by
      cases hg : goodN (l ++ [x])
      · rfl
      · rw [(goodN_last hg).1] at hx
        cases hx
    have : jtS (l ++ [x]) = (⟨#[]⟩, false) := by
      unfold jtS
      rw [if_neg (fun g => by rw [hg] at g; cases g.1)]
    rw [this]
    simp -implicitDefEqProofs [e_impl_isNote, hx]
  · simp -implicitDefEqProofs only [e_impl_isNote, hx, Bool.not_true, gate_f, gateC_f, nrmK_some, callK_ret, sl_zero, Option.bind_some, un_not, Bool.false_eq_true, if_false, if_true, pickD_B, ifD_B, mk_nts, hap, hJ]
    simp -implicitDefEqProofs
end Go.Proofs.YtfjkapnonljdeaaGreatDoor
/-
  What is written is read back.
-/
namespace Go.Proofs.YtfjkapnonljdeaaGreatDoor
open Go Go.V
set_option linter.unusedSimpArgs false

theorem allI_append {β : Type} (p : Nat → β → Bool) : ∀ (l m : List β) (i : Nat), allI p i (l ++ m) = (allI p i l && allI p (i + l.length) m)
  | [], m, i => by simp [allI]
  | x :: l, m, i => by
    simp only [List.cons_append, allI, allI_append p l m (i + 1), List.length_cons, Bool.and_assoc]
    rw [show i + 1 + l.length = i + (l.length + 1) by omega]
theorem allI_congr {β : Type} {p q : Nat → β → Bool} : ∀ (l : List β) (i : Nat), (∀ j x, i ≤ j → j < i + l.length → p j x = q j x) → allI p i l = allI q i l
  | [], _, _ => rfl
  | x :: l, i, h => by
    simp only [allI]
    rw [h i x (Nat.le_refl _) (by simp), allI_congr l (i + 1) (fun j y h1 h2 => h j y (by omega) (by simp only [List.length_cons]; omega))]
theorem goodN_pre {l m : List Nt} (h : goodN (l ++ m) = true) : goodN l = true := by
  unfold goodN at *
  simp only [Bool.and_eq_true, decide_eq_true_eq, allI_append, List.length_append] at h ⊢
  refine ⟨?_, by omega⟩
  rw [← h.1.1]
  refine allI_congr l 0 fun j x _ hj => ?_
  unfold pNt
  by_cases h0 : 0 < j
  · rw [List.getD_eq_getElem?_getD, List.getD_eq_getElem?_getD, List.getElem?_append_left (by omega)]
  · simp [h0]
theorem goodN_nil : goodN [] = true := rfl

/-- The lines of notes. -/
def lines : List Nt → Int → List (List UInt8)
  | [], _ => []
  | x :: l, c => lnL x (ckN c x) :: lines l (ckN c x)
def ckL (l : List Nt) (c : Int) : Int := l.foldl ckN c
theorem no10 {x : Nt} {c : Int} (hx : isNt x = true) (hc : 0 ≤ c ∧ c ≤ 9972) : (10 : UInt8) ∉ lnL x c := by
  obtain ⟨h1, h2, h3⟩ := isNt_iff.1 hx
  have d1 := not_dig (b := 10) (dig_int (n := x.1) (by omega)).2 (by decide)
  have d2 := not_dig (b := 10) (dig_int (n := x.2.1) (by omega)).2 (by decide)
  have d3 := not_dig (b := 10) (dig_int (n := x.2.2) (by omega)).2 (by decide)
  have d4 := not_dig (b := 10) (dig_int (n := c) (by omega)).2 (by decide)
  simp only [lnL, List.mem_append, List.mem_cons, not_or]
  exact ⟨d1, by decide, d2, by decide, d3, by decide, d4⟩
theorem split_jT : ∀ (l : List Nt) (c : Int) (r : List UInt8), (∀ x ∈ l, isNt x = true) → splitL 10 (chars (jT l c) ++ r) = lines l c ++ splitL 10 r
  | [], _, r, _ => rfl
  | x :: l, c, r, h => by
    have hx := h x (by simp)
    have hck := ckN_range c x
    simp only [jT, chars_append, lines, List.cons_append]
    rw [show chars (lnT x (ckN c x)) = lnL x (ckN c x) ++ [10] from chars_lnT x _]
    rw [show (lnL x (ckN c x) ++ [10] ++ chars (jT l (ckN c x))) ++ r = lnL x (ckN c x) ++ 10 :: (chars (jT l (ckN c x)) ++ r) by simp]
    rw [splitL_hit (no10 hx hck), split_jT l _ r (fun y hy => h y (by simp [hy]))]
theorem size_chars (s : ByteArray) : s.size = (chars s).length := rfl
theorem readN_lines : ∀ (m : List Nt) (ms : List (List UInt8)) (l : List Nt) (c : Int) (u : Nat), goodN (l ++ m) = true → readN (lines m c ++ ms) l c u = readN ms (l ++ m) (ckL m c) (u + (jT m c).size)
  | [], ms, l, c, u, _ => by simp only [lines, List.nil_append, List.append_nil]; rfl
  | x :: m, ms, l, c, u, h => by
    have h1 : goodN (l ++ [x]) = true := goodN_pre (m := m) (by rw [List.append_assoc]; exact h)
    have hs : lnT x (ckN c x) = mkT (lnL x (ckN c x)) ++ ⟨#[10]⟩ := lnT_iff.2 (chars_mk _)
    have ha : accS l c (mkT (lnL x (ckN c x))) = some x := accS_of h1 hs
    simp only [lines, List.cons_append, readN]
    rw [show (⟨(lnL x (ckN c x)).toArray⟩ : ByteArray) = mkT (lnL x (ckN c x)) from rfl, ha]
    simp only
    rw [readN_lines m ms (l ++ [x]) (ckN c x) _ (by rw [List.append_assoc]; exact h)]
    have hz : (jT (x :: m) c).size = (lnL x (ckN c x)).length + 1 + (jT m (ckN c x)).size := by
      simp only [jT, ByteArray.size_append]
      rw [hs, ByteArray.size_append, mkT_size, sz1]
    rw [hz, List.append_assoc]
    simp only [List.singleton_append]
    rw [show u + ((lnL x (ckN c x)).length + 1) + (jT m (ckN c x)).size = u + ((lnL x (ckN c x)).length + 1 + (jT m (ckN c x)).size) by omega]
    rfl
/-- A journal with something behind it. -/
theorem jo_text {l : List Nt} (h : goodN l = true) {s : ByteArray} {r : List UInt8} (hs : chars s = chars (jT l 7) ++ r) : jo s = readN (splitL 10 r).dropLast l (ckL l 7) (jT l 7).size := by
  unfold jo
  rw [hs, split_jT l 7 r (good_all h).1, List.dropLast_append_of_ne_nil (splitL_ne 10 r)]
  have := readN_lines l (splitL 10 r).dropLast [] 7 0 (by simpa using h)
  simpa using this
theorem jo_jT {l : List Nt} (h : goodN l = true) : jo (jT l 7) = (l, (jT l 7).size) := by
  rw [jo_text h (r := []) (by simp)]
  rfl
theorem jo_cut {l : List Nt} (h : goodN l = true) {s : ByteArray} {r : List UInt8} (hs : chars s = chars (jT l 7) ++ r) (hr : (10 : UInt8) ∉ r) : jo s = (l, (jT l 7).size) := by
  rw [jo_text h hs, splitL_miss hr]
  rfl
theorem jT_append : ∀ (l m : List Nt) (c : Int), chars (jT (l ++ m) c) = chars (jT l c) ++ chars (jT m (ckL l c))
  | [], m, c => rfl
  | x :: l, m, c => by
    simp only [List.cons_append, jT, chars_append, jT_append l m (ckN c x), List.append_assoc]
    rfl
/-- Whatever is read, was written. -/
theorem readN_spec : ∀ (k : Nat) (t : List UInt8) (l : List Nt) (c : Int) (u : Nat), t.length ≤ k → goodN l = true →
    ∃ m r, readN (splitL 10 t).dropLast l c u = (l ++ m, u + (jT m c).size) ∧ goodN (l ++ m) = true ∧ t = chars (jT m c) ++ r := by
  intro k
  induction k with
  | zero =>
    intro t l c u hk hg
    have : t = [] := List.length_eq_zero_iff.1 (by omega)
    subst this
    exact ⟨[], [], by simp [splitL, readN, jT]; rfl, by simpa using hg, rfl⟩
  | succ k ih =>
    intro t l c u hk hg
    rcases has10 t with hn | ⟨a, b, rfl, ha⟩
    · refine ⟨[], t, ?_, by simpa using hg, rfl⟩
      rw [splitL_miss hn]
      simp [readN, jT]
      rfl
    · rw [splitL_hit ha, List.dropLast_cons_of_ne_nil (splitL_ne 10 b)]
      simp only [readN]
      cases hx : accS l c ⟨a.toArray⟩ with
      | none => exact ⟨[], _, by simp [jT]; rfl, by simpa using hg, rfl⟩
      | some x =>
        obtain ⟨h1, h2⟩ := accS_some hx
        have hla : lnL x (ckN c x) = a := by rw [← lnT_iff.1 h2, chars_mk]
        obtain ⟨m, r, e1, e2, e3⟩ := ih b (l ++ [x]) (ckN c x) (u + (a.length + 1)) (by simp only [List.length_append, List.length_cons] at hk; omega) h1
        refine ⟨x :: m, r, ?_, by rw [List.append_assoc] at e2; exact e2, ?_⟩
        · simp only
          rw [e1, List.append_assoc]
          have hz : (jT (x :: m) c).size = a.length + 1 + (jT m (ckN c x)).size := by
            simp only [jT, ByteArray.size_append]
            rw [h2, ByteArray.size_append, size_list, sz1, chars_mk]
          rw [hz, show u + (a.length + 1) + (jT m (ckN c x)).size = u + (a.length + 1 + (jT m (ckN c x)).size) by omega]
          rfl
        · simp only [jT, chars_append, chars_lnT]
          rw [show (chars (intT x.1) ++ 32 :: (chars (intT x.2.1) ++ 32 :: (chars (intT x.2.2) ++ 32 :: chars (intT (ckN c x))))) = a from hla, e3]
          simp
theorem jo_spec (s : ByteArray) : goodN (jo s).1 = true ∧ (jT (jo s).1 7).size = (jo s).2 ∧ ∃ r, chars s = chars (jT (jo s).1 7) ++ r := by
  obtain ⟨m, r, h1, h2, h3⟩ := readN_spec (chars s).length (chars s) [] 7 0 (Nat.le_refl _) goodN_nil
  unfold jo
  rw [h1]
  simp only [List.nil_append, Nat.zero_add] at h2 ⊢
  exact ⟨h2, trivial, r, h3⟩
theorem cmn_append : ∀ (l m : List Nt), cmn l (l ++ m) = l.length
  | [], m => by cases m <;> rfl
  | x :: l, m => by
    simp only [List.cons_append, cmn, if_true, cmn_append l m, List.length_cons]
end Go.Proofs.YtfjkapnonljdeaaGreatDoor
/-
  Draws: what the cursor gives.
-/
namespace Go.Proofs.YtfjkapnonljdeaaGreatDoor
open Go Go.V
set_option linter.unusedSimpArgs false

structure Cur where
  code : List Int
  at_ : Nat
  seed : Int
abbrev bytesD (l : List Int) : D := .arr 1 (l.map U)
abbrev curD (c : Cur) : D := .agg [bytesD c.code, I c.at_, .v (.int .u64 c.seed)]
structure Cur.ok (c : Cur) (B : Nat) : Prop where
  by_ : ∀ n ∈ c.code, 0 ≤ n ∧ n ≤ 255
  len : c.code.length ≤ 1048576
  at_ : c.at_ ≤ B
  lo : 0 ≤ c.seed
  hi : c.seed < 18446744073709551616

theorem convD_i64 {k : IntKind} {n : Int} : convD (some .i64) false (.v (.int k n)) = some (I (IntKind.i64.wrap n)) := rfl
theorem convD_u64 {k : IntKind} {n : Int} : convD (some .u64) false (.v (.int k n)) = some (.v (.int .u64 (IntKind.u64.wrap n))) := rfl
theorem bin_shr40 {n : Int} {bl : Bool} {eq : List Nat} : bin .shr bl eq (.v (.int .u64 n)) (.v (.int .u64 40)) = some (.v (.int .u64 (n.fdiv 1099511627776))) := by
  simp [bin, IntKind.bits]
theorem bin_and {a b : Int} {bl : Bool} {eq : List Nat} : bin .and bl eq (.v (.int .u64 a)) (.v (.int .u64 b)) = some (.v (.int .u64 (bits .and .u64 a b))) := by simp [bin, intBin]
theorem and255 {n : Int} (h0 : 0 ≤ n) (h1 : n < 18446744073709551616) : 0 ≤ bits .and .u64 n 255 ∧ bits .and .u64 n 255 ≤ 255 := by
  obtain ⟨m, rfl⟩ := Int.eq_ofNat_of_zero_le h0
  have := bits_and_u64_nat m 255 (by omega) (by omega)
  rw [show ((255 : Int)) = ((255 : Nat) : Int) from rfl, this]
  have h2 : m &&& 255 ≤ 255 := Nat.and_le_right
  omega
theorem wrap64 (n : Int) : 0 ≤ IntKind.u64.wrap n ∧ IntKind.u64.wrap n < 18446744073709551616 := by
  rw [IntKind.wrap_u64]
  omega

def seedOf (s n : Int) : Int := IntKind.u64.wrap (IntKind.u64.wrap (IntKind.u64.wrap (s * 6364136223846793005) + IntKind.u64.wrap n) + 1442695040888963407)
def topOf (s : Int) : Int := bits .and .u64 (s.fdiv 1099511627776) 255
theorem seedOf_in (s n : Int) : 0 ≤ seedOf s n ∧ seedOf s n < 18446744073709551616 := wrap64 _
theorem topOf_in {s : Int} (h0 : 0 ≤ s) (h1 : s < 18446744073709551616) : 0 ≤ topOf s ∧ topOf s ≤ 255 := by
  unfold topOf
  rw [Int.fdiv_eq_ediv_of_nonneg _ (by omega)]
  exact and255 (by omega) (by omega)
theorem seed_run {s n : Int} : ((bin BinOp.mul false [] (.v (.int .u64 s)) (.v (.int .u64 6364136223846793005))).bind fun x => (bin BinOp.add false [] x (.v (.int .u64 (IntKind.u64.wrap n)))).bind fun y => bin BinOp.add false [] y (.v (.int .u64 1442695040888963407))) = some (.v (.int .u64 (seedOf s n))) := by
  simp only [bin_mul, bin_add, Option.bind_some, seedOf]
theorem next1 (c : Cur) (B : Nat) (h : c.ok B) (hB : B ≤ 1000000000000) (hc : c.at_ < c.code.length) : F_spec_l1Cur_next [curD c] = some (.ret [I c.code[c.at_]] [curD ⟨c.code, c.at_ + 1, seedOf c.seed c.code[c.at_]⟩]) := by
  have hl := h.len
  have ha := h.at_
  have hw : IntKind.i64.wrap ((c.at_ : Int) + 1) = (c.at_ : Int) + 1 := wrap_id (by omega) (by omega)
  have hn := h.by_ c.code[c.at_] (List.getElem_mem hc)
  have hv : IntKind.i64.wrap c.code[c.at_] = c.code[c.at_] := wrap_id (by omega) (by omega)
  have hle : (c.at_ : Int) + 1 ≤ (c.code.length : Int) := by omega
  rw [t_spec_l1Cur_next]
  simp -implicitDefEqProofs [hc, hw, hv, hle, convD_i64, convD_u64, seedOf]
theorem next2 (c : Cur) (B : Nat) (h : c.ok B) (hB : B ≤ 1000000000000) (hc : ¬ c.at_ < c.code.length) : F_spec_l1Cur_next [curD c] = some (.ret [I (topOf (seedOf c.seed 0))] [curD ⟨c.code, c.at_ + 1, seedOf c.seed 0⟩]) := by
  have hl := h.len
  have ha := h.at_
  have hw : IntKind.i64.wrap ((c.at_ : Int) + 1) = (c.at_ : Int) + 1 := wrap_id (by omega) (by omega)
  have hle : ¬ (c.at_ : Int) + 1 ≤ (c.code.length : Int) := by omega
  have hq := topOf_in (seedOf_in c.seed 0).1 (seedOf_in c.seed 0).2
  have hv : IntKind.i64.wrap (topOf (seedOf c.seed 0)) = topOf (seedOf c.seed 0) := wrap_id (by omega) (by omega)
  unfold topOf seedOf at hv
  rw [t_spec_l1Cur_next]
  simp -implicitDefEqProofs [hc, hw, hle, convD_i64, convD_u64, bin_shr40, bin_and, hv, seedOf, topOf]
theorem d_next (c : Cur) (B : Nat) (h : c.ok B) (hB : B ≤ 1000000000000) : ∃ v c', F_spec_l1Cur_next [curD c] = some (.ret [I v] [curD c']) ∧ 0 ≤ v ∧ v ≤ 255 ∧ c'.ok (B + 1) := by
  have ha := h.at_
  by_cases hc : c.at_ < c.code.length
  · have hn := h.by_ c.code[c.at_] (List.getElem_mem hc)
    exact ⟨_, _, next1 c B h hB hc, hn.1, hn.2, ⟨h.by_, h.len, Nat.succ_le_succ ha, (seedOf_in _ _).1, (seedOf_in _ _).2⟩⟩
  · have hq := topOf_in (seedOf_in c.seed 0).1 (seedOf_in c.seed 0).2
    exact ⟨_, _, next2 c B h hB hc, hq.1, hq.2, ⟨h.by_, h.len, Nat.succ_le_succ ha, (seedOf_in _ _).1, (seedOf_in _ _).2⟩⟩

theorem d_pick (c : Cur) (n : Int) (B : Nat) (h : c.ok B) (hB : B ≤ 100000000000) (hn : n ≤ 1000000000) : ∃ v c', F_spec_l1Cur_pick [curD c, I n] = some (.ret [I v] [curD c']) ∧ 0 ≤ v ∧ (v < n ∨ v = 0) ∧ c'.ok (B + 2) := by
  rw [t_spec_l1Cur_pick]
  by_cases h1 : n ≤ 1
  · exact ⟨0, c, by simp [h1], by omega, .inr rfl, ⟨h.by_, h.len, by have := h.at_; omega, h.lo, h.hi⟩⟩
  obtain ⟨v, c1, e1, l1, u1, k1⟩ := d_next c B h (by omega)
  have hn0 : ¬ n = 0 := by omega
  by_cases h2 : 200 < n
  · obtain ⟨v2, c2, e2, l2, u2, k2⟩ := d_next c1 (B + 1) k1 (by omega)
    have w1 : IntKind.i64.wrap (v * 256) = v * 256 := wrap_id (by omega) (by omega)
    have w2 : IntKind.i64.wrap (v * 256 + v2) = v * 256 + v2 := wrap_id (by omega) (by omega)
    refine ⟨(v * 256 + v2).tmod n, c2, by simp [h1, h2, e1, e2, w1, w2, hn0], Int.tmod_nonneg _ (by omega), .inl (Int.tmod_lt_of_pos _ (by omega)), k2⟩
  · refine ⟨v.tmod n, c1, by simp [h1, h2, e1, hn0], Int.tmod_nonneg _ l1, .inl (Int.tmod_lt_of_pos _ (by omega)), ⟨k1.by_, k1.len, by have := k1.at_; omega, k1.lo, k1.hi⟩⟩
theorem d_one (c : Cur) (n : Int) (B : Nat) (h : c.ok B) (hB : B ≤ 100000000000) (hn : n ≤ 1000000000) : ∃ (b : Bool) (c' : Cur), F_spec_l1Cur_one [curD c, I n] = some (.ret [.v (.bool b)] [curD c']) ∧ c'.ok (B + 2) := by
  rw [t_spec_l1Cur_one]
  obtain ⟨v, c1, e1, l1, u1, k1⟩ := d_pick c n B h hB hn
  exact ⟨_, c1, by simp [e1]; rfl, k1⟩
abbrev intsD (l : List Int) : D := .arr 1 (l.map I)
theorem d_among (c : Cur) (l : List Int) (B : Nat) (h : c.ok B) (hB : B ≤ 100000000000) (hl : l ≠ []) (hn : l.length ≤ 1000000000) : ∃ v c', F_spec_l1Cur_among [curD c, intsD l] = some (.ret [I v] [curD c']) ∧ v ∈ l ∧ c'.ok (B + 2) := by
  rw [t_spec_l1Cur_among]
  have hp : 0 < l.length := List.length_pos_iff.2 hl
  obtain ⟨v, c1, e1, l1, u1, k1⟩ := d_pick c l.length B h hB (by omega)
  obtain ⟨i, rfl⟩ := Int.eq_ofNat_of_zero_le l1
  have hi : i < l.length := by omega
  exact ⟨l[i], c1, by simp [e1, hi], List.getElem_mem hi, k1⟩

end Go.Proofs.YtfjkapnonljdeaaGreatDoor
/-
  Draws of notes.
-/
namespace Go.Proofs.YtfjkapnonljdeaaGreatDoor
open Go Go.V
set_option linter.unusedSimpArgs false

theorem isV_nt (x : Nt) : (nt x).isV = true := rfl
theorem nts_app (l m : List Nt) (h : l.length + m.length ≤ 1048577) : appD 3 24 (nts l) (nts m) = some (nts (l ++ m)) := by
  rw [appD_eq, if_pos (by simp only [List.length_map]; omega)]
  simp
theorem Cur.ok.mono {c : Cur} {B C : Nat} (h : c.ok B) (hBC : B ≤ C) : c.ok C := ⟨h.by_, h.len, Nat.le_trans h.at_ hBC, h.lo, h.hi⟩
theorem bldD3 {a b c : Int} : bldD [(0, 1), (1, 1), (2, 1)] [I 0, I 0, I 0] [I a, I b, I c] = some (.agg [I a, I b, I c]) := by
  simp [bldD, fillD]
theorem mkInts {l : List Int} : mkArr 1 (l.map I) = some (intsD l) := by
  have : lenOkD 1 (l.map I).length (l.map I) = true := by
    unfold lenOkD
    simp
  simp only [mkArr, this, if_true]
theorem d_note (c : Cur) (d : Int) (B : Nat) (h : c.ok B) (hB : B ≤ 10000000000) : ∃ (x : Nt) (c' : Cur), F_spec_l1Cur_note [curD c, I d] = some (.ret [nt x] [curD c']) ∧ c'.ok (B + 8) := by
  obtain ⟨v1, c1, e1, l1, u1, k1⟩ := d_pick c 4 B h (by omega) (by omega)
  obtain ⟨v2, c2, e2, l2, u2, k2⟩ := d_pick c1 500 _ k1 (by omega) (by omega)
  obtain ⟨v3, c3, e3, l3, u3, k3⟩ := d_pick c2 60 _ k2 (by omega) (by omega)
  have hw : IntKind.i64.wrap (1 + v2) = 1 + v2 := wrap_id (by omega) (by omega)
  have m1 := mkInts (l := [-1, 9999, 10000])
  have m2 := mkInts (l := [-1, 4])
  have m3 := mkInts (l := [0, 99999, 100000, -9223372036854775808])
  simp only [List.map_cons, List.map_nil] at m1 m2 m3
  rw [t_spec_l1Cur_note]
  by_cases h0 : v3 = 0
  · obtain ⟨v4, c4, e4, l4, k4⟩ := d_among c3 [-1, 9999, 10000] _ k3 (by omega) (by simp) (by simp)
    exact ⟨(v4, v1, 1 + v2), c4, by simp -implicitDefEqProofs [e1, e2, e3, hw, bldD3, h0, m1, e4, -List.map_cons], k4.mono (by omega)⟩
  by_cases h1 : v3 = 1
  · obtain ⟨v4, c4, e4, l4, k4⟩ := d_among c3 [-1, 4] _ k3 (by omega) (by simp) (by simp)
    exact ⟨(d, v4, 1 + v2), c4, by simp -implicitDefEqProofs [e1, e2, e3, hw, bldD3, h0, h1, m2, e4, -List.map_cons], k4.mono (by omega)⟩
  by_cases h2 : v3 = 2
  · obtain ⟨v4, c4, e4, l4, k4⟩ := d_among c3 [0, 99999, 100000, -9223372036854775808] _ k3 (by omega) (by simp) (by simp)
    exact ⟨(d, v1, v4), c4, by simp -implicitDefEqProofs [e1, e2, e3, hw, bldD3, h0, h1, h2, m3, e4, -List.map_cons], k4.mono (by omega)⟩
  exact ⟨(d, v1, 1 + v2), c3, by simp -implicitDefEqProofs [e1, e2, e3, hw, bldD3, h0, h1, h2], k3.mono (by omega)⟩

theorem d_notes (c : Cur) (B : Nat) (h : c.ok B) (hB : B ≤ 1000000000) : ∃ (l : List Nt) (c' : Cur), F_spec_l1Cur_notes [curD c] = some (.ret [nts l] [curD c']) ∧ l.length ≤ 25 ∧ c'.ok (B + 500) := by
  obtain ⟨v1, c1, e1, l1, u1, k1⟩ := d_pick c 5 B h (by omega) (by omega)
  obtain ⟨v2, c2, e2, l2, u2, k2⟩ := d_pick c1 6 _ k1 (by omega) (by omega)
  obtain ⟨b, c3, e3, k3⟩ := d_one c2 12 _ k2 (by omega) (by omega)
  rw [t_spec_l1Cur_notes]
  cases b
  · simp -implicitDefEqProofs only [liveD_agg, Option.bind_some, ref0_eq, e1, e2, e3, callK_ret, sl_zero, ifD_B, Bool.false_eq_true, if_false]
    refine loop_wf_bind (fun X => ∃ l c', X = some (.ret [nts l] [curD c']) ∧ l.length ≤ 25 ∧ c'.ok (B + 500)) (fun a : Cur × List Nt × Int => [curD a.1, nts a.2.1, I a.2.2, I v2]) (fun a => a.1.ok (B + 8 + 10 * a.2.1.length) ∧ (a.2.1.length : Int) ≤ v2) (fun a => 25 - a.2.1.length) (fun o => ∃ (c' : Cur) (l : List Nt), o = .ext 0 [curD c', nts l, I v2] ∧ c'.ok (B + 400) ∧ (l.length : Int) = v2) (fun a hI => ?_) (c3, [], v1) ⟨k3.mono (by simp), by simp; omega⟩ rfl (fun o ho => ?_)
    · obtain ⟨ca, la, da⟩ := a
      obtain ⟨hI1, hI2⟩ := hI
      simp only at hI1 hI2
      by_cases hlt : (la.length : Int) < v2
      · obtain ⟨x, ca1, x1, x2⟩ := d_note ca da _ hI1 (by omega)
        obtain ⟨w, ca2, y1, y2, y3, y4⟩ := d_pick ca1 3 _ x2 (by omega) (by omega)
        have ha := nts_app la [x] (by simp only [List.length_singleton]; omega)
        have hm : mkArr 3 [nt x] = some (nts [x]) := by simp [mkArr, lenOkD]
        have hc : chkA (nts [x]) = some (nts [x]) := chkA_map isV_nt
        refine .inl ⟨(ca2, la ++ [x], IntKind.i64.wrap (da + w)), ?_, ⟨y4.mono (by simp; omega), by simp; omega⟩, by simp; omega⟩
        simp -implicitDefEqProofs [hlt, x1, y1, hm, hc, ha, -appD_eq]
      · refine .inr ⟨.ext 0 [curD ca, nts la, I v2], ?_, rfl, ca, la, rfl, hI1.mono (by omega), by omega⟩
        simp -implicitDefEqProofs [hlt]
    · obtain ⟨cb, lb, rfl, g1, g2⟩ := ho
      by_cases hgt : 1 < v2
      · obtain ⟨bb, cb1, z1, z2⟩ := d_one cb 16 _ g1 (by omega) (by omega)
        have hw : IntKind.i64.wrap (v2 - 1) = ((lb.length - 1 : Nat) : Int) := by rw [wrap_id (by omega) (by omega)]; omega
        have hlb : lb.length - 1 < lb.length := by omega
        cases bb
        · refine ⟨lb, cb1, ?_, by omega, z2.mono (by omega)⟩
          simp -implicitDefEqProofs [hgt, z1]
        · refine ⟨lb.set (lb.length - 1) (0, (lb[lb.length - 1]).2.1, (lb[lb.length - 1]).2.2), cb1, ?_, by simp; omega, z2.mono (by omega)⟩
          have hs := stD_part (z := 3) (L := lb.map nt) (i := lb.length - 1) (f := 0) (v := .int .i64 0) (c := [I (lb[lb.length - 1]).1, I (lb[lb.length - 1]).2.1, I (lb[lb.length - 1]).2.2]) (by simp [hlb]) (by simp)
          simp -implicitDefEqProofs [hgt, z1, hw, hlb, hs, List.map_set]
      · refine ⟨lb, cb, ?_, by omega, g1.mono (by omega)⟩
        simp -implicitDefEqProofs [hgt]
  · obtain ⟨v4, c4, e4, l4, u4, k4⟩ := d_pick c3 2 _ k3 (by omega) (by omega)
    have hw4 : IntKind.i64.wrap (24 + v4) = 24 + v4 := wrap_id (by omega) (by omega)
    simp -implicitDefEqProofs only [liveD_agg, Option.bind_some, ref0_eq, e1, e2, e3, e4, callK_ret, sl_zero, ifD_B, if_true, bin_add, hw4]
    refine loop_wf_bind (fun X => ∃ l c', X = some (.ret [nts l] [curD c']) ∧ l.length ≤ 25 ∧ c'.ok (B + 500)) (fun a : Cur × List Nt × Int => [curD a.1, nts a.2.1, I a.2.2, I (24 + v4)]) (fun a => a.1.ok (B + 8 + 10 * a.2.1.length) ∧ (a.2.1.length : Int) ≤ (24 + v4)) (fun a => 25 - a.2.1.length) (fun o => ∃ (c' : Cur) (l : List Nt), o = .ext 0 [curD c', nts l, I (24 + v4)] ∧ c'.ok (B + 400) ∧ (l.length : Int) = (24 + v4)) (fun a hI => ?_) (c4, [], v1) ⟨k4.mono (by simp), by simp; omega⟩ rfl (fun o ho => ?_)
    · obtain ⟨ca, la, da⟩ := a
      obtain ⟨hI1, hI2⟩ := hI
      simp only at hI1 hI2
      by_cases hlt : (la.length : Int) < (24 + v4)
      · obtain ⟨x, ca1, x1, x2⟩ := d_note ca da _ hI1 (by omega)
        obtain ⟨w, ca2, y1, y2, y3, y4⟩ := d_pick ca1 3 _ x2 (by omega) (by omega)
        have ha := nts_app la [x] (by simp only [List.length_singleton]; omega)
        have hm : mkArr 3 [nt x] = some (nts [x]) := by simp [mkArr, lenOkD]
        have hc : chkA (nts [x]) = some (nts [x]) := chkA_map isV_nt
        refine .inl ⟨(ca2, la ++ [x], IntKind.i64.wrap (da + w)), ?_, ⟨y4.mono (by simp; omega), by simp; omega⟩, by simp; omega⟩
        simp -implicitDefEqProofs [hlt, x1, y1, hm, hc, ha, -appD_eq]
      · refine .inr ⟨.ext 0 [curD ca, nts la, I (24 + v4)], ?_, rfl, ca, la, rfl, hI1.mono (by omega), by omega⟩
        simp -implicitDefEqProofs [hlt]
    · obtain ⟨cb, lb, rfl, g1, g2⟩ := ho
      by_cases hgt : 1 < (24 + v4)
      · obtain ⟨bb, cb1, z1, z2⟩ := d_one cb 16 _ g1 (by omega) (by omega)
        have hw : IntKind.i64.wrap ((24 + v4) - 1) = ((lb.length - 1 : Nat) : Int) := by rw [wrap_id (by omega) (by omega)]; omega
        have hlb : lb.length - 1 < lb.length := by omega
        cases bb
        · refine ⟨lb, cb1, ?_, by omega, z2.mono (by omega)⟩
          simp -implicitDefEqProofs [hgt, z1]
        · refine ⟨lb.set (lb.length - 1) (0, (lb[lb.length - 1]).2.1, (lb[lb.length - 1]).2.2), cb1, ?_, by simp; omega, z2.mono (by omega)⟩
          have hs := stD_part (z := 3) (L := lb.map nt) (i := lb.length - 1) (f := 0) (v := .int .i64 0) (c := [I (lb[lb.length - 1]).1, I (lb[lb.length - 1]).2.1, I (lb[lb.length - 1]).2.2]) (by simp [hlb]) (by simp)
          simp -implicitDefEqProofs [hgt, z1, hw, hlb, hs, List.map_set]
      · refine ⟨lb, cb, ?_, by omega, g1.mono (by omega)⟩
        simp -implicitDefEqProofs [hgt]

end Go.Proofs.YtfjkapnonljdeaaGreatDoor
/-
  Draws of metal, of notes of days, of checks; the law of metals.
-/
namespace Go.Proofs.YtfjkapnonljdeaaGreatDoor
open Go Go.V
set_option linter.unusedSimpArgs false

theorem bin_neq_nt (x : Nt) : bin .neq false [1, 1, 1] (nt x) (nt x) = some (B false) := by
  simp [bin, allEq]
theorem e_laws_pSameNotes (l : List Nt) (h : l.length ≤ 1048577) : F_laws_pSameNotes [nts l, nts l] = some (.ret [B true] []) := by
  rw [t_laws_pSameNotes]
  simp only [lenD_arr, List.length_map, Option.bind_some, bin_neq, decide_true, Bool.not_true, ifD_B, Bool.false_eq_true, if_false]
  refine loop_bind _ (loop_for l.length (fun i => [nts l, nts l, I l.length, I i]) (.ext 0 []) (fun i hi => ?_) ?_ rfl rfl) ?_
  · have hw : IntKind.i64.wrap ((i : Int) + 1) = (i : Int) + 1 := wrap_id (by omega) (by omega)
    have hb := bin_neq_nt l[i]
    simp -implicitDefEqProofs [hi, hb, hw]
  · simp
  · simp

theorem e_laws_big (a b : List Int) : ∃ p : Bool, F_laws_big [bytesD a, bytesD b] = some (.ret [B p] []) ∧ (p = false → a.length ≤ 1048576 ∧ b.length ≤ 1048576) := by
  rw [t_laws_big]
  by_cases h1 : 1048576 < (a.length : Int)
  · exact ⟨true, by simp [h1], fun h => by cases h⟩
  have hw : IntKind.i64.wrap (1048576 - (a.length : Int)) = 1048576 - (a.length : Int) := wrap_id (by omega) (by omega)
  by_cases h2 : 1048576 - (a.length : Int) < (b.length : Int)
  · exact ⟨true, by simp [h1, h2, hw], fun h => by cases h⟩
  · exact ⟨false, by simp [h1, h2, hw], fun _ => by omega⟩

theorem bldCur (l : List Int) : bldD [(0, 1)] [D.arr 1 [], I 0, D.v (.int .u64 0)] [bytesD l] = some (.agg [bytesD l, I 0, D.v (.int .u64 0)]) := by
  simp [bldD, fillD]
structure Bytes (l : List Int) : Prop where
  by_ : ∀ n ∈ l, 0 ≤ n ∧ n ≤ 255
  len : l.length ≤ 1048576
theorem cur0 {l : List Int} (h : Bytes l) : Cur.ok ⟨l, 0, 0⟩ 0 := ⟨h.by_, h.len, Nat.le_refl _, Int.le_refl 0, show (0 : Int) < 18446744073709551616 by decide⟩

abbrev curZ (l : List Int) : D := .agg [bytesD l, I 0, .v (.int .u64 0)]
theorem d_notes0 (l : List Int) (h : Bytes l) : ∃ (m : List Nt) (c' : Cur), F_spec_l1Cur_notes [curZ l] = some (.ret [nts m] [curD c']) ∧ m.length ≤ 25 ∧ c'.ok 500 := d_notes ⟨l, 0, 0⟩ 0 (cur0 h) (by omega)
theorem d_pick0 (l : List Int) (h : Bytes l) (n : Int) (hn : n ≤ 1000000000) : ∃ (v : Int) (c' : Cur), F_spec_l1Cur_pick [curZ l, I n] = some (.ret [I v] [curD c']) ∧ 0 ≤ v ∧ (v < n ∨ v = 0) ∧ c'.ok 2 := d_pick ⟨l, 0, 0⟩ n 0 (cur0 h) (by omega) hn
end Go.Proofs.YtfjkapnonljdeaaGreatDoor
/-
  Journals: what the law asks of them.
-/
namespace Go.Proofs.YtfjkapnonljdeaaGreatDoor
open Go Go.V
set_option linter.unusedSimpArgs false

theorem jt_ok {l : List Nt} (h : (jtS l).2 = true) : goodN l = true ∧ (jT l 7).size ≤ 300 ∧ jtS l = (jT l 7, true) := by
  unfold jtS at h ⊢
  by_cases hc : goodN l = true ∧ (jT l 7).size ≤ 300
  · rw [if_pos hc]
    exact ⟨hc.1, hc.2, rfl⟩
  · rw [if_neg hc] at h
    cases h
theorem jt_of {l : List Nt} (h : goodN l = true) (hz : (jT l 7).size ≤ 300) : jtS l = (jT l 7, true) := by
  unfold jtS
  rw [if_pos ⟨h, hz⟩]
theorem jr_jT {l : List Nt} (h : goodN l = true) (hz : (jT l 7).size ≤ 300) : jrS (jT l 7) = (l, true) := by
  unfold jrS
  rw [jo_jT h, if_pos ⟨hz, rfl⟩]
theorem jT_snoc (m : List Nt) (x : Nt) : chars (jT (m ++ [x]) 7) = chars (jT m 7) ++ (lnL x (ckN (ckL m 7) x) ++ [10]) := by
  rw [jT_append]
  simp only [jT, chars_append]
  rw [show chars (lnT x (ckN (ckL m 7) x)) = lnL x (ckN (ckL m 7) x) ++ [10] from chars_lnT x _, show chars ⟨#[]⟩ = [] from rfl, List.append_nil]
theorem jT_snoc_size (m : List Nt) (x : Nt) : (jT (m ++ [x]) 7).size = (jT m 7).size + ((lnL x (ckN (ckL m 7) x)).length + 1) := by
  rw [size_chars, jT_snoc, List.length_append, List.length_append, ← size_chars]
  rfl
theorem rec_cut {l : List Nt} (hg : goodN l = true) (hz : (jT l 7).size ≤ 300) (hne : 0 < (jT l 7).size) :
    ∃ m x, l = m ++ [x] ∧ recS ((jT l 7).extract 0 ((jT l 7).size - 1)) = (m, (jT m 7).size, true) ∧ (jT m 7).size < (jT l 7).size := by
  have hl : l ≠ [] := fun e => by rw [e] at hne; exact absurd hne (Nat.lt_irrefl _)
  obtain ⟨m, x, rfl⟩ : ∃ m x, l = m ++ [x] := ⟨l.dropLast, l.getLast hl, (List.dropLast_concat_getLast hl).symm⟩
  have hx := (good_all hg).1 x (by simp)
  have h1 := jT_snoc m x
  have h2 := jT_snoc_size m x
  refine ⟨m, x, rfl, ?_, by omega⟩
  have hch : chars ((jT (m ++ [x]) 7).extract 0 ((jT (m ++ [x]) 7).size - 1)) = chars (jT m 7) ++ lnL x (ckN (ckL m 7) x) := by
    rw [chars_extract, List.drop_zero, h1, h2, ← List.append_assoc]
    refine List.take_left' ?_
    rw [List.length_append, ← size_chars]
    omega
  have hj := jo_cut (goodN_pre hg) hch (no10 hx (ckN_range _ _))
  unfold recS
  rw [hj, if_pos (by rw [ByteArray.size_extract]; omega)]
theorem jt_rec {s : ByteArray} (hs : s.size ≤ 300) : jtS (jo s).1 = (s.extract 0 (jo s).2, true) := by
  obtain ⟨h1, h2, r, h3⟩ := jo_spec s
  have hu := jo_used s
  rw [jt_of h1 (by omega)]
  have : s.extract 0 (jo s).2 = jT (jo s).1 7 := by
    apply chars_inj
    rw [chars_extract, List.drop_zero, h3, ← h2]
    exact List.take_left' rfl
  rw [this]
theorem jr_text {u : ByteArray} {l : List Nt} (h : jrS u = (l, true)) : goodN l = true ∧ u = jT l 7 := by
  unfold jrS at h
  by_cases hc : u.size ≤ 300 ∧ (jo u).2 = u.size
  · rw [if_pos hc] at h
    obtain ⟨h1, h2, r, h3⟩ := jo_spec u
    cases h
    refine ⟨h1, ?_⟩
    have hr : r = [] := by
      have := congrArg List.length h3
      rw [List.length_append, ← size_chars, ← size_chars, h2, hc.2] at this
      exact List.length_eq_zero_iff.1 (by omega)
    apply chars_inj
    rw [h3, hr, List.append_nil]
  · rw [if_neg hc] at h
    cases h
theorem an_ok {u : ByteArray} {x : Nt} (h : (anS u x).2 = true) : ∃ l, jrS u = (l, true) ∧ l.length ≤ 24 ∧ sameS u (anS u x).1 = ((l.length : Int), true) ∧ u.size ≤ (anS u x).1.size ∧ (anS u x).1.extract 0 u.size = u := by
  have hlen := jrS_len u
  unfold anS at h ⊢
  by_cases hp : (jrS u).2 = true
  · rw [if_pos hp] at h ⊢
    obtain ⟨l, hl⟩ : ∃ l, jrS u = (l, true) := ⟨(jrS u).1, by rw [← hp]⟩
    rw [hl] at h hlen ⊢
    simp only at h hlen ⊢
    obtain ⟨g1, g2, g3⟩ := jt_ok h
    obtain ⟨g4, g5⟩ := jr_text hl
    rw [g3]
    have h2 := jT_snoc_size l x
    refine ⟨l, rfl, hlen, ?_, ?_, ?_⟩
    · unfold sameS
      rw [hl, jr_jT g1 g2]
      simp [cmn_append]
    · rw [g5]
      simp only
      omega
    · rw [g5]
      apply chars_inj
      rw [chars_extract, List.drop_zero]
      simp only
      rw [jT_snoc]
      exact List.take_left' rfl
  · rw [if_neg hp] at h
    cases h
end Go.Proofs.YtfjkapnonljdeaaGreatDoor
/-
  Draws of texts.
-/
namespace Go.Proofs.YtfjkapnonljdeaaGreatDoor
open Go Go.V
set_option linter.unusedSimpArgs false

theorem char_at {w : ByteArray} {i : Nat} (h : i < w.size) : ∃ b : UInt8, charD (T w) (I (i : Int)) = some (U (b.toNat : Int)) := by
  have h' : i < (chars w).length := h
  refine ⟨(chars w)[i]'h', ?_⟩
  rw [charD_nat, List.getElem?_eq_getElem h']
  rfl
theorem str_byte (b : UInt8) : strD (.arr 1 [U (b.toNat : Int)]) = some (T ⟨#[b]⟩) := by
  have : bytesOf [U (b.toNat : Int)] = some [b] := by simp [bytesOf]
  simp only [strD, this, Option.map_some]
theorem mkU (n : Int) : mkArr 1 [U n] = some (.arr 1 [U n]) := by simp [mkArr, lenOkD]
theorem add_small {a b : ByteArray} (h : a.size + b.size ≤ 100000000) : bin .add false [] (T a) (T b) = some (T (a ++ b)) := by
  rw [bin_addS, if_pos (by omega)]
theorem size_ext (s : ByteArray) (i j : Nat) : (s.extract i j).size = min j s.size - i := by rw [ByteArray.size_extract]
theorem d_spoilt (c : Cur) (s w : ByteArray) (B : Nat) (h : c.ok B) (hB : B ≤ 1000000000) (hs : s.size ≤ 100000) (hw : 0 < w.size ∧ w.size ≤ 100) :
    ∃ (t : ByteArray) (c' : Cur), F_spec_l1Cur_spoilt [curD c, T s, T w] = some (.ret [T t] [curD c']) ∧ t.size ≤ s.size + 2 ∧ c'.ok (B + 20) := by
  obtain ⟨v, c1, e1, l1, u1, k1⟩ := d_pick c 2 B h (by omega) (by omega)
  obtain ⟨v, rfl⟩ := Int.eq_ofNat_of_zero_le l1
  have hw1 : IntKind.i64.wrap (1 + (v : Int)) = ((1 + v : Nat) : Int) := by rw [wrap_id (by omega) (by omega)]; omega
  rw [t_spec_l1Cur_spoilt]
  simp -implicitDefEqProofs only [liveD_agg, Option.bind_some, ref0_eq, e1, callK_ret, sl_zero, bin_add, hw1]
  refine loop_wf_bind (fun X => ∃ t c', X = some (.ret [T t] [curD c']) ∧ t.size ≤ s.size + 2 ∧ c'.ok (B + 20)) (fun a : Cur × ByteArray × Nat => [curD a.1, T a.2.1, T w, I (a.2.2 : Int)])
    (fun a => a.1.ok (B + 2 + 6 * (2 - a.2.2)) ∧ a.2.2 ≤ 2 ∧ a.2.1.size + a.2.2 ≤ s.size + 2) (fun a => a.2.2) (fun o => ∃ t c', o = .ext 0 [curD c', T t] ∧ t.size ≤ s.size + 2 ∧ c'.ok (B + 20)) ?_ (c1, s, 1 + v) ⟨k1.mono (by simp only; omega), by simp only; omega, by simp only; omega⟩ rfl ?_
  · rintro ⟨ca, t, n⟩ ⟨h1, h2, h3⟩
    simp only at h1 h2 h3
    by_cases hn : 0 < n
    case neg =>
      have hn' : ¬ (0 : Int) < (n : Int) := by omega
      refine .inr ⟨_, ?_, rfl, t, ca, rfl, by omega, h1.mono (by omega)⟩
      simp -implicitDefEqProofs only [sl_zero, sl_succ, bin_gtr, hn', decide_false, Option.bind_some, gate_t, gate_s, Bool.false_eq_true, if_false, pickD_B, ifD_B]
    have hn' : (0 : Int) < (n : Int) := by omega
    by_cases ht : 0 < t.size
    case neg =>
      have ht' : ¬ (0 : Int) < (t.size : Int) := by omega
      refine .inr ⟨_, ?_, rfl, t, ca, rfl, by omega, h1.mono (by omega)⟩
      simp -implicitDefEqProofs only [sl_zero, sl_succ, bin_gtr, hn', ht', decide_true, decide_false, lenD_str, Option.bind_some, gate_t, gate_s, Bool.false_eq_true, if_false, if_true, pickD_B, ifD_B]
    have ht' : (0 : Int) < (t.size : Int) := by omega
    obtain ⟨i, c2, e2, l2, u2, k2⟩ := d_pick ca (t.size : Int) _ h1 (by omega) (by omega)
    obtain ⟨i, rfl⟩ := Int.eq_ofNat_of_zero_le l2
    obtain ⟨j, c3, e3, l3, u3, k3⟩ := d_pick c2 (w.size : Int) _ k2 (by omega) (by omega)
    obtain ⟨j, rfl⟩ := Int.eq_ofNat_of_zero_le l3
    obtain ⟨b, hb⟩ := char_at (w := w) (i := j) (by omega)
    obtain ⟨k, c4, e4, l4, u4, k4⟩ := d_pick c3 3 _ k3 (by omega) (by omega)
    have hwn : IntKind.i64.wrap ((n : Int) - 1) = ((n - 1 : Nat) : Int) := by rw [wrap_id (by omega) (by omega)]; omega
    have hwi : IntKind.i64.wrap ((i : Int) + 1) = ((i + 1 : Nat) : Int) := by rw [wrap_id (by omega) (by omega)]; omega
    have s1 : sliceD true 0 (T t) (I 0) (I (i : Int)) = some (T (t.extract 0 i)) := sliceS (i := 0) (Nat.zero_le _) (by omega)
    have s2 : sliceHi true 0 (T t) (I (i : Int)) = some (T (t.extract i t.size)) := sliceHiS (by omega)
    have s3 : sliceHi true 0 (T t) (I ((i + 1 : Nat) : Int)) = some (T (t.extract (i + 1) t.size)) := sliceHiS (by omega)
    have z1 := size_ext t 0 i
    have z2 := size_ext t i t.size
    have z3 := size_ext t (i + 1) t.size
    have sb : (⟨#[b]⟩ : ByteArray).size = 1 := rfl
    have a1 := add_small (a := t.extract 0 i) (b := ⟨#[b]⟩) (by omega)
    have a2 := add_small (a := t.extract 0 i ++ ⟨#[b]⟩) (b := t.extract i t.size) (by rw [ByteArray.size_append]; omega)
    have a3 := add_small (a := t.extract 0 i ++ ⟨#[b]⟩) (b := t.extract (i + 1) t.size) (by rw [ByteArray.size_append]; omega)
    have a4 := add_small (a := t.extract 0 i) (b := t.extract (i + 1) t.size) (by omega)
    left
    by_cases q0 : k = 0
    · refine ⟨(c4, t.extract 0 i ++ ⟨#[b]⟩ ++ t.extract i t.size, n - 1), ?_, ⟨k4.mono (by simp only; omega), by simp only; omega, by simp only [ByteArray.size_append]; omega⟩, by simp only; omega⟩
      simp -implicitDefEqProofs only [sl_zero, sl_succ, bin_gtr, hn', ht', decide_true, lenD_str, Option.bind_some, gate_t, if_true, pickD_B, ifD_B, liveD_agg, ref0_eq, e2, e3, e4, callK_ret, hb, mkU, str_byte, bin_eql, q0, s1, s2, a1, a2, bin_sub, hwn]
    by_cases q1 : k = 1
    · refine ⟨(c4, t.extract 0 i ++ ⟨#[b]⟩ ++ t.extract (i + 1) t.size, n - 1), ?_, ⟨k4.mono (by simp only; omega), by simp only; omega, by simp only [ByteArray.size_append]; omega⟩, by simp only; omega⟩
      simp -implicitDefEqProofs only [sl_zero, sl_succ, bin_gtr, hn', ht', decide_true, decide_false, Bool.false_eq_true, if_false, lenD_str, Option.bind_some, gate_t, if_true, pickD_B, ifD_B, liveD_agg, ref0_eq, e2, e3, e4, callK_ret, hb, mkU, str_byte, bin_eql, q0, q1, show ¬ (1 : Int) = 0 by decide, s1, s3, a1, a3, bin_sub, bin_add, hwi, hwn]
    · refine ⟨(c4, t.extract 0 i ++ t.extract (i + 1) t.size, n - 1), ?_, ⟨k4.mono (by simp only; omega), by simp only; omega, by simp only [ByteArray.size_append]; omega⟩, by simp only; omega⟩
      simp -implicitDefEqProofs only [sl_zero, sl_succ, bin_gtr, hn', ht', decide_true, decide_false, Bool.false_eq_true, if_false, lenD_str, Option.bind_some, gate_t, if_true, pickD_B, ifD_B, liveD_agg, ref0_eq, e2, e3, e4, callK_ret, hb, mkU, str_byte, bin_eql, q0, q1, s1, s3, a4, bin_sub, bin_add, hwi, hwn]
  · rintro o ⟨t, c', rfl, g1, g2⟩
    refine ⟨t, c', ?_, g1, g2⟩
    simp -implicitDefEqProofs only [outK_ext, Nat.beq_refl, ifN_B, if_true, sl_zero, sl_succ, liveD_agg, Option.bind_some]
end Go.Proofs.YtfjkapnonljdeaaGreatDoor
/-
  Draws of journals.
-/
namespace Go.Proofs.YtfjkapnonljdeaaGreatDoor
open Go Go.V
set_option linter.unusedSimpArgs false

theorem jT_size : ∀ (l : List Nt) (c : Int), (∀ x ∈ l, isNt x = true) → (jT l c).size ≤ 44 * l.length
  | [], _, _ => Nat.le_refl _
  | x :: l, c, h => by
    have h1 := lnT_size (h x (by simp)) (ckN_range c x)
    have h2 := jT_size l (ckN c x) (fun y hy => h y (by simp [hy]))
    simp only [jT, ByteArray.size_append, List.length_cons]
    omega
theorem e_spec_l1Least (a b : Int) : F_spec_l1Least [I a, I b] = some (.ret [I (if a < b then a else b)] []) := by
  rw [t_spec_l1Least]
  by_cases h : a < b <;> simp -implicitDefEqProofs [h]
theorem d_of (c : Cur) (l : List ByteArray) (B : Nat) (h : c.ok B) (hB : B ≤ 10000000000) (hl : 0 < l.length) (hl2 : l.length ≤ 1000) : ∃ (t : ByteArray) (c' : Cur), F_spec_l1Cur_of [curD c, .arr 1 (l.map T)] = some (.ret [T t] [curD c']) ∧ t ∈ l ∧ c'.ok (B + 2) := by
  obtain ⟨v, c1, e1, l1, u1, k1⟩ := d_pick c (l.length : Int) B h (by omega) (by omega)
  obtain ⟨v, rfl⟩ := Int.eq_ofNat_of_zero_le l1
  have hv : v < l.length := by omega
  refine ⟨l[v], c1, ?_, List.getElem_mem hv, k1⟩
  rw [t_spec_l1Cur_of]
  have hel : elemD 1 (.arr 1 (l.map T)) (I (v : Int)) = some [T l[v]] := by simp [hv]
  simp -implicitDefEqProofs only [liveD_agg, Option.bind_some, lenD_arr, List.length_map, ref0_eq, e1, callK_ret, sl_zero, hel, Option.map_some, ldD_ptr, takeD_f, chkV_v]
theorem d_book (c : Cur) (B : Nat) (h : c.ok B) (hB : B ≤ 100000000) : ∃ (s : ByteArray) (c' : Cur), F_spec_l1Cur_book [curD c] = some (.ret [T s] [curD c']) ∧ s.size ≤ 2000 ∧ c'.ok (B + 1000) := by
  obtain ⟨l0, c1, e1, hl0, k1⟩ := d_notes c B h (by omega)
  rw [t_spec_l1Cur_book]
  simp -implicitDefEqProofs only [liveD_agg, Option.bind_some, ref0_eq, e1, callK_ret, sl_zero]
  refine loop_wf_bind (fun X => ∃ s c', X = some (.ret [T s] [curD c']) ∧ s.size ≤ 2000 ∧ c'.ok (B + 1000)) (fun l : List Nt => [curD c1, nts l]) (fun l => l.length ≤ 25) (fun l => l.length) (fun o => ∃ l, o = .ext 0 [curD c1, nts l] ∧ goodN l = true) ?_ l0 hl0 rfl ?_
  · intro l hl
    have hg := e_spec_joGood l (by omega)
    cases hgd : goodN l
    · left
      have hne : l ≠ [] := fun e => by rw [e] at hgd; cases hgd
      have hpos := List.length_pos_iff.2 hne
      have hw : IntKind.i64.wrap ((l.length : Int) - 1) = ((l.length - 1 : Nat) : Int) := by rw [wrap_id (by omega) (by omega)]; omega
      have hsl : sliceD false 3 (nts l) (I 0) (I ((l.length - 1 : Nat) : Int)) = some (nts (l.take (l.length - 1))) := by
        have := sliceD_nat (z := 3) (i := 0) (j := l.length - 1) (l := l.map nt) (k := .i64) (k' := .i64) (Nat.zero_le _) (by simp)
        rw [List.drop_zero, ← List.map_take] at this
        exact this
      refine ⟨l.take (l.length - 1), ?_, by rw [List.length_take]; omega, by rw [List.length_take]; omega⟩
      simp -implicitDefEqProofs only [sl_zero, sl_succ, hg, hgd, callK_ret, un_not, Bool.not_false, Option.bind_some, ifD_B, if_true, lenD_arr, List.length_map, bin_sub, hw, hsl]
    · right
      refine ⟨_, ?_, rfl, l, rfl, hgd⟩
      simp -implicitDefEqProofs only [sl_zero, sl_succ, hg, hgd, callK_ret, un_not, Bool.not_true, Option.bind_some, ifD_B, Bool.false_eq_true, if_false]
  · rintro o ⟨l, rfl, hg⟩
    obtain ⟨hall, hlen⟩ := good_all hg
    have hT := e_spec_joText l hall (by omega)
    have hz := jT_size l 7 hall
    generalize jT l 7 = s at hT hz
    obtain ⟨k, c2, e2, l2, u2, k2⟩ := d_pick c1 8 _ k1 (by omega) (by omega)
    simp -implicitDefEqProofs only [outK_ext, Nat.beq_refl, ifN_B, if_true, sl_zero, sl_succ, hT, callK_ret, liveD_agg, ref0_eq, Option.bind_some, e2, bin_eql]
    have f01 : ¬ (1 : Int) = 0 := by decide
    have f02 : ¬ (2 : Int) = 0 := by decide
    have f21 : ¬ (2 : Int) = 1 := by decide
    have f03 : ¬ (3 : Int) = 0 := by decide
    have f31 : ¬ (3 : Int) = 1 := by decide
    have f32 : ¬ (3 : Int) = 2 := by decide
    have f04 : ¬ (4 : Int) = 0 := by decide
    have f41 : ¬ (4 : Int) = 1 := by decide
    have f42 : ¬ (4 : Int) = 2 := by decide
    have f43 : ¬ (4 : Int) = 3 := by decide
    by_cases q0 : k = 0
    · obtain ⟨t, c3, e3, g1, g2⟩ := d_spoilt c2 s ⟨#[48, 32, 49, 10, 55]⟩ _ k2 (by omega) (by omega) ⟨by decide, by decide⟩
      have e3' : F_spec_l1Cur_spoilt [curD c2, T s, D.v (Value.string { data := { toList := [48, 32, 49, 10, 55] } })] = some (.ret [T t] [curD c3]) := e3
      refine ⟨t, c3, ?_, by omega, g2.mono (by omega)⟩
      simp -implicitDefEqProofs only [q0, decide_true, ifD_B, if_true, liveD_agg, ref0_eq, Option.bind_some, e3', callK_ret, sl_zero]
    have cut : ∀ p : Nat, p ≤ s.size → sliceD true 0 (T s) (I 0) (I ((s.size - p : Nat) : Int)) = some (T (s.extract 0 (s.size - p))) := fun p hp => sliceS (i := 0) (Nat.zero_le _) (by omega)
    obtain ⟨m, hm⟩ : ∃ m : Nat, (if (s.size : Int) < 30 then (s.size : Int) else 30) = (m : Int) ∧ m ≤ s.size := by
      by_cases hh : (s.size : Int) < 30
      · exact ⟨s.size, by rw [if_pos hh], Nat.le_refl _⟩
      · exact ⟨30, by rw [if_neg hh]; rfl, by omega⟩
    have hwm : IntKind.i64.wrap ((m : Int) + 1) = ((m + 1 : Nat) : Int) := by rw [wrap_id (by omega) (by omega)]; omega
    obtain ⟨p, c3, e3, l3, u3, k3⟩ := d_pick c2 ((m + 1 : Nat) : Int) _ k2 (by omega) (by omega)
    obtain ⟨p, rfl⟩ := Int.eq_ofNat_of_zero_le l3
    have hwp : IntKind.i64.wrap ((s.size : Int) - (p : Int)) = ((s.size - p : Nat) : Int) := by rw [wrap_id (by omega) (by omega)]; omega
    have hcut := cut p (by omega)
    have hzc := size_ext s 0 (s.size - p)
    by_cases q1 : k = 1
    · refine ⟨s.extract 0 (s.size - p), c3, ?_, by omega, k3.mono (by omega)⟩
      simp -implicitDefEqProofs only [q1, f01, decide_true, decide_false, Bool.false_eq_true, if_false, ifD_B, if_true, lenD_str, e_spec_l1Least, hm.1, bin_add, hwm, liveD_agg, ref0_eq, Option.bind_some, e3, callK_ret, sl_zero, bin_sub, hwp, hcut]
    by_cases q2 : k = 2
    · refine ⟨s.extract 0 (s.size - p), c3, ?_, by omega, k3.mono (by omega)⟩
      simp -implicitDefEqProofs only [q2, f02, f21, decide_true, decide_false, Bool.false_eq_true, if_false, ifD_B, if_true, lenD_str, e_spec_l1Least, hm.1, bin_add, hwm, liveD_agg, ref0_eq, Option.bind_some, e3, callK_ret, sl_zero, bin_sub, hwp, hcut]
    by_cases q3 : k = 3
    · obtain ⟨t, c4, e4, g1, g2⟩ := d_of c2 [⟨#[120]⟩, ⟨#[10]⟩, ⟨#[49, 32, 48, 32, 53, 32, 48, 10]⟩, ⟨#[32]⟩] _ k2 (by omega) (by decide) (by decide)
      have ht : t.size ≤ 8 := by
        simp only [List.mem_cons, List.not_mem_nil, or_false] at g1
        rcases g1 with rfl | rfl | rfl | rfl <;> decide
      have hmk : mkArr 1 [D.v (Value.string { data := { toList := [120] } }), D.v (Value.string { data := { toList := [10] } }), D.v (Value.string { data := { toList := [49, 32, 48, 32, 53, 32, 48, 10] } }), D.v (Value.string { data := { toList := [32] } })] =
        some (.arr 1 (([⟨#[120]⟩, ⟨#[10]⟩, ⟨#[49, 32, 48, 32, 53, 32, 48, 10]⟩, ⟨#[32]⟩] : List ByteArray).map T)) := by simp [mkArr, lenOkD]
      have ha := add_small (a := s) (b := t) (by omega)
      refine ⟨s ++ t, c4, ?_, by rw [ByteArray.size_append]; omega, g2.mono (by omega)⟩
      simp -implicitDefEqProofs only [q3, f03, f31, f32, decide_true, decide_false, Bool.false_eq_true, if_false, ifD_B, if_true, liveD_agg, ref0_eq, hmk, Option.bind_some, e4, callK_ret, sl_zero, ha]
    by_cases q4 : k = 4
    · obtain ⟨b, c4, e4, k4⟩ := d_one c2 4 _ k2 (by omega) (by omega)
      cases b
      · refine ⟨s, c4, ?_, by omega, k4.mono (by omega)⟩
        simp -implicitDefEqProofs only [q4, f04, f41, f42, f43, decide_true, decide_false, Bool.false_eq_true, if_false, ifD_B, if_true, liveD_agg, ref0_eq, Option.bind_some, e4, callK_ret, sl_zero]
      · obtain ⟨r, c5, e5, l5, u5, k5⟩ := d_pick c4 2 _ k4 (by omega) (by omega)
        obtain ⟨r, rfl⟩ := Int.eq_ofNat_of_zero_le l5
        have hwr : IntKind.i64.wrap (300 + (r : Int)) = ((300 + r : Nat) : Int) := by rw [wrap_id (by omega) (by omega)]; omega
        simp -implicitDefEqProofs only [q4, f04, f41, f42, f43, decide_true, decide_false, Bool.false_eq_true, if_false, ifD_B, if_true, liveD_agg, ref0_eq, Option.bind_some, e4, e5, callK_ret, sl_zero, bin_add, hwr]
        refine loop_wf_bind (fun X => ∃ s c', X = some (.ret [T s] [curD c']) ∧ s.size ≤ 2000 ∧ c'.ok (B + 1000)) (fun t : ByteArray => [curD c5, T t, I ((300 + r : Nat) : Int)]) (fun t => t.size ≤ 2000) (fun t => 300 + r - t.size) (fun o => ∃ t, o = .ext 3 [curD c5, T t] ∧ t.size ≤ 2000) ?_ s (by omega) rfl ?_
        · intro t ht
          by_cases hlt : t.size < 300 + r
          · have hlt' : (t.size : Int) < ((300 + r : Nat) : Int) := by omega
            have ha : bin BinOp.add false [] (T t) (D.v (Value.string { data := { toList := [120] } })) = some (T (t ++ ⟨#[120]⟩)) := add_small (a := t) (b := ⟨#[120]⟩) (by rw [sz1]; omega)
            refine .inl ⟨t ++ ⟨#[120]⟩, ?_, by rw [ByteArray.size_append, sz1]; omega, by rw [ByteArray.size_append, sz1]; omega⟩
            simp -implicitDefEqProofs only [sl_zero, sl_succ, lenD_str, Option.bind_some, bin_lss, hlt', decide_true, ifD_B, if_true, ha]
          · have hlt' : ¬ (t.size : Int) < ((300 + r : Nat) : Int) := by omega
            refine .inr ⟨_, ?_, rfl, t, rfl, ht⟩
            simp -implicitDefEqProofs only [sl_zero, sl_succ, lenD_str, Option.bind_some, bin_lss, hlt', decide_false, ifD_B, Bool.false_eq_true, if_false]
        · rintro o ⟨t, rfl, ht⟩
          refine ⟨t, c5, ?_, ht, k5.mono (by omega)⟩
          simp -implicitDefEqProofs only [outK_ext, Nat.beq_refl, ifN_B, if_true, sl_zero, sl_succ, liveD_agg, Option.bind_some]
    · refine ⟨s, c2, ?_, by omega, k2.mono (by omega)⟩
      simp -implicitDefEqProofs only [q0, q1, q2, q3, q4, decide_false, Bool.false_eq_true, if_false, ifD_B, liveD_agg, Option.bind_some]
end Go.Proofs.YtfjkapnonljdeaaGreatDoor
/-
  The law's draws.
-/
namespace Go.Proofs.YtfjkapnonljdeaaGreatDoor
open Go Go.V
set_option linter.unusedSimpArgs false

theorem box_cur (l : List Int) : boxD 3 (.agg [bytesD l, I 0, D.v (.int .u64 0)]) = some (curZ l) := by simp
theorem d_DrawJournalText (l : List Int) (h : Bytes l) : ∃ m : List Nt, F_spec_DrawJournalText [bytesD l] = some (.ret [nts m] []) ∧ m.length ≤ 25 := by
  obtain ⟨m, c1, e1, g1, k1⟩ := d_notes0 l h
  refine ⟨m, ?_, g1⟩
  have : F_spec_DrawAreNotes [bytesD l] = some (.ret [nts m] []) := by
    rw [t_spec_DrawAreNotes]
    simp -implicitDefEqProofs [bldCur, e1]
  rw [t_spec_DrawJournalText]
  simp -implicitDefEqProofs [this]
theorem d_book0 (l : List Int) (h : Bytes l) : ∃ (s : ByteArray) (c' : Cur), F_spec_l1Cur_book [curZ l] = some (.ret [T s] [curD c']) ∧ s.size ≤ 2000 ∧ c'.ok 1000 := d_book ⟨l, 0, 0⟩ 0 (cur0 h) (by omega)
theorem d_DrawRecovered (l : List Int) (h : Bytes l) : ∃ s : ByteArray, F_spec_DrawRecovered [bytesD l] = some (.ret [T s] []) ∧ s.size ≤ 2000 := by
  obtain ⟨s, c1, e1, g1, k1⟩ := d_book0 l h
  refine ⟨s, ?_, g1⟩
  have : F_spec_DrawReadJournal [bytesD l] = some (.ret [T s] []) := by
    rw [t_spec_DrawReadJournal]
    simp -implicitDefEqProofs [bldCur, e1]
  rw [t_spec_DrawRecovered]
  simp -implicitDefEqProofs [this]
theorem d_DrawAppendNote (l : List Int) (h : Bytes l) : ∃ (s : ByteArray) (x : Nt), F_spec_DrawAppendNote [bytesD l] = some (.ret [T s, nt x] []) ∧ s.size ≤ 2000 := by
  obtain ⟨s, c1, e1, g1, k1⟩ := d_book0 l h
  obtain ⟨v, c2, e2, l2, k2⟩ := d_among c1 [12, 20, 80, 0] _ k1 (by omega) (by simp) (by simp)
  obtain ⟨x, c3, e3, k3⟩ := d_note c2 v _ k2 (by omega)
  have m1 := mkInts (l := [12, 20, 80, 0])
  simp only [List.map_cons, List.map_nil] at m1
  refine ⟨s, x, ?_, g1⟩
  rw [t_spec_DrawAppendNote]
  simp -implicitDefEqProofs [bldCur, e1, m1, e2, e3, -List.map_cons]
theorem d_DrawSameStart (l : List Int) (h : Bytes l) : ∃ s t : ByteArray, F_spec_DrawSameStart [bytesD l] = some (.ret [T s, T t] []) ∧ s.size ≤ 2000 ∧ t.size ≤ 2000 := by
  obtain ⟨m, c1, e1, hm, k1⟩ := d_notes0 l h
  have hg := e_spec_joGood m (by omega)
  rw [t_spec_DrawSameStart]
  have two : ∀ c : Cur, c.ok 600 → ∃ (s t : ByteArray) (c2 c3 : Cur), F_spec_l1Cur_book [curD c] = some (.ret [T s] [curD c2]) ∧ F_spec_l1Cur_book [curD c2] = some (.ret [T t] [curD c3]) ∧ s.size ≤ 2000 ∧ t.size ≤ 2000 := by
    intro c hc
    obtain ⟨s, c2, x1, x2, x3⟩ := d_book c _ hc (by omega)
    obtain ⟨t, c3, y1, y2, y3⟩ := d_book c2 _ x3 (by omega)
    exact ⟨s, t, c2, c3, x1, y1, x2, y2⟩
  cases hgd : goodN m
  · obtain ⟨s, t, c2, c3, x1, y1, x2, y2⟩ := two c1 (k1.mono (by omega))
    refine ⟨s, t, ?_, x2, y2⟩
    simp -implicitDefEqProofs [bldCur, e1, hg, hgd, x1, y1]
  · obtain ⟨hall, hlen⟩ := good_all hgd
    by_cases h1 : 1 < m.length
    · have h1' : (1 : Int) < (m.length : Int) := by omega
      obtain ⟨b, c2, e2, k2⟩ := d_one c1 4 _ k1 (by omega) (by omega)
      cases b
      · obtain ⟨p, c3, e3, l3, u3, k3⟩ := d_pick c2 (m.length : Int) _ k2 (by omega) (by omega)
        obtain ⟨p, rfl⟩ := Int.eq_ofNat_of_zero_le l3
        obtain ⟨b, c4, e4, k4⟩ := d_one c3 2 _ k3 (by omega) (by omega)
        have hp : p ≤ m.length := by omega
        have hsl : sliceD false 3 (nts m) (I 0) (I (p : Int)) = some (nts (m.take p)) := by
          have := sliceD_nat (z := 3) (i := 0) (j := p) (l := m.map nt) (k := .i64) (k' := .i64) (Nat.zero_le _) (by simp; omega)
          rw [List.drop_zero, ← List.map_take] at this
          exact this
        have hlt : (m.take p).length ≤ 24 := by rw [List.length_take]; omega
        have ha0 : appD 3 24 (.arr 3 []) (nts (m.take p)) = some (nts (m.take p)) := app_nts (l := []) (m := m.take p) (by simp only [List.length_nil]; omega)
        have hT := e_spec_joText m hall (by omega)
        have hz := jT_size m 7 hall
        have hall2 : ∀ x ∈ m.take p, isNt x = true := fun x hx => hall x (List.mem_of_mem_take hx)
        cases b
        · have hT2 := e_spec_joText (m.take p) hall2 (by omega)
          have hz2 := jT_size (m.take p) 7 hall2
          refine ⟨jT m 7, jT (m.take p) 7, ?_, by omega, by omega⟩
          simp -implicitDefEqProofs [bldCur, e1, hg, hgd, h1', e2, e3, e4, hsl, mkArr_nil, chk_nts, ha0, hT, hT2, -appD_eq]
        · have hnine : isNt (9000, 0, 1) = true := by decide
          have hall3 : ∀ x ∈ m.take p ++ [(9000, 0, 1)], isNt x = true := by
            intro x hx
            rcases List.mem_append.1 hx with hx | hx
            · exact hall2 x hx
            · rw [List.mem_singleton.1 hx]; exact hnine
          have hl3 : (m.take p ++ [((9000, 0, 1) : Nt)]).length ≤ 25 := by rw [List.length_append, List.length_singleton]; omega
          have hT2 := e_spec_joText (m.take p ++ [(9000, 0, 1)]) hall3 (by omega)
          have hz2 := jT_size (m.take p ++ [(9000, 0, 1)]) 7 hall3
          have hap := app_nts (l := m.take p) (m := [(9000, 0, 1)]) (by rw [List.length_singleton]; omega)
          have hbl : bldD [(0, 1), (2, 1)] [I 0, I 0, I 0] [I 9000, I 1] = some (nt (9000, 0, 1)) := by simp [bldD, fillD]
          refine ⟨jT m 7, jT (m.take p ++ [(9000, 0, 1)]) 7, ?_, by omega, by omega⟩
          simp -implicitDefEqProofs [bldCur, e1, hg, hgd, h1', e2, e3, e4, hsl, mkArr_nil, chk_nts, ha0, hT, hT2, hbl, mk_nts, hap, -appD_eq]
      · obtain ⟨s, t, c3, c4, x1, y1, x2, y2⟩ := two c2 (k2.mono (by omega))
        refine ⟨s, t, ?_, x2, y2⟩
        simp -implicitDefEqProofs [bldCur, e1, hg, hgd, h1', e2, x1, y1]
    · have h1' : ¬ (1 : Int) < (m.length : Int) := by omega
      obtain ⟨s, t, c2, c3, x1, y1, x2, y2⟩ := two c1 (k1.mono (by omega))
      refine ⟨s, t, ?_, x2, y2⟩
      simp -implicitDefEqProofs [bldCur, e1, hg, hgd, h1', x1, y1]
end Go.Proofs.YtfjkapnonljdeaaGreatDoor
