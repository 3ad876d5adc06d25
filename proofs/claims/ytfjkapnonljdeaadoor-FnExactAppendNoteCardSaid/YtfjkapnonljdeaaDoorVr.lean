/-
  Contracts of functions, and a call.
-/
import Derived.Test.YtfjkapnonljdeaaDoorVq
namespace Go.V
open Go.RowKit

def ArgOk (w : World) (F own : Nat → Prop) (k : Kd) (d : D) (y : Value) : Prop :=
  d = .bad ∨ match k with
    | .dat lv => RepV w (FB F 0 lv) d y
    | .own z lv true => OwnV w (FB F 0 lv) own z d y
    | .box n lv true => BoxV w (FB F 0 lv) own n d y
    | _ => False
def ArgsOk (w : World) (F : Nat → Prop) (ow : Nat → Option Nat) : Nat → List Kd → List D → List Value → Prop
  | _, [], [], [] => True
  | i, k :: ks, d :: ds, y :: ys => ArgOk w F (fun g => ow g = some i) k d y ∧ ArgsOk w F ow (i + 1) ks ds ys
  | _, _, _, _ => False
def isIo : Kd → Bool
  | .own _ _ true => true
  | .box _ _ true => true
  | _ => false
/-- What the parameters that are written hold at the end. -/
def UsOk (w : World) (F : Nat → Prop) : List Kd → List D → List Value → Prop
  | [], [], _ => True
  | k :: ks, us, y :: ys => if isIo k then (match us with
      | u :: us => u ≠ .bad ∧ ArgOk w F (fun _ => True) k u y ∧ UsOk w F ks us ys
      | [] => False) else UsOk w F ks us ys
  | _, _, _ => False
def ResOk (w : World) (F : Nat → Prop) (B : Nat) (own : Nat → Prop) (k : Kd) (d : D) (y : Value) : Prop :=
  d = .bad ∨ match k with
    | .dat lv => RepV w (FB F B lv) d y
    | .own z lv false => OwnV w (FB F B lv) (fun g => own g ∧ B ≤ g) z d y
    | _ => False
def resV : List Value → Value
  | [y] => y
  | ys => .tuple ys.toArray

structure CallPost (S : FS) (args : Array Value) (rs us : List D) (w : World) (F : Nat → Prop) (ow : Nat → Option Nat) (F' : Nat → Prop) (R : Nat → Option Nat) (vs : List Value) (w' : World) : Prop where
  os : w'.os = w.os
  tape : w'.tape = w.tape
  output : w'.output = w.output
  size : w.heap.size ≤ w'.heap.size
  keep : ∀ b, b < w.heap.size → ow b = none → w'.heap[b]? = w.heap[b]?
  f0 : ∀ b, F b → F' b
  fn : ∀ b, F' b → (F b ∨ w.heap.size ≤ b) ∧ b < w'.heap.size ∧ R b = none
  rn : ∀ b j, R b = some j → w.heap.size ≤ b ∧ b < w'.heap.size
  len : vs.length = S.rm.length
  lenD : rs.length = S.rm.length
  res : ∀ j, ResOk w' F' w.heap.size (fun g => R g = some j) (nthK S.rm j) (nth rs j) (vs.getD j undef)
  us : UsOk w' F' S.pm us args.toList

/-- A call, however it is carried out. -/
def Enters (P : Program) (f : FuncId) (args : Array Value) (w : World) (R : Value → World → Prop) : Prop :=
  ∀ (o : Oper) (a : Act) (next : Act → World → Prop) (Q : Exit → Act → World → Prop), (∀ v w', R v w' → next (a.put o.dst v) w') → o.upon P a next Q ((callFunc f args).run P w)

def Meets (G : List (Nat × (Obj → Prop))) (P : Program) (f : FuncId) (S : FS) : Prop :=
  ∀ (ds rs us : List D), S.f ds = some (.ret rs us) → ∀ (args : Array Value) (w : World) (F : Nat → Prop) (ow : Nat → Option Nat), gOk G w F → ArgsOk w F ow 0 S.pm ds args.toList →
    (∀ b, F b → b < w.heap.size ∧ ow b = none) → (∀ b i, ow b = some i → b < w.heap.size) → Enters P f args w fun v w' => ∃ F' R vs, v = resV vs ∧ CallPost S args rs us w F ow F' R vs w'

section
variable {P : Program} {c : Cx} {B : Nat} {X : Nat → Prop} {w0 : World} {F0 F : Nat → Prop} {O : Nat → Option (Nat × Nat)} {a : Act} {w : World} {δ : List D}

/-! ### the arguments -/
def asmV : List Ag → List D → Option (List D)
  | [], _ => some []
  | .d x chk :: l, is => match x with
    | .tmp _ => match is with
      | i :: is => match chk with
        | false => (asmV l is).map (i :: ·)
        | true => (chkV i).bind fun i => (asmV l is).map (i :: ·)
      | [] => none
    | .const v => (asmV l is).map (constD v :: ·)
    | .func f => (asmV l is).map (.clo f [] :: ·)
    | .global _ => none
  | .bor t r :: l, is => match Nat.beq t r with
    | true => match is with
      | i :: is => (asmV l is).map (i :: ·)
      | _ => none
    | false => match is with
      | p :: i :: is => (liveD p i).bind fun i => (asmV l is).map (i :: ·)
      | _ => none
  | .io t r :: l, is => match Nat.beq t r with
    | true => match is with
      | i :: is => (liveD i i).bind fun i => (asmV l is).map (i :: ·)
      | _ => none
    | false => match is with
      | p :: i :: is => (ref0 p i).bind fun i => (liveD i i).bind fun i => (asmV l is).map (i :: ·)
      | _ => none

theorem asm_app (o : Option (List D)) (i : D) (acc : List D) (k : List D → Option Out) : ((o.map (i :: ·)).bind fun ds => k (acc ++ ds)) = o.bind fun ds => k (app acc [i] ++ ds) := by
  cases o <;> simp [app_eq]

theorem asmK_eq : ∀ (l : List Ag) (acc is : List D) (k : List D → Option Out), asmK acc l is k = (asmV l is).bind fun ds => k (acc ++ ds)
  | [], acc, is, k => by simp [asmK, asmV]
  | .d x chk :: l, acc, is, k => by
    cases x with
    | tmp t =>
      cases is with
      | nil => simp [asmK, asmV]
      | cons i is =>
        cases chk
        · simp only [asmK, asmV]
          rw [asm_app, asmK_eq l]
        · simp only [asmK, asmV, Option.bind_assoc]
          congr 1
          funext i
          rw [asm_app, asmK_eq l]
    | const v => simp only [asmK, asmV]; rw [asm_app, asmK_eq l]
    | func f => simp only [asmK, asmV]; rw [asm_app, asmK_eq l]
    | global g => simp [asmK, asmV]
  | .bor t r :: l, acc, is, k => by
    cases hb : Nat.beq t r
    · rcases is with _ | ⟨p, _ | ⟨i, is⟩⟩
      · simp [asmK, asmV, hb]
      · simp [asmK, asmV, hb]
      · simp only [asmK, asmV, hb, Option.bind_assoc]
        refine congrArg _ (funext fun i => ?_)
        rw [asm_app, asmK_eq l]
    · cases is with
      | nil => simp [asmK, asmV, hb]
      | cons i is => simp only [asmK, asmV, hb]; rw [asm_app, asmK_eq l]
  | .io t r :: l, acc, is, k => by
    cases hb : Nat.beq t r
    · rcases is with _ | ⟨p, _ | ⟨i, is⟩⟩
      · simp [asmK, asmV, hb]
      · simp [asmK, asmV, hb]
      · simp only [asmK, asmV, hb, Option.bind_assoc]
        refine congrArg _ (funext fun i => ?_)
        refine congrArg _ (funext fun i => ?_)
        rw [asm_app, asmK_eq l]
    · cases is with
      | nil => simp [asmK, asmV, hb]
      | cons i is =>
        simp only [asmK, asmV, hb, Option.bind_assoc]
        refine congrArg _ (funext fun i => ?_)
        rw [asm_app, asmK_eq l]

theorem ArgOk_dat {F' own : Nat → Prop} {lv l : Nat} {d : D} {y : Value} (hF : ∀ b, F b → F' b) (h : RepB w (FB F B lv) d y) (hl : lv ≤ l) (h1 : l ≠ 1) : ArgOk w F' own (.dat l) d y := by
  rcases h with h | h
  · exact .inl h
  · refine .inr (RepV_mono (fun b hb => ?_) (fun _ _ => rfl) h)
    match l, h1, hl with
    | 0, _, hl =>
      have : lv = 0 := by omega
      subst this
      exact hb
    | l + 2, _, _ => exact hF b (FB_sub b hb)

def ioAt : List Ag → Nat → Option Nat
  | [], _ => none
  | .io _ r :: _, 0 => some r
  | _ :: _, 0 => none
  | _ :: l, n + 1 => ioAt l n

theorem args_ok (hI : Inv c B X w0 F0 F O a w δ) {F' : Nat → Prop} {ow : Nat → Option Nat} (hF : ∀ b, F b → F' b) : ∀ (xs : List Operand) (pm : List Kd) (ags : List Ag) (i0 : Nat) (ds : List D), agsOf c.K xs pm = some ags → okPm pm = true →
    asmV ags (getAll δ (agRd ags)) = some ds → (∀ r ∈ agBor ags, ∀ b, O b = some (r, 0) → F' b) → (∀ j r, ioAt ags j = some r → ∀ b, O b = some (r, 0) → ow b = some (i0 + j)) → ArgsOk w F' ow i0 pm ds (xs.map a.eval)
  | [], [], ags, i0, ds, h, _, hd, _, _ => by
    simp only [agsOf, Option.some.injEq] at h
    subst h
    simp [asmV] at hd
    subst hd
    trivial
  | [], _ :: _, _, _, _, h, _, _, _, _ => by simp [agsOf] at h
  | _ :: _, [], _, _, _, h, _, _, _, _ => by simp [agsOf] at h
  | x :: xs, m :: pm, ags, i0, ds, h, hpm, hd, hbor, hio => by
    simp only [agsOf] at h
    split at h
    case h_2 => cases h
    rename_i g l hg hl
    cases h
    have hpm' : okPm pm = true ∧ (∀ lv, m = .dat lv → lv ≠ 1) ∧ (∀ z lv io, m = .own z lv io → io = true ∧ lv ≠ 1) ∧ (∀ z lv io, m = .box z lv io → io = true ∧ lv ≠ 1) := by
      cases m with
      | dat lv =>
        simp only [okPm] at hpm
        split at hpm
        case h_2 => cases hpm
        rename_i h1 h2
        exact ⟨hpm, fun l e => by cases e; intro e; subst e; simp at h1, fun _ _ _ e => (by cases e), fun _ _ _ e => (by cases e)⟩
      | own z lv io =>
        cases io
        · simp [okPm] at hpm
        simp only [okPm] at hpm
        split at hpm
        case h_2 => cases hpm
        rename_i h1 h2
        exact ⟨hpm, fun _ e => (by cases e), fun _ l _ e => by cases e; exact ⟨rfl, fun e => by subst e; simp at h1⟩, fun _ _ _ e => (by cases e)⟩
      | box z lv io =>
        cases io
        · simp [okPm] at hpm
        simp only [okPm] at hpm
        split at hpm
        case h_2 => cases hpm
        rename_i h1 h2
        exact ⟨hpm, fun _ e => (by cases e), fun _ _ _ e => (by cases e), fun _ l _ e => by cases e; exact ⟨rfl, fun e => by subst e; simp at h1⟩⟩
      | _ => simp [okPm] at hpm
    obtain ⟨hp1, hp2, hp3, hp4⟩ := hpm'
    have rest : ∀ d' ds', ds = d' :: ds' → asmV l (getAll δ (agRd l)) = some ds' → (∀ r ∈ agBor l, ∀ b, O b = some (r, 0) → F' b) → (∀ j r, ioAt l j = some r → ∀ b, O b = some (r, 0) → ow b = some (i0 + 1 + j)) →
        ArgOk w F' (fun g => ow g = some i0) m d' (a.eval x) → ArgsOk w F' ow i0 (m :: pm) ds ((x :: xs).map a.eval) := by
      intro d' ds' e h1 h2 h3 h4
      subst e
      exact ⟨h4, args_ok hI hF xs pm l (i0 + 1) ds' hl hp1 h1 h2 h3⟩
    have hio' : ∀ j r, ioAt l j = some r → ∀ b, O b = some (r, 0) → ow b = some (i0 + 1 + j) := fun j r hj b hb => by
      have := hio (j + 1) r (by cases g <;> exact hj) b hb
      rw [this]
      congr 1
      omega
    have hbor' : ∀ r ∈ agBor l, ∀ b, O b = some (r, 0) → F' b := fun r hr => hbor r (by cases g <;> simp [agBor, hr])
    -- the argument itself
    unfold agOf at hg
    split at hg
    · rename_i lm
      have hl1 := hp2 lm rfl
      split at hg
      · rename_i t
        split at hg
        · rename_i lv hk
          have hrep := hI.dat hk
          split at hg
          · rename_i hle
            cases hg
            simp only [app, getAll, asmV] at hd
            obtain ⟨ds', h1, rfl⟩ := Option.map_eq_some_iff.1 hd
            exact rest _ _ rfl h1 hbor' hio' (ArgOk_dat hF hrep (ble_iff.1 hle) hl1)
          · split at hg
            case h_2 => cases hg
            rename_i hle h0
            cases hg
            simp only [app, getAll, asmV] at hd
            obtain ⟨i, hc, hd⟩ := Option.bind_eq_some_iff.1 hd
            obtain ⟨ds', h1, rfl⟩ := Option.map_eq_some_iff.1 hd
            refine rest _ _ rfl h1 hbor' hio' ?_
            unfold chkV at hc
            split at hc
            case isFalse => cases hc
            rename_i hv
            cases hc
            refine .inr (RepV_isV hv (hrep.rep ?_))
            intro e
            rw [e] at hv
            simp [D.isV] at hv
        · rename_i z lv io hk
          split at hg
          case h_2 => cases hg
          rename_i hl2
          cases hg
          simp only [agRd, Nat.beq_refl, getAll, asmV] at hd
          obtain ⟨ds', h1, rfl⟩ := Option.map_eq_some_iff.1 hd
          refine rest _ _ rfl h1 hbor' hio' ?_
          by_cases hb : nth δ t = .bad
          · exact .inl hb
          · refine .inr (RepV_mono (fun b hb => ?_) (fun _ _ => rfl) (OwnV_rep (hI.own hk hb)))
            rw [beq_iff] at hl2
            subst hl2
            rcases hb with hb | hb
            · exact hF b (FB_sub b hb)
            · exact hbor t (by simp [agBor]) b hb.1
        · rename_i r hk
          split at hg
          case h_2 => cases hg
          rename_i hl2 hown
          cases hg
          rw [beq_iff] at hl2
          subst hl2
          have hviaD : ∀ (hbt : nth δ t ≠ .bad), ArgOk w F' (fun g => ow g = some i0) (.dat 2) (nth δ r) (a.eval (.tmp t)) := by
            intro hbt
            obtain ⟨g1, g2, g3, g4⟩ := hI.via hk hbt
            obtain ⟨z, lv, io, hkr⟩ : ∃ z lv io, nthK c.K r = .own z lv io := by
              unfold isOwn at hown
              split at hown
              · exact ⟨_, _, _, ‹_›⟩
              · cases hown
            rw [eval_tmp, g1]
            refine .inr (RepV_mono (fun b hb => ?_) (fun _ _ => rfl) (OwnV_rep (hI.own hkr g3)))
            rcases hb with hb | hb
            · exact hF b (FB_sub b hb)
            · exact hbor r (by simp [agBor]) b hb.1
          cases htr : Nat.beq t r
          · simp only [agRd, htr, getAll, asmV] at hd
            obtain ⟨i, hc, hd⟩ := Option.bind_eq_some_iff.1 hd
            obtain ⟨ds', h1, rfl⟩ := Option.map_eq_some_iff.1 hd
            obtain ⟨hbt, rfl⟩ := liveD_some hc
            exact rest _ _ rfl h1 hbor' hio' (hviaD hbt)
          · have := beq_iff.1 htr
            subst this
            simp only [agRd, htr, getAll, asmV] at hd
            obtain ⟨ds', h1, rfl⟩ := Option.map_eq_some_iff.1 hd
            refine rest _ _ rfl h1 hbor' hio' ?_
            by_cases hb : nth δ t = .bad
            · exact .inl hb
            · exact hviaD hb
        · cases hg
      · cases hg
      · rename_i f
        cases hg
        simp only [agRd, app, asmV] at hd
        obtain ⟨ds', h1, rfl⟩ := Option.map_eq_some_iff.1 hd
        refine rest _ _ rfl h1 hbor' hio' (ArgOk_dat hF (lv := 0) (hI.opd (x := .func f) (by simp [lvOf])) (Nat.zero_le _) hl1)
      · rename_i v
        split at hg
        case h_2 => cases hg
        rename_i hv
        cases hg
        simp only [agRd, app, asmV] at hd
        obtain ⟨ds', h1, rfl⟩ := Option.map_eq_some_iff.1 hd
        have := hI.opd (x := .const v) (by simp [lvOf, hv])
        simp only [lvOf, hv, opD] at this
        exact rest _ _ rfl h1 hbor' hio' (ArgOk_dat hF this (Nat.zero_le _) hl1)
    · rename_i z l'
      have hl1 := (hp3 z l' true rfl).2
      have hcv : ∀ (lv : Nat), l' = lv → ∀ b, FB F B lv b → FB F' 0 l' b := by
        intro lv e b hb
        subst e
        match l', hl1 with
        | 0, _ => exact hb.elim
        | n + 2, _ => exact hF b hb
      split at hg
      case h_2 => cases hg
      rename_i t
      split at hg
      · rename_i z' lv io hk
        split at hg
        case h_2 => cases hg
        rename_i h1 h2
        rw [beq_iff] at h1 h2
        subst h1
        cases hg
        simp only [agRd, Nat.beq_refl, getAll, asmV] at hd
        obtain ⟨i, hc, hd⟩ := Option.bind_eq_some_iff.1 hd
        obtain ⟨ds', h1', rfl⟩ := Option.map_eq_some_iff.1 hd
        obtain ⟨hb, rfl⟩ := liveD_some hc
        exact rest _ _ rfl h1' hbor' hio' (.inr (OwnV_mono' (hcv lv h2) (fun _ _ => rfl) (fun g _ ho => ⟨by simpa using hio 0 t rfl g ho.1, rfl⟩) (hI.own hk hb)))
      · rename_i r hk
        split at hg
        case h_2 => cases hg
        rename_i z' lv io hkr
        split at hg
        case h_2 => cases hg
        rename_i h1 h2
        rw [beq_iff] at h1 h2
        subst h1
        cases hg
        have hvia : nth δ t ≠ .bad → nth δ r ≠ .bad → ArgOk w F' (fun g => ow g = some i0) (.own z l' true) (nth δ r) (a.eval (.tmp t)) := by
          intro hbt hb
          rw [eval_tmp, (hI.via hk hbt).1]
          exact .inr (OwnV_mono' (hcv lv h2) (fun _ _ => rfl) (fun g _ ho => ⟨by simpa using hio 0 r rfl g ho.1, rfl⟩) (hI.own hkr hb))
        cases htr : Nat.beq t r
        · simp only [agRd, htr, getAll, asmV] at hd
          obtain ⟨i, hc, hd⟩ := Option.bind_eq_some_iff.1 hd
          obtain ⟨i', hc', hd⟩ := Option.bind_eq_some_iff.1 hd
          obtain ⟨ds', h1', rfl⟩ := Option.map_eq_some_iff.1 hd
          obtain ⟨hb, rfl⟩ := liveD_some hc'
          unfold ref0 at hc
          split at hc
          case h_2 => cases hc
          rename_i hr0
          cases hc
          exact rest _ _ rfl h1' hbor' hio' (hvia (by rw [hr0]; simp) hb)
        · have e := beq_iff.1 htr
          subst e
          rw [hk] at hkr
          cases hkr
      · cases hg
    · rename_i n l'
      have hl1 := (hp4 n l' true rfl).2
      have hcv : ∀ (lv : Nat), l' = lv → ∀ b, FB F B lv b → FB F' 0 l' b := by
        intro lv e b hb
        subst e
        match l', hl1 with
        | 0, _ => exact hb.elim
        | n + 2, _ => exact hF b hb
      split at hg
      case h_2 => cases hg
      rename_i t
      split at hg
      · rename_i z' lv io hk
        split at hg
        case h_2 => cases hg
        rename_i h1 h2
        rw [beq_iff] at h1 h2
        subst h1
        cases hg
        simp only [agRd, Nat.beq_refl, getAll, asmV] at hd
        obtain ⟨i, hc, hd⟩ := Option.bind_eq_some_iff.1 hd
        obtain ⟨ds', h1', rfl⟩ := Option.map_eq_some_iff.1 hd
        obtain ⟨hb, rfl⟩ := liveD_some hc
        exact rest _ _ rfl h1' hbor' hio' (.inr (BoxV_mono (hcv lv h2) (fun _ _ => rfl) (fun g ho => ⟨by simpa using hio 0 t rfl g ho.1, rfl⟩) (hI.box hk hb)))
      · rename_i r hk
        split at hg
        case h_2 => cases hg
        rename_i z' lv io hkr
        split at hg
        case h_2 => cases hg
        rename_i h1 h2
        rw [beq_iff] at h1 h2
        subst h1
        cases hg
        cases htr : Nat.beq t r
        · simp only [agRd, htr, getAll, asmV] at hd
          obtain ⟨i, hc, hd⟩ := Option.bind_eq_some_iff.1 hd
          obtain ⟨i', hc', hd⟩ := Option.bind_eq_some_iff.1 hd
          obtain ⟨ds', h1', rfl⟩ := Option.map_eq_some_iff.1 hd
          obtain ⟨hb, rfl⟩ := liveD_some hc'
          unfold ref0 at hc
          split at hc
          case h_2 => cases hc
          rename_i hr0
          cases hc
          obtain ⟨ii, ff, h5, _, h6⟩ := hI.ref hk (by rw [hr0]; simp)
          rw [hr0] at h5
          cases h5
          rw [hkr] at h6
          obtain ⟨g0, e1, e2⟩ := h6
          refine rest _ _ rfl h1' hbor' hio' (.inr ?_)
          rw [eval_tmp, e2, ← e1]
          exact BoxV_mono (hcv lv h2) (fun _ _ => rfl) (fun g ho => ⟨by simpa using hio 0 r rfl g ho.1, rfl⟩) (hI.box hkr hb)
        · have e := beq_iff.1 htr
          subst e
          rw [hk] at hkr
          cases hkr
      · cases hg
    · cases hg

end
end Go.V
