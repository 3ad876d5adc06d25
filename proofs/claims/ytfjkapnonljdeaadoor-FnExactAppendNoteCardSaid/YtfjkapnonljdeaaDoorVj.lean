/-
  Parts of data, conversions, structs, the least and the most: they keep the invariant.
-/
import Derived.Test.YtfjkapnonljdeaaDoorVi
namespace Go.V
open Go.RowKit

section
variable {P : Program} {c : Cx} {B : Nat} {X : Nat → Prop} {w0 : World} {F0 F : Nat → Prop} {O : Nat → Option (Nat × Nat)} {a : Act} {w : World} {δ : List D}

theorem LoV_of {lo : Option Operand} {G : Nat → Prop} (hl : RepB w G (opD δ (loOf lo)) (a.eval (loOf lo))) : LoV w G (opD δ (loOf lo)) (lo.map a.eval) := by
  cases lo with
  | some l => exact .inl ⟨_, rfl, hl⟩
  | none => exact .inr ⟨rfl, rfl⟩

theorem LoV_mono {lo : D} {v : Option Value} {G G' : Nat → Prop} (hG : ∀ b, G b → G' b) (h : LoV w G lo v) : LoV w G' lo v := by
  rcases h with ⟨y, h1, h2⟩ | h
  · exact .inl ⟨y, h1, h2.imp id fun h => RepV_mono hG (fun _ _ => rfl) h⟩
  · exact .inr h

theorem sound_slice_dat (hT : okT P c.T = true) {o : Oper} {t : Nat} {q lv : Nat} {lo hi : Option Operand} (ho : o.op = .slice t (.tmp q) lo hi none) {i : TI} (hi' : look c.T t = some i) (hsl : i.str = false → isSl i = true) (hk : nthK c.K q = .dat lv)
    {A : Ac} (hA : slOf c o.dst i (.tmp q) lo hi = some A) (hI : Inv c B X w0 F0 F O a w δ) {k : List D → Option Out} {r : Out} (hg : goAc c A δ k = some r) (Q : Exit → Act → World → Prop) : o.wp P a w (Next c B X w0 F0 k r) Q := by
  have hti := tok hT hi'
  simp only [slOf, hk] at hA
  cases hi with
  | some h =>
    simp only at hA
    refine data_sound hA hI hg (fun hx z hz => ?_) Q
    obtain ⟨d1, d2, d3, e, hz⟩ := arg3_some hz
    simp only [List.map_cons, List.map_nil, List.cons.injEq, and_true] at e
    obtain ⟨rfl, rfl, rfl⟩ := e
    have h1 := (hx (.tmp q) (by simp)).2
    have h2 := LoV_of (hx _ (.tail _ (.head _))).2
    have h3 := (hx h (by simp)).2
    simp only [lvOf, hk] at h1
    obtain ⟨v, hv, hr⟩ := slice_run (P := P) (G := fun _ => True) hti hsl h1 (LoV_mono (fun _ _ => trivial) h2) (h3.imp id fun h => RepV_mono (fun _ _ => trivial) (fun _ _ => rfl) h) hz
    exact ⟨v, run_v (by simp only [execOp, ho, Option.map_some, Option.map_none]) hv, .inr hr⟩
  | none =>
    simp only at hA
    refine data_sound hA hI hg (fun hx z hz => ?_) Q
    obtain ⟨d1, d2, e, hz⟩ := arg2_some hz
    simp only [List.map_cons, List.map_nil, List.cons.injEq, and_true] at e
    obtain ⟨rfl, rfl⟩ := e
    have h1 := (hx (.tmp q) (by simp)).2
    have h2 := LoV_of (hx _ (.tail _ (.head _))).2
    simp only [lvOf, hk] at h1
    obtain ⟨v, hv, hr⟩ := sliceHi_run (P := P) hti hsl h1 h2 hz
    exact ⟨v, run_v (by simp only [execOp, ho, Option.map_none]) hv, .inr hr⟩

theorem src_some {x : Operand} {rd : List Nat} {lv : Nat} {q : Option Nat} (h : srcOf c.K x = some (rd, lv, q)) (hne : rd ≠ []) : ∃ t, x = .tmp t := by
  unfold srcOf at h
  split at h
  · exact ⟨_, rfl⟩
  · simp at h
    exact absurd h.1.symm (by simpa using hne)
  · cases h

theorem sound_convert (hT : okT P c.T = true) {o : Oper} {s t : Nat} {x : Operand} (ho : o.op = .convert s t x) : Sound P c o := by
  intro A hA B X w0 F0 F O a w δ hI k r hg Q
  simp only [actOf, ho] at hA
  have hA0 := withT_some hA
  clear hA
  obtain ⟨si, hs, hA⟩ := hA0
  have hA0 := withT_some hA
  clear hA
  obtain ⟨di, hd, hA⟩ := hA0
  have hsi := tok hT hs
  have hdi := tok hT hd
  unfold cvOf at hA
  split at hA
  · rename_i e1 e2 e3
    split at hA
    case h_2 => cases hA
    rename_i d rd lv q hdst hsrc
    split at hA
    case h_2 => cases hA
    rename_i lv' hk hb
    cases hA
    unfold byteE at hb
    split at hb
    case h_2 => cases hb
    rename_i hsl
    split at hb
    case h_2 => cases hb
    rename_i ei hei
    split at hb
    case h_2 => cases hb
    rename_i hik
    refine one_sound hI hdst hg (fun z hz => ?_) Q
    have hne : rd ≠ [] := by
      intro e
      subst e
      cases hz
    obtain ⟨t', rfl⟩ := src_some hsrc hne
    have key : ∃ G dd, RepB w G dd (av a t') ∧ strD dd = some z := by
      have hsrc' := hsrc
      rcases srcOf_dat hsrc' with ⟨h1, rfl, rfl⟩ | ⟨_, _, h1, rfl, rfl⟩ | ⟨s, _, _, h1, h2, rfl, rfl⟩
      · obtain ⟨G, hG⟩ := src_rep hI hsrc (d := nth δ t') (by simp [getAll, nth])
        exact ⟨G, _, hG, by simpa [getAll, nth] using hz⟩
      · obtain ⟨G, hG⟩ := src_rep hI hsrc (d := nth δ t') (by simp [getAll, nth])
        exact ⟨G, _, hG, by simpa [getAll, nth] using hz⟩
      · simp only [getAll, nth] at hz
        obtain ⟨dd, e1, e2⟩ := Option.bind_eq_some_iff.1 hz
        obtain ⟨G, hG⟩ := src_rep hI hsrc (d := dd) (by simpa [getAll, nth] using e1)
        exact ⟨G, dd, hG, e2⟩
    obtain ⟨G, dd, h1, h2⟩ := key
    have hdd : dd ≠ .bad := by
      intro e
      subst e
      simp [strD] at h2
    obtain ⟨v, g1, g2, g3⟩ := str_run (P := P) hsi hdi (tok hT hei) hsl hik e1 (h1.rep hdd) h2
    refine ⟨v, run_v (by simp only [execOp, ho, eval_tmp]) g1, (RepB_sc (G := FB F B lv') g3 g2).imp id fun h => by rw [hk]; exact h⟩
  · refine data_sound hA hI hg (fun hx z hz => ?_) Q
    obtain ⟨d1, e, hz⟩ := arg1_some hz
    simp only [List.map_cons, List.map_nil, List.cons.injEq, and_true] at e
    subst e
    obtain ⟨v, g1, g2, g3⟩ := conv_run (P := P) hsi hdi (hx x (by simp)).2 hz
    exact ⟨v, run_v (by simp only [execOp, ho]) g1, RepB_sc g3 g2⟩

theorem RepBs_of {G : Nat → Prop} : ∀ (xs : List Operand), (∀ x ∈ xs, RepB w G (opD δ x) (a.eval x)) → RepBs w G (xs.map (opD δ)) (xs.map a.eval)
  | [], _ => trivial
  | x :: xs, h => ⟨h x (by simp), RepBs_of xs fun y hy => h y (by simp [hy])⟩

theorem lvAll_le (K : List Kd) : ∀ {xs : List Operand}, ∀ x ∈ xs, lvOf K x ≤ lvAll K xs
  | y :: ys, x, hx => by
    simp only [lvAll, maxN_eq]
    rcases List.mem_cons.1 hx with rfl | hx
    · omega
    · have := lvAll_le K x hx
      omega

theorem places_ok {P : Program} : ∀ (fs : List Field) (l : List (Nat × Nat)), fsOk P fs l = true → ∃ places, fs.mapM (fun f => (P.info? f.type).map fun i => (f.offset, i.size)) = some places ∧
    ∀ (f : Nat) (fl : Field), fs[f]? = some fl → ∃ y, P.info? fl.type = some y ∧ places[f]? = some (fl.offset, y.size)
  | [], l, _ => ⟨[], by simp, by simp⟩
  | g :: fs, [], h => by simp [fsOk] at h
  | g :: fs, (o, t) :: l, h => by
    simp only [fsOk, Bool.and_eq_true, beq_iff_eq] at h
    obtain ⟨⟨⟨h1, h2⟩, h3⟩, h4⟩ := h
    obtain ⟨places, hp, hq⟩ := places_ok fs l h4
    split at h3
    case h_2 => cases h3
    rename_i x hx
    refine ⟨(g.offset, x.size) :: places, by simp [List.mapM_cons, h2, hx, hp], fun f fl hf => ?_⟩
    cases f with
    | zero =>
      simp at hf
      subst hf
      exact ⟨x, by rw [h2]; exact hx, by simp⟩
    | succ f => exact hq f fl (by simpa using hf)

theorem partsFs_ok (hT : okT P c.T = true) {t : Nat} {i : TI} (hi : TOk P t i) {fs : List Field} {arr : Array Field} (hu : P.underlying t = some (.struct arr)) (hfs : arr.toList = fs) {places : List (Nat × Nat)}
    (hq : ∀ (f : Nat) (fl : Field), fs[f]? = some fl → ∃ y, P.info? fl.type = some y ∧ places[f]? = some (fl.offset, y.size)) (ρ : Operand → Value) :
    ∀ (parts : List (Nat × Operand)) (ps : List (Nat × Nat)), partsFs c i parts = some ps → (parts.map fun p => (p.1, ρ p.2)).map (fun p => places.toArray[p.1]?) = ps.map some
  | [], ps, h => by
    simp [partsFs] at h
    subst h
    rfl
  | (f, x) :: parts, ps, h => by
    simp only [partsFs] at h
    split at h
    case h_2 => cases h
    rename_i off ti l hf hl
    simp at h
    subst h
    have ih := partsFs_ok hT hi hu hfs hq ρ parts l hl
    obtain ⟨ty, h1, h2⟩ := fieldOf_some hf
    obtain ⟨fs', fl, g1, g2, g3, g4, _⟩ := hi.fs _ _ _ h1
    rw [hu] at g1
    simp at g1
    subst g1
    obtain ⟨y, e1, e2⟩ := hq f fl (by rw [← hfs]; simpa using g2)
    obtain ⟨xx, _, k1, k2, _⟩ := (tok hT h2).info
    rw [g4, k1] at e1
    cases e1
    simp only [List.map_cons, List.cons.injEq]
    exact ⟨by rw [g3, k2] at e2; simpa using e2, ih⟩

theorem partsAs_ok (z : Nat) (ρ : Operand → Value) : ∀ (parts : List (Nat × Operand)), (parts.map fun p => (p.1, ρ p.2)).map (fun p => some (p.1 * z, z)) = (partsAs z parts).map some
  | [] => rfl
  | p :: parts => by simp [partsAs, partsAs_ok z ρ parts]

theorem sound_build (hT : okT P c.T = true) {o : Oper} {t : Nat} {parts : Array (Nat × Operand)} (ho : o.op = .build t parts) : Sound P c o := by
  intro A hA B X w0 F0 F O a w δ hI k r hg Q
  simp only [actOf, ho] at hA
  have hA0 := withT_some hA
  clear hA
  obtain ⟨i, hi, hA⟩ := hA0
  have hti := tok hT hi
  obtain ⟨x, z, hinf, hsz, hzz, hzo, haz⟩ := hti.info
  have main : ∀ (ps : List (Nat × Nat)) (place : Nat → Option (Nat × Nat)) (A' : Ac), dataOp c o.dst (mapD (fun p => p.2) parts.toList) (lvAll c.K (mapD (fun p => p.2) parts.toList)) (bldD ps i.zero) = some A' → goAc c A' δ k = some r →
      (parts.toList.map fun p => (p.1, a.eval p.2)).map (fun p => place p.1) = ps.map some → (∀ vs cells, vs = (parts.map fun p => (p.1, a.eval p.2)) → Instr.fill place z.cells vs.toList = some cells → P.built t vs.toList = some cells) →
      o.wp P a w (Next c B X w0 F0 k r) Q := by
    intro ps place A' hA' hg' hp hb
    refine data_sound hA' hI hg' (fun hx zz hz => ?_) Q
    unfold bldD at hz
    obtain ⟨cs', h1, rfl⟩ := Option.map_eq_some_iff.1 hz
    obtain ⟨zr, zs⟩ := zeroOk_rep (w := w) (F := FB F B (lvAll c.K (mapD (fun p => p.2) parts.toList))) _ _ hzo
    have hbs : RepBs w (FB F B (lvAll c.K (mapD (fun p => p.2) parts.toList))) ((mapD (fun p => p.2) parts.toList).map (opD δ)) ((mapD (fun p => p.2) parts.toList).map a.eval) := RepBs_of _ fun x hxm => RepB_le (lvAll_le _ x hxm) (hx x hxm).2
    obtain ⟨us', e1, e2, e3⟩ := fill_run place (parts.toList.map fun p => (p.1, a.eval p.2)) ps _ i.zero cs' z.cells.toList hp (by rw [mapD_eq] at hbs ⊢; simpa [List.map_map, Function.comp_def] using hbs) zs zr h1
    have hbuilt := hb (parts.map fun p => (p.1, a.eval p.2)) us'.toArray rfl (by simpa using e1)
    refine ⟨.agg us'.toArray, run_v (s := Instr.build t (parts.map fun (i, x) => (i, a.eval x))) (by simp only [execOp, ho]) (run_build w t _ _ hbuilt), .inr ?_⟩
    simp only [RepV]
    exact ⟨us', rfl, e2, e3⟩
  unfold buOf at hA
  simp only at hA
  split at hA
  · rename_i hal hag
    split at hA
    case h_2 => cases hA
    rename_i ps hps
    obtain ⟨arr, hu, hfs⟩ := hti.st hag hal
    obtain ⟨places, hp, hq⟩ := places_ok arr.toList i.fs hfs
    refine main ps (places.toArray[·]?) _ hA hg (partsFs_ok hT hti hu rfl hq _ parts.toList ps hps) (fun vs cells hvs hf => ?_)
    unfold Program.built
    simp only [hinf, hu, hzz, hp]
    exact hf
  · cases hA
  · rename_i h1 h2
    have hal : i.alen ≠ 0 := by
      intro e
      cases hg : i.agg
      · exact h2 e hg
      · exact h1 e hg
    obtain ⟨hu, hag, hez, hn, y, hy, hys⟩ := hti.ar hal
    refine main _ (fun j => some (j * i.ez, i.ez)) _ hA hg (partsAs_ok i.ez _ parts.toList) (fun vs cells hvs hf => ?_)
    unfold Program.built
    simp only [hinf, hu, hzz, hy, hys]
    exact hf

theorem foldM_sound {o : Oper} {bi : Builtin} {xs : List Operand} {q : Call} (ho : o.op = .call q) (hq : q.callee = .builtin bi) (hxs : q.args.toList = xs) {f : D → D → Option D} {g : Value → Value → Sem Value}
    (hf : ∀ (w : World) (G : Nat → Prop) (a b z : D) (x y : Value), RepB w G a x → RepB w G b y → f a b = some z → ∃ v, (g x y).run P w = .ok v w ∧ z = .v v ∧ flat v = true)
    (hb : ∀ (x : Value) (rest : List Value) (v : Value), q.args.map a.eval = (x :: rest).toArray → (rest.foldlM g x).run P w = .ok v w → (builtin bi q.argTypes o.type (q.args.map fun | .const _ => true | _ => false) (q.args.map a.eval)).run P w = .ok (.value v) w)
    {A : Ac} (hA : dataOp c o.dst xs 0 (fold1 f) = some A) (hI : Inv c B X w0 F0 F O a w δ) {k : List D → Option Out} {r : Out} (hg : goAc c A δ k = some r) (Q : Exit → Act → World → Prop) : o.wp P a w (Next c B X w0 F0 k r) Q := by
  refine data_sound hA hI hg (fun hx z hz => ?_) Q
  have hG : ∀ y ∈ xs, RepB w (FB F B 2) (opD δ y) (a.eval y) := fun y hy => RepB_le (hx y hy).1 (hx y hy).2
  match xs, hxs, hG, hz with
  | [], _, _, hz => simp [fold1] at hz
  | [_], _, _, hz => simp [fold1] at hz
  | x :: y :: xs, hxs, hG, hz =>
    simp only [List.map_cons, fold1] at hz
    obtain ⟨v, h1, h2, h3⟩ := fold_run2 (P := P) (fun a b z x y => hf w (FB F B 2) a b z x y) (ds := xs.map (opD δ)) (ys := xs.map a.eval) (hG x (by simp)) (hG y (by simp)) (RepBs_of xs fun y hy => hG y (by simp [hy])) hz
    have he : q.args.map a.eval = (a.eval x :: (a.eval y :: xs.map a.eval)).toArray := by
      rw [← Array.toArray_toList (xs := q.args), hxs]
      simp
    have hrun := hb _ _ _ he h1
    refine ⟨v, ?_, RepB_sc h3 h2⟩
    simp only [execOp, ho, resolve, hq, Sem.run_bind, Sem.run_pure, Result.andThen_ok, invoke]
    exact hrun

end
end Go.V
