/-
  Orders read out of texts.
-/
import Derived.Test.YtfjkapnonljdeaaDoorP4
namespace Go.Proofs.YtfjkapnonljdeaaDoor
open Go Go.V
set_option linter.unusedSimpArgs false

/-! ### l1Read -/
def readL (l : List UInt8) : Int :=
  if (1 ≤ l.length ∧ l.length ≤ 6) ∧ ¬ (l.head? = some 48 ∧ 1 < l.length) ∧ l.all dig = true then (valF 0 l : Int) else -1
def readT (s : ByteArray) : Int := readL (chars s)
theorem valF_snoc (l : List UInt8) (x : UInt8) (a : Nat) : valF a (l ++ [x]) = valF a l * 10 + (x.toNat - 48) := by simp [valF, List.foldl_append]
theorem valF_lt : ∀ (n : Nat) (l : List UInt8), l.length = n → (∀ b ∈ l, dig b = true) → valF 0 l < 10 ^ n := by
  intro n
  induction n with
  | zero =>
    intro l hl _
    rw [List.eq_nil_of_length_eq_zero hl]
    decide
  | succ n ih =>
    intro l hl hd
    have hne : l ≠ [] := fun e => by rw [e] at hl; simp at hl
    have hsp := List.dropLast_concat_getLast hne
    have h1 := ih l.dropLast (by rw [List.length_dropLast]; omega) fun b hb => hd b ((List.dropLast_sublist l).subset hb)
    have h2 := dig_iff.1 (hd _ (List.getLast_mem hne))
    rw [← hsp, valF_snoc, Nat.pow_succ]
    omega
theorem e_spec_l1Read (s : ByteArray) (h : s.size ≤ 4294967296) : F_spec_l1Read [T s] = some (.ret [I (readT s)] []) := by
  rw [t_spec_l1Read]
  have hsz : s.size = (chars s).length := rfl
  by_cases h1 : 1 ≤ (s.size : Int) ∧ (s.size : Int) ≤ 6
  case neg =>
    have hr : readT s = -1 := by
      unfold readT readL
      rw [if_neg (by rintro ⟨⟨g1, g2⟩, _⟩; exact h1 (by omega))]
    rw [hr]
    simp -implicitDefEqProofs [e_spec_l1In, h1]
  have hpos : 0 < (chars s).length := by omega
  have hch0 : charD (T s) (I 0) = some (U ((chars s)[0].toNat : Int)) := by
    have := charD_nat (s := s) (k := .i64) (i := 0)
    rw [List.getElem?_eq_getElem hpos] at this
    exact this
  have hhead : (chars s).head? = some (chars s)[0] := by rw [List.head?_eq_getElem?, List.getElem?_eq_getElem hpos]
  have h48 : (48 : UInt8).toNat = 48 := rfl
  have hc48 : ((chars s)[0].toNat : Int) = 48 ↔ (chars s)[0] = 48 := ⟨fun e => UInt8.toNat_inj.1 (by omega), fun e => by rw [e]; rfl⟩
  by_cases h2 : (chars s)[0] = 48 ∧ 1 < (chars s).length
  · have hr : readT s = -1 := by
      unfold readT readL
      rw [if_neg (by rintro ⟨_, g, _⟩; exact g ⟨by rw [hhead, h2.1], h2.2⟩)]
    have hl : (1 : Int) < (s.size : Int) := by omega
    have hc := hc48.2 h2.1
    rw [hr]
    simp -implicitDefEqProofs [e_spec_l1In, h1, hch0, hc, hl]
  have hgo : ∀ (K : D → Option Out), ((bin BinOp.eql false [] (U ((chars s)[0].toNat : Int)) (D.v (Value.int IntKind.u8 48))).bind fun z_3 => (gate (D.tup []) (B false) false (some z_3)).bind fun z_4 => (gate (D.tup []) z_4 true (some (T s))).bind fun z_5 =>
      (gate (D.tup []) z_4 true (lenD true z_5)).bind fun z_6 => (gate (D.tup []) z_4 true (bin BinOp.gtr false [] z_6 (D.v (Value.int IntKind.i64 1)))).bind fun z_7 => (gate (D.tup []) (B false) false (pickD z_4 z_7 (D.v (Value.bool false)))).bind K) = K (B false) := by
    intro K
    by_cases e : ((chars s)[0].toNat : Int) = 48
    · have : ¬ (1 : Int) < (s.size : Int) := fun hl => h2 ⟨hc48.1 e, by omega⟩
      simp -implicitDefEqProofs [e, this]
    · simp -implicitDefEqProofs [e]
  simp only [lenD_str, Option.bind_some, e_spec_l1In, h1, and_self, decide_true, callK_ret, sl_zero, un_not, Bool.not_true, gate_f, Bool.false_eq_true, if_false, hch0]
  have hgo' := hgo
  simp only [gate_f, Bool.false_eq_true, if_false, Option.bind_some] at hgo'
  rw [hgo']
  simp only [pickD_B, Bool.false_eq_true, if_false, Option.bind_some, ifD_B]
  refine loop_wf_bind (fun r => r = _) (fun (a : Nat × Nat) => [T s, I (a.1 : Int), I (a.2 : Int)]) (fun a => a.2 ≤ s.size ∧ a.1 = valF 0 ((chars s).take a.2) ∧ ∀ b ∈ (chars s).take a.2, dig b = true) (fun a => s.size - a.2)
    (fun o => o = if (chars s).all dig = true then .ext 0 [I (valF 0 (chars s) : Int)] else .ret [I (-1)] []) ?_ (0, 0) ⟨Nat.zero_le _, rfl, by simp⟩ rfl ?_
  · rintro ⟨n, i⟩ ⟨g1, g2, g3⟩
    simp only at g1 g2 g3
    by_cases hi : i < s.size
    · have hl : i < (chars s).length := by rw [← hsz]; exact hi
      have hi' : (i : Int) < (s.size : Int) := by omega
      have hch : charD (T s) (I (i : Int)) = some (U ((chars s)[i].toNat : Int)) := by
        rw [charD_nat, List.getElem?_eq_getElem hl]
        rfl
      have htk : (chars s).take (i + 1) = (chars s).take i ++ [(chars s)[i]] := List.take_succ_eq_append_getElem hl
      by_cases hd : dig (chars s)[i] = true
      · left
        have hd' := dig_iff.1 hd
        have hn : n < 10 ^ i := by
          rw [g2]
          exact valF_lt i _ (by rw [List.length_take]; omega) g3
        have h10 : 10 ^ i ≤ 10 ^ 6 := Nat.pow_le_pow_right (by decide) (by omega)
        have hw : IntKind.i64.wrap ((i : Int) + 1) = ((i + 1 : Nat) : Int) := by rw [wrap_id (by omega) (by omega)]; omega
        have hw1 : IntKind.i64.wrap (10 * (n : Int)) = 10 * (n : Int) := wrap_id (by omega) (by omega)
        have hw2 : IntKind.u8.wrap (((chars s)[i].toNat : Int) - 48) = ((chars s)[i].toNat : Int) - 48 := wrap8 _ (by omega) (by omega)
        have hw3 : IntKind.i64.wrap (((chars s)[i].toNat : Int) - 48) = ((chars s)[i].toNat : Int) - 48 := wrap_id (by omega) (by omega)
        have hw4 : IntKind.i64.wrap (10 * (n : Int) + (((chars s)[i].toNat : Int) - 48)) = ((n * 10 + ((chars s)[i].toNat - 48) : Nat) : Int) := by rw [wrap_id (by omega) (by omega)]; omega
        have c1 : ¬ ((chars s)[i].toNat : Int) < 48 := by omega
        have c2 : ¬ (57 : Int) < ((chars s)[i].toNat : Int) := by omega
        refine ⟨(n * 10 + ((chars s)[i].toNat - 48), i + 1), ?_, ⟨by simp only; omega, ?_, ?_⟩, by simp only; omega⟩
        · simp only [sl_zero, sl_succ, lenD_str, Option.bind_some, bin_lss, hi', decide_true, ifD_B, if_true, hch, c1, decide_false, gate_f, Bool.false_eq_true, if_false, bin_gtr, c2, pickD_B, bin_mul, hw1, bin_sub, hw2, convD, hw3, bin_add, hw4, hw]
        · simp only
          rw [htk, valF_snoc, g2]
        · simp only
          rw [htk]
          intro b hb
          rcases List.mem_append.1 hb with hb | hb
          · exact g3 b hb
          · rw [List.mem_singleton.1 hb]; exact hd
      · right
        refine ⟨.ret [I (-1)] [], ?_, rfl, ?_⟩
        · by_cases c1 : ((chars s)[i].toNat : Int) < 48
          · simp -implicitDefEqProofs [hi', hch, c1]
          · have c2 : (57 : Int) < ((chars s)[i].toNat : Int) := by
              have : ¬ (48 ≤ (chars s)[i].toNat ∧ (chars s)[i].toNat ≤ 57) := fun e => hd (dig_iff.2 e)
              omega
            simp -implicitDefEqProofs [hi', hch, c1, c2]
        · rw [if_neg]
          intro hall
          exact hd (List.all_eq_true.1 hall _ (List.getElem_mem hl))
    · right
      have hi' : ¬ (i : Int) < (s.size : Int) := by omega
      have hie : (chars s).take i = chars s := List.take_of_length_le (by omega)
      rw [hie] at g2 g3
      refine ⟨.ext 0 [I (n : Int)], ?_, rfl, ?_⟩
      · simp -implicitDefEqProofs [hi']
      · rw [if_pos (List.all_eq_true.2 g3), g2]
  · rintro o rfl
    by_cases ha : (chars s).all dig = true
    · have hr : readT s = (valF 0 (chars s) : Int) := by
        unfold readT readL
        rw [if_pos ⟨⟨by omega, by omega⟩, fun g => h2 ⟨by have := g.1; rw [hhead] at this; exact Option.some.inj this, g.2⟩, ha⟩]
      rw [if_pos ha, hr]
      rfl
    · have hr : readT s = -1 := by
        unfold readT readL
        rw [if_neg (fun g => ha g.2.2)]
      rw [if_neg ha, hr]
      rfl
theorem decDigits_len {u : Nat} (h : u < 1000000) : (Lib.decDigits u).length ≤ 6 := numT_size 5 u (by omega)
theorem readL_dec {u : Nat} (h : u < 1000000) : readL (Lib.decDigits u) = (u : Int) := by
  have h1 := decDigits_ne u
  have h2 := decDigits_len h
  have h3 : 1 ≤ (Lib.decDigits u).length := List.length_pos_iff.2 h1
  have hno : ¬ ((Lib.decDigits u).head? = some 48 ∧ 1 < (Lib.decDigits u).length) := by
    rintro ⟨g1, g2⟩
    by_cases hu : 0 < u
    · cases hd : Lib.decDigits u with
      | nil => exact h1 hd
      | cons b t =>
        rw [hd] at g1
        exact decDigits_head u hu b t hd (by simpa using g1)
    · have : u = 0 := by omega
      subst this
      rw [Lib.decDigits_one (by decide)] at g2
      simp at g2
  unfold readL
  rw [if_pos ⟨⟨h3, h2⟩, hno, List.all_eq_true.2 (decDigits_dig u)⟩, valF_dec]
theorem chars_intT (n : Int) (h : 0 ≤ n) : chars (intT n) = Lib.decDigits n.toNat := by
  obtain ⟨u, rfl⟩ := Int.eq_ofNat_of_zero_le h
  rw [intT_nat]
  exact chars_mk _
theorem readT_int {n : Int} (h0 : 0 ≤ n) (h1 : n < 1000000) : readT (intT n) = n := by
  unfold readT
  rw [chars_intT n h0, readL_dec (by omega)]
  omega
theorem atoi_int {n : Int} (h0 : 0 ≤ n) (h1 : n < 1000000) : Lib.atoiAll (chars (intT n)) = .ok n := by
  rw [chars_intT n h0, atoi_dec (by omega)]
  congr 1
  omega
theorem dig_int {n : Int} (h0 : 0 ≤ n) : chars (intT n) ≠ [] ∧ ∀ b ∈ chars (intT n), dig b = true := by
  rw [chars_intT n h0]
  exact ⟨decDigits_ne _, decDigits_dig _⟩
theorem dig_lt {b : UInt8} (h : dig b = true) : b.toNat < 128 := by
  have := dig_iff.1 h
  omega
/-- The numbers of a text whose fields are numerals. -/
theorem numsT_of {s : ByteArray} (hs : ∀ b ∈ chars s, b.toNat < 128) {ns : List Int} (hn : ∀ n ∈ ns, 0 ≤ n ∧ n < 1000000) (h : flds none (chars s) = ns.map fun n => chars (intT n)) : numsT s = ns := by
  unfold numsT
  have hf := fields_ascii s hs
  rw [h] at hf
  have key : ∀ (ws : List ByteArray) (ns : List Int) (acc : List Int), (∀ n ∈ ns, 0 ≤ n ∧ n < 1000000) → ws.map chars = ns.map (fun n => chars (intT n)) → numsG ws acc = acc ++ ns := by
    intro ws
    induction ws with
    | nil =>
      intro ns acc _ e
      cases ns with
      | nil => simp [numsG]
      | cons _ _ => simp at e
    | cons w ws ih =>
      intro ns acc hn e
      cases ns with
      | nil => simp at e
      | cons n ns =>
        rw [List.map_cons, List.map_cons, List.cons.injEq] at e
        have hr := hn n (by simp)
        simp only [numsG]
        rw [e.1, atoi_int hr.1 hr.2]
        simp only
        rw [ih ns (acc ++ [n]) (fun m hm => hn m (by simp [hm])) e.2]
        simp
  simpa using key _ ns [] hn hf

/-! ### orders -/
theorem chars_odT (x : Od) : chars (odT x) = [35] ++ (chars (intT x.1) ++ 32 :: (chars (intT x.2.1) ++ 43 :: (chars (intT x.2.2.1) ++ 32 :: ([98, 121, 32] ++ chars (intT x.2.2.2))))) := by
  simp only [odT, chars_append, List.append_assoc]
  rfl
theorem odT_ascii {x : Od} (h : isOd x = true) : ∀ b ∈ chars (odT x), b.toNat < 128 := by
  obtain ⟨h1, h2, h3, h4⟩ := isOd_iff.1 h
  have d1 := (dig_int (n := x.1) (by omega)).2
  have d2 := (dig_int (n := x.2.1) (by omega)).2
  have d3 := (dig_int (n := x.2.2.1) (by omega)).2
  have d4 := (dig_int (n := x.2.2.2) (by omega)).2
  rw [chars_odT]
  intro b hb
  simp only [List.mem_append, List.mem_cons, List.not_mem_nil, or_false] at hb
  rcases hb with rfl | hb | rfl | hb | rfl | hb | rfl | (rfl | rfl | rfl) | hb <;> first
    | decide
    | exact dig_lt (d1 b hb)
    | exact dig_lt (d2 b hb)
    | exact dig_lt (d3 b hb)
    | exact dig_lt (d4 b hb)
theorem numsT_od {x : Od} (h : isOd x = true) : numsT (odT x) = [x.1, x.2.1, x.2.2.1, x.2.2.2] := by
  obtain ⟨h1, h2, h3, h4⟩ := isOd_iff.1 h
  have d1 := dig_int (n := x.1) (by omega)
  have d2 := dig_int (n := x.2.1) (by omega)
  have d3 := dig_int (n := x.2.2.1) (by omega)
  have d4 := dig_int (n := x.2.2.2) (by omega)
  refine numsT_of (odT_ascii h) (by simp; omega) ?_
  rw [chars_odT, flds_sep _ (by decide), flds_word d1.1 d1.2 (by decide), flds_word d2.1 d2.2 (by decide), flds_word d3.1 d3.2 (by decide), flds_sep _ (by decide), flds_last d4.1 d4.2]
  rfl
def orderI (s : ByteArray) : Option Od :=
  match numsT s with
  | [a, b, c, d] => if isOd (a, b, c, d) = true ∧ odT (a, b, c, d) = s then some (a, b, c, d) else none
  | _ => none
def orderS (s : ByteArray) : Option Od :=
  match splitT 32 s with
  | [w0, w1, _, w3] => if w0 = ⟨#[]⟩ then none else
    match splitT 43 w1 with
    | [t0, t1] => if isOd (readT (w0.extract 1 w0.size), readT t0, readT t1, readT w3) = true ∧ odT (readT (w0.extract 1 w0.size), readT t0, readT t1, readT w3) = s then some (readT (w0.extract 1 w0.size), readT t0, readT t1, readT w3) else none
    | _ => none
  | _ => none
theorem orderI_some {s : ByteArray} {x : Od} (h : orderI s = some x) : isOd x = true ∧ odT x = s := by
  unfold orderI at h
  split at h
  · split at h
    · rename_i hc
      cases h
      exact hc
    · cases h
  · cases h
theorem orderS_some {s : ByteArray} {x : Od} (h : orderS s = some x) : isOd x = true ∧ odT x = s := by
  unfold orderS at h
  split at h
  · split at h
    · cases h
    · split at h
      · split at h
        · rename_i hc
          cases h
          exact hc
        · cases h
      · cases h
  · cases h
theorem orderI_od {x : Od} (h : isOd x = true) : orderI (odT x) = some x := by
  unfold orderI
  rw [numsT_od h]
  simp only
  rw [if_pos (by simp [h])]
theorem not_dig {b : UInt8} {l : List UInt8} (h : ∀ x ∈ l, dig x = true) (hb : dig b = false) : b ∉ l := fun hm => by rw [h b hm] at hb; cases hb
theorem orderS_od {x : Od} (h : isOd x = true) : orderS (odT x) = some x := by
  obtain ⟨h1, h2, h3, h4⟩ := isOd_iff.1 h
  have d1 := dig_int (n := x.1) (by omega)
  have d2 := dig_int (n := x.2.1) (by omega)
  have d3 := dig_int (n := x.2.2.1) (by omega)
  have d4 := dig_int (n := x.2.2.2) (by omega)
  have e32 : splitT 32 (odT x) = [⟨((35 : UInt8) :: chars (intT x.1)).toArray⟩, ⟨(chars (intT x.2.1) ++ 43 :: chars (intT x.2.2.1)).toArray⟩, ⟨#[98, 121]⟩, intT x.2.2.2] := by
    have n1 : (32 : UInt8) ∉ [35] ++ chars (intT x.1) := by
      rw [List.mem_append]
      rintro (hm | hm)
      · simp at hm
      · exact not_dig d1.2 (by decide) hm
    have n2 : (32 : UInt8) ∉ chars (intT x.2.1) ++ 43 :: chars (intT x.2.2.1) := by
      rw [List.mem_append, List.mem_cons]
      rintro (hm | hm | hm)
      · exact not_dig d2.2 (by decide) hm
      · simp at hm
      · exact not_dig d3.2 (by decide) hm
    have hc : chars (odT x) = ([35] ++ chars (intT x.1)) ++ 32 :: ((chars (intT x.2.1) ++ 43 :: chars (intT x.2.2.1)) ++ 32 :: ([98, 121] ++ 32 :: chars (intT x.2.2.2))) := by
      rw [chars_odT]
      simp
    unfold splitT
    rw [hc, splitL_hit n1, splitL_hit n2, splitL_hit (by decide), splitL_miss (not_dig d4.2 (by decide))]
    simp only [List.map_cons, List.map_nil, mk_chars]
    rfl
  have e43 : splitT 43 ⟨(chars (intT x.2.1) ++ 43 :: chars (intT x.2.2.1)).toArray⟩ = [intT x.2.1, intT x.2.2.1] := by
    unfold splitT
    rw [chars_mk, splitL_hit (not_dig d2.2 (by decide)), splitL_miss (not_dig d3.2 (by decide))]
    simp only [List.map_cons, List.map_nil, mk_chars]
  have ew : readT ((⟨((35 : UInt8) :: chars (intT x.1)).toArray⟩ : ByteArray).extract 1 (⟨((35 : UInt8) :: chars (intT x.1)).toArray⟩ : ByteArray).size) = x.1 := by
    have : (⟨((35 : UInt8) :: chars (intT x.1)).toArray⟩ : ByteArray).extract 1 (⟨((35 : UInt8) :: chars (intT x.1)).toArray⟩ : ByteArray).size = intT x.1 := by
      apply chars_inj
      rw [chars_extract, chars_mk, size_list, chars_mk]
      simp only [List.length_cons, List.take_succ_cons, List.drop_succ_cons, List.drop_zero]
      exact List.take_of_length_le (Nat.le_refl _)
    rw [this, readT_int (by omega) (by omega)]
  have hne : ¬ (⟨((35 : UInt8) :: chars (intT x.1)).toArray⟩ : ByteArray) = ⟨#[]⟩ := fun e => by
    have := congrArg chars e
    rw [chars_mk] at this
    cases this
  unfold orderS
  rw [e32]
  simp only
  rw [if_neg hne, e43]
  simp only
  rw [ew, readT_int (n := x.2.1) (by omega) (by omega), readT_int (n := x.2.2.1) (by omega) (by omega), readT_int (n := x.2.2.2) (by omega) (by omega), if_pos (by simp [h])]
theorem order_eq (s : ByteArray) : orderI s = orderS s := by
  cases hi : orderI s with
  | some x =>
    obtain ⟨h1, h2⟩ := orderI_some hi
    rw [← h2, orderS_od h1]
  | none =>
    cases hs : orderS s with
    | none => rfl
    | some x =>
      obtain ⟨h1, h2⟩ := orderS_some hs
      rw [← h2, orderI_od h1] at hi
      cases hi
def ordR (o : Option Od) : Od := o.getD (0, 0, 0, 0)
theorem e_impl_ParseOrder (s : ByteArray) (h : s.size ≤ 1048576) : F_impl_ParseOrder [T s] = some (.ret [od (ordR (orderI s)), B (orderI s).isSome] []) := by
  rw [t_impl_ParseOrder, e_impl_numbersIn s h]
  unfold orderI
  generalize numsT s = ns
  rcases ns with _ | ⟨a, _ | ⟨b, _ | ⟨c, _ | ⟨d, _ | ⟨e, ns⟩⟩⟩⟩⟩
  · simp -implicitDefEqProofs [ordR, bldD, fillD]
  · simp -implicitDefEqProofs [ordR, bldD, fillD]
  · simp -implicitDefEqProofs [ordR, bldD, fillD]
  · simp -implicitDefEqProofs [ordR, bldD, fillD]
  · have hio := e_impl_isOrder (a, b, c, d)
    by_cases h1 : isOd (a, b, c, d) = true
    · have ht := e_impl_orderText (a, b, c, d) h1
      rw [h1] at hio
      by_cases h2 : odT (a, b, c, d) = s
      · simp -implicitDefEqProofs [ordR, bldD, fillD, hio, ht, h1, h2, elemD]
      · simp -implicitDefEqProofs [ordR, bldD, fillD, hio, ht, h1, h2, elemD]
    · rw [Bool.not_eq_true] at h1
      rw [h1] at hio
      simp -implicitDefEqProofs [ordR, bldD, fillD, hio, h1, elemD]
  · have hl : ¬ ((ns.length : Int) + 1 + 1 + 1 + 1 + 1 = 4) := by omega
    simp -implicitDefEqProofs [ordR, bldD, fillD, hl]
theorem splitT_size (c : UInt8) (s : ByteArray) : ∀ w ∈ splitT c s, w.size ≤ s.size := by
  intro w hw
  unfold splitT at hw
  obtain ⟨l, hl, rfl⟩ := List.mem_map.1 hw
  have key : ∀ (m : List UInt8), ∀ l ∈ splitL c m, l.length ≤ m.length := by
    intro m
    induction m with
    | nil => intro l hl; simp [splitL] at hl; simp [hl]
    | cons x m ih =>
      intro l hl
      simp only [splitL] at hl
      split at hl
      · rcases List.mem_cons.1 hl with rfl | hl
        · simp
        · have := ih l hl
          simp; omega
      · generalize hs : splitL c m = t at hl ih
        cases t with
        | nil => exact absurd hs (splitL_ne c m)
        | cons y t =>
          simp only [consH] at hl
          rcases List.mem_cons.1 hl with rfl | hl
          · have := ih y (by simp)
            simp; omega
          · have := ih l (by simp [hl])
            simp; omega
  have := key _ l hl
  rw [size_list, chars_mk]
  exact this
theorem splitT_length (c : UInt8) (s : ByteArray) : (splitT c s).length = (splitL c (chars s)).length := by simp [splitT]
theorem e_spec_ParseOrder (s : ByteArray) (h : s.size ≤ 1048576) : F_spec_ParseOrder [T s] = some (.ret [od (ordR (orderS s)), B (orderS s).isSome] []) := by
  rw [t_spec_ParseOrder]
  have hs : F_spec_l1Split [T s, D.v (Value.int IntKind.u8 32)] = some (.ret [.arr 1 ((splitT 32 s).map T)] []) := e_spec_l1Split s 32 (by omega)
  have hz := splitT_size 32 s
  rw [hs]
  have hll : ((splitT 32 s).length : Int) ≤ 1048577 := by
    have := splitL_length 32 (chars s)
    have h2 := splitT_length 32 s
    have h3 : s.size = (chars s).length := rfl
    omega
  unfold orderS
  generalize splitT 32 s = ws at hz hll
  rcases ws with _ | ⟨w0, _ | ⟨w1, _ | ⟨w2, _ | ⟨w3, _ | ⟨w4, ws⟩⟩⟩⟩⟩
  · simp -implicitDefEqProofs [ordR, bldD, fillD]
  · simp -implicitDefEqProofs [ordR, bldD, fillD]
  · simp -implicitDefEqProofs [ordR, bldD, fillD]
  · simp -implicitDefEqProofs [ordR, bldD, fillD]
  · have e0 : elemD 1 (.arr 1 [T w0, T w1, T w2, T w3]) (I 0) = some [T w0] := rfl
    have e1 : elemD 1 (.arr 1 [T w0, T w1, T w2, T w3]) (I 1) = some [T w1] := rfl
    have e3 : elemD 1 (.arr 1 [T w0, T w1, T w2, T w3]) (I 3) = some [T w3] := rfl
    have emp : (D.v (Value.string { data := { toList := [] } })) = T ⟨#[]⟩ := rfl
    rw [emp]
    by_cases h0 : w0 = ⟨#[]⟩
    · simp -implicitDefEqProofs [ordR, bldD, fillD, e0, h0]
    have hw0 := hz w0 (by simp)
    have hw1 := hz w1 (by simp)
    have hw3 := hz w3 (by simp)
    have hs1 : F_spec_l1Split [T w1, D.v (Value.int IntKind.u8 43)] = some (.ret [.arr 1 ((splitT 43 w1).map T)] []) := e_spec_l1Split w1 43 (by omega)
    have hz1 := splitT_size 43 w1
    have hpos : 1 ≤ w0.size := by
      rcases Nat.lt_or_ge 0 w0.size with g | g
      · exact g
      · exact absurd (chars_inj (b := ⟨#[]⟩) (List.eq_nil_of_length_eq_zero (by rw [← size_list]; omega))) h0
    have hsl : sliceHi true 0 (T w0) (I 1) = some (T (w0.extract 1 w0.size)) := sliceHiS (i := 1) hpos
    have hll1 : ((splitT 43 w1).length : Int) ≤ 1048577 := by
      have := splitL_length 43 (chars w1)
      have h2 := splitT_length 43 w1
      have h3 : w1.size = (chars w1).length := rfl
      omega
    simp only [List.map_cons, List.map_nil, callK_ret, sl_zero, lenD_arr, List.length_cons, List.length_nil, Option.bind_some, bin_neq, show ((0 + 1 + 1 + 1 + 1 : Nat) : Int) = 4 from rfl, decide_true, Bool.not_true, gate_f, Bool.false_eq_true, if_false, e0, e1, e3, Option.map_some, ldD_ptr, takeD_f, chkV_v, bin_eqlS, h0, decide_false, pickD_B, ifD_B, hs1]
    generalize splitT 43 w1 = ts at hz1 hll1
    rcases ts with _ | ⟨t0, _ | ⟨t1, _ | ⟨t2, ts⟩⟩⟩
    · simp -implicitDefEqProofs [ordR, bldD, fillD]
    · simp -implicitDefEqProofs [ordR, bldD, fillD]
    · have f0 : elemD 1 (.arr 1 [T t0, T t1]) (I 0) = some [T t0] := rfl
      have f1 : elemD 1 (.arr 1 [T t0, T t1]) (I 1) = some [T t1] := rfl
      have ht0 := hz1 t0 (by simp)
      have ht1 := hz1 t1 (by simp)
      have r0 := e_spec_l1Read (w0.extract 1 w0.size) (by rw [size_list, chars_extract, List.length_drop, List.length_take, ← size_list]; omega)
      have r1 := e_spec_l1Read t0 (by omega)
      have r2 := e_spec_l1Read t1 (by omega)
      have r3 := e_spec_l1Read w3 (by omega)
      simp only [List.map_cons, List.map_nil, lenD_arr, List.length_cons, List.length_nil, Option.bind_some, bin_neq, show ((0 + 1 + 1 : Nat) : Int) = 2 from rfl, decide_true, Bool.not_true, ifD_B, Bool.false_eq_true, if_false, hsl, f0, f1, Option.map_some, ldD_ptr, takeD_f, chkV_v, r0, r1, r2, r3, callK_ret, sl_zero]
      generalize readT (w0.extract 1 w0.size) = a
      generalize readT t0 = b
      generalize readT t1 = c
      generalize readT w3 = d
      have hio := e_spec_orOne (a, b, c, d)
      by_cases h1 : isOd (a, b, c, d) = true
      · have ht := e_spec_orText (a, b, c, d) h1
        rw [h1] at hio
        by_cases h2 : odT (a, b, c, d) = s
        · simp -implicitDefEqProofs [ordR, bldD, fillD, hio, ht, h1, h2]
        · simp -implicitDefEqProofs [ordR, bldD, fillD, hio, ht, h1, h2]
      · rw [Bool.not_eq_true] at h1
        rw [h1] at hio
        simp -implicitDefEqProofs [ordR, bldD, fillD, hio, h1]
    · have hl : ¬ ((ts.length : Int) + 1 + 1 + 1 = 2) := by omega
      simp -implicitDefEqProofs [ordR, bldD, fillD, hl]
  · have hl : ¬ ((ws.length : Int) + 1 + 1 + 1 + 1 + 1 = 4) := by omega
    simp -implicitDefEqProofs [ordR, bldD, fillD, hl]
theorem e_laws_eqOrder (x : Od) : F_laws_eqOrder [od x, od x] = some (.ret [B true] []) := by
  rw [t_laws_eqOrder]
  simp -implicitDefEqProofs
theorem law_ParseOrder (s : ByteArray) : F_laws_FnExactParseOrder [T s] = some (.ret [B true] []) := by
  rw [t_laws_FnExactParseOrder]
  by_cases h : 1048576 < (s.size : Int)
  · simp -implicitDefEqProofs [h]
  · simp -implicitDefEqProofs [h, e_spec_ParseOrder s (by omega), e_impl_ParseOrder s (by omega), order_eq, e_laws_eqOrder]
end Go.Proofs.YtfjkapnonljdeaaDoor
