/-
  Draws of notes.
-/
import Derived.Test.YtkhggkbmjdopcaaN6
namespace Go.Proofs.Ytkhggkbmjdopcaa
open Go Go.V
set_option linter.unusedSimpArgs false

theorem Cur.ok.mono {c : Cur} {B C : Nat} (h : c.ok B) (hBC : B ≤ C) : c.ok C := ⟨h.by_, h.len, Nat.le_trans h.at_ hBC, h.lo, h.hi⟩
theorem bldD3 {a b c : Int} : bldD [(0, 1), (1, 1), (2, 1)] [I 0, I 0, I 0] [I a, I b, I c] = some (.agg [I a, I b, I c]) := by
  simp [bldD, fillD]
theorem mkInts {l : List Int} : mkArr 1 (l.map I) = some (intsD l) := by
  have : lenOkD 1 (l.map I).length (l.map I) = true := by
    unfold lenOkD
    simp
  simp only [mkArr, this, if_true]
theorem d_note (c : Cur) (d : Int) (B : Nat) (h : c.ok B) (hB : B ≤ 10000000000) : ∃ (x : Nt) (c' : Cur), F_spec_l1Cur_note [curD c, I d] = some (.ret [nt x] [curD c']) ∧ c'.ok (B + 8) := by
  obtain ⟨v1, c1, e1, l1, u1, k1⟩ := d_pick c 4 B h (by omega) (by omega)
  obtain ⟨v2, c2, e2, l2, u2, k2⟩ := d_pick c1 500 _ k1 (by omega) (by omega)
  obtain ⟨v3, c3, e3, l3, u3, k3⟩ := d_pick c2 60 _ k2 (by omega) (by omega)
  have hw : IntKind.i64.wrap (1 + v2) = 1 + v2 := wrap_id (by omega) (by omega)
  have m1 := mkInts (l := [-1, 9999, 10000])
  have m2 := mkInts (l := [-1, 4])
  have m3 := mkInts (l := [0, 99999, 100000, -9223372036854775808])
  simp only [List.map_cons, List.map_nil] at m1 m2 m3
  rw [t_spec_l1Cur_note]
  by_cases h0 : v3 = 0
  · obtain ⟨v4, c4, e4, l4, k4⟩ := d_among c3 [-1, 9999, 10000] _ k3 (by omega) (by simp) (by simp)
    exact ⟨(v4, v1, 1 + v2), c4, by simp -implicitDefEqProofs [e1, e2, e3, hw, bldD3, h0, m1, e4, -List.map_cons], k4.mono (by omega)⟩
  by_cases h1 : v3 = 1
  · obtain ⟨v4, c4, e4, l4, k4⟩ := d_among c3 [-1, 4] _ k3 (by omega) (by simp) (by simp)
    exact ⟨(d, v4, 1 + v2), c4, by simp -implicitDefEqProofs [e1, e2, e3, hw, bldD3, h0, h1, m2, e4, -List.map_cons], k4.mono (by omega)⟩
  by_cases h2 : v3 = 2
  · obtain ⟨v4, c4, e4, l4, k4⟩ := d_among c3 [0, 99999, 100000, -9223372036854775808] _ k3 (by omega) (by simp) (by simp)
    exact ⟨(d, v1, v4), c4, by simp -implicitDefEqProofs [e1, e2, e3, hw, bldD3, h0, h1, h2, m3, e4, -List.map_cons], k4.mono (by omega)⟩
  exact ⟨(d, v1, 1 + v2), c3, by simp -implicitDefEqProofs [e1, e2, e3, hw, bldD3, h0, h1, h2], k3.mono (by omega)⟩

theorem d_notes (c : Cur) (B : Nat) (h : c.ok B) (hB : B ≤ 1000000000) : ∃ (l : List Nt) (c' : Cur), F_spec_l1Cur_notes [curD c] = some (.ret [nts l] [curD c']) ∧ l.length ≤ 25 ∧ c'.ok (B + 500) := by
  obtain ⟨v1, c1, e1, l1, u1, k1⟩ := d_pick c 5 B h (by omega) (by omega)
  obtain ⟨v2, c2, e2, l2, u2, k2⟩ := d_pick c1 6 _ k1 (by omega) (by omega)
  obtain ⟨b, c3, e3, k3⟩ := d_one c2 12 _ k2 (by omega) (by omega)
  rw [t_spec_l1Cur_notes]
  cases b
  · simp -implicitDefEqProofs only [liveD_agg, Option.bind_some, ref0_eq, e1, e2, e3, callK_ret, sl_zero, ifD_B, Bool.false_eq_true, if_false]
    refine loop_wf_bind (fun X => ∃ l c', X = some (.ret [nts l] [curD c']) ∧ l.length ≤ 25 ∧ c'.ok (B + 500)) (fun a : Cur × List Nt × Int => [curD a.1, nts a.2.1, I a.2.2, I v2]) (fun a => a.1.ok (B + 8 + 10 * a.2.1.length) ∧ (a.2.1.length : Int) ≤ v2) (fun a => 25 - a.2.1.length) (fun o => ∃ (c' : Cur) (l : List Nt), o = .ext 0 [curD c', nts l, I v2] ∧ c'.ok (B + 400) ∧ (l.length : Int) = v2) (fun a hI => ?_) (c3, [], v1) ⟨k3.mono (by simp), by simp; omega⟩ rfl (fun o ho => ?_)
    · obtain ⟨ca, la, da⟩ := a
      obtain ⟨hI1, hI2⟩ := hI
      simp only at hI1 hI2
      by_cases hlt : (la.length : Int) < v2
      · obtain ⟨x, ca1, x1, x2⟩ := d_note ca da _ hI1 (by omega)
        obtain ⟨w, ca2, y1, y2, y3, y4⟩ := d_pick ca1 3 _ x2 (by omega) (by omega)
        have ha := nts_app la [x] (by simp only [List.length_singleton]; omega)
        have hm : mkArr 3 [nt x] = some (nts [x]) := by simp [mkArr, lenOkD]
        have hc : chkA (nts [x]) = some (nts [x]) := chkA_map isV_nt
        refine .inl ⟨(ca2, la ++ [x], IntKind.i64.wrap (da + w)), ?_, ⟨y4.mono (by simp; omega), by simp; omega⟩, by simp; omega⟩
        simp -implicitDefEqProofs [hlt, x1, y1, hm, hc, ha, -appD_eq]
      · refine .inr ⟨.ext 0 [curD ca, nts la, I v2], ?_, rfl, ca, la, rfl, hI1.mono (by omega), by omega⟩
        simp -implicitDefEqProofs [hlt]
    · obtain ⟨cb, lb, rfl, g1, g2⟩ := ho
      by_cases hgt : 1 < v2
      · obtain ⟨bb, cb1, z1, z2⟩ := d_one cb 16 _ g1 (by omega) (by omega)
        have hw : IntKind.i64.wrap (v2 - 1) = ((lb.length - 1 : Nat) : Int) := by rw [wrap_id (by omega) (by omega)]; omega
        have hlb : lb.length - 1 < lb.length := by omega
        cases bb
        · refine ⟨lb, cb1, ?_, by omega, z2.mono (by omega)⟩
          simp -implicitDefEqProofs [hgt, z1]
        · refine ⟨lb.set (lb.length - 1) (0, (lb[lb.length - 1]).2.1, (lb[lb.length - 1]).2.2), cb1, ?_, by simp; omega, z2.mono (by omega)⟩
          have hs := stD_part (z := 3) (L := lb.map nt) (i := lb.length - 1) (f := 0) (v := .int .i64 0) (c := [I (lb[lb.length - 1]).1, I (lb[lb.length - 1]).2.1, I (lb[lb.length - 1]).2.2]) (by simp [hlb]) (by simp)
          simp -implicitDefEqProofs [hgt, z1, hw, hlb, hs, List.map_set]
      · refine ⟨lb, cb, ?_, by omega, g1.mono (by omega)⟩
        simp -implicitDefEqProofs [hgt]
  · obtain ⟨v4, c4, e4, l4, u4, k4⟩ := d_pick c3 2 _ k3 (by omega) (by omega)
    have hw4 : IntKind.i64.wrap (24 + v4) = 24 + v4 := wrap_id (by omega) (by omega)
    simp -implicitDefEqProofs only [liveD_agg, Option.bind_some, ref0_eq, e1, e2, e3, e4, callK_ret, sl_zero, ifD_B, if_true, bin_add, hw4]
    refine loop_wf_bind (fun X => ∃ l c', X = some (.ret [nts l] [curD c']) ∧ l.length ≤ 25 ∧ c'.ok (B + 500)) (fun a : Cur × List Nt × Int => [curD a.1, nts a.2.1, I a.2.2, I (24 + v4)]) (fun a => a.1.ok (B + 8 + 10 * a.2.1.length) ∧ (a.2.1.length : Int) ≤ (24 + v4)) (fun a => 25 - a.2.1.length) (fun o => ∃ (c' : Cur) (l : List Nt), o = .ext 0 [curD c', nts l, I (24 + v4)] ∧ c'.ok (B + 400) ∧ (l.length : Int) = (24 + v4)) (fun a hI => ?_) (c4, [], v1) ⟨k4.mono (by simp), by simp; omega⟩ rfl (fun o ho => ?_)
    · obtain ⟨ca, la, da⟩ := a
      obtain ⟨hI1, hI2⟩ := hI
      simp only at hI1 hI2
      by_cases hlt : (la.length : Int) < (24 + v4)
      · obtain ⟨x, ca1, x1, x2⟩ := d_note ca da _ hI1 (by omega)
        obtain ⟨w, ca2, y1, y2, y3, y4⟩ := d_pick ca1 3 _ x2 (by omega) (by omega)
        have ha := nts_app la [x] (by simp only [List.length_singleton]; omega)
        have hm : mkArr 3 [nt x] = some (nts [x]) := by simp [mkArr, lenOkD]
        have hc : chkA (nts [x]) = some (nts [x]) := chkA_map isV_nt
        refine .inl ⟨(ca2, la ++ [x], IntKind.i64.wrap (da + w)), ?_, ⟨y4.mono (by simp; omega), by simp; omega⟩, by simp; omega⟩
        simp -implicitDefEqProofs [hlt, x1, y1, hm, hc, ha, -appD_eq]
      · refine .inr ⟨.ext 0 [curD ca, nts la, I (24 + v4)], ?_, rfl, ca, la, rfl, hI1.mono (by omega), by omega⟩
        simp -implicitDefEqProofs [hlt]
    · obtain ⟨cb, lb, rfl, g1, g2⟩ := ho
      by_cases hgt : 1 < (24 + v4)
      · obtain ⟨bb, cb1, z1, z2⟩ := d_one cb 16 _ g1 (by omega) (by omega)
        have hw : IntKind.i64.wrap ((24 + v4) - 1) = ((lb.length - 1 : Nat) : Int) := by rw [wrap_id (by omega) (by omega)]; omega
        have hlb : lb.length - 1 < lb.length := by omega
        cases bb
        · refine ⟨lb, cb1, ?_, by omega, z2.mono (by omega)⟩
          simp -implicitDefEqProofs [hgt, z1]
        · refine ⟨lb.set (lb.length - 1) (0, (lb[lb.length - 1]).2.1, (lb[lb.length - 1]).2.2), cb1, ?_, by simp; omega, z2.mono (by omega)⟩
          have hs := stD_part (z := 3) (L := lb.map nt) (i := lb.length - 1) (f := 0) (v := .int .i64 0) (c := [I (lb[lb.length - 1]).1, I (lb[lb.length - 1]).2.1, I (lb[lb.length - 1]).2.2]) (by simp [hlb]) (by simp)
          simp -implicitDefEqProofs [hgt, z1, hw, hlb, hs, List.map_set]
      · refine ⟨lb, cb, ?_, by omega, g1.mono (by omega)⟩
        simp -implicitDefEqProofs [hgt]

end Go.Proofs.Ytkhggkbmjdopcaa
