/-
  What the functions compute: said plainly. (NoteCheck.)
-/
import Derived.Test.YtkhggkbmjdopcaaN2
namespace Go.Proofs.Ytkhggkbmjdopcaa
open Go Go.V

attribute [local simp] boxD liveD atD takeD stD fldD D.cells D.single D.width putCells D.ofCells bin intBin gate gateC pickD callK nth un strBin
abbrev nt (d k g : Int) : D := .agg [I d, I k, I g]

theorem F11_eq (d k g : Int) : F11 [nt d k g] = some (.ret [nt d k g] []) := by
  rw [F11_text]
  simp
theorem F35_eq (a b c : Int) : F35 [I a, I b, I c] = some (.ret [B (decide (b ≤ a) && decide (a ≤ c))] []) := by
  rw [F35_text]
  by_cases h : b ≤ a <;> simp [h]
theorem F38_eq (a b c : Int) : F38 [I a, I b, I c] = some (.ret [B (decide (b ≤ a) && decide (a ≤ c))] []) := by
  rw [F38_text]
  by_cases h : b ≤ a <;> simp [h]
attribute [local simp] F35_eq F38_eq
theorem F36_eq (d k g : Int) : F36 [nt d k g] = some (.ret [B ((decide (0 ≤ d) && decide (d ≤ 9999)) && (decide (0 ≤ k) && decide (k ≤ 3)) && (decide (1 ≤ g) && decide (g ≤ 99999)))] []) := by
  rw [F36_text]
  by_cases h1 : (decide (0 ≤ d) && decide (d ≤ 9999)) = true
  · by_cases h2 : (decide (0 ≤ k) && decide (k ≤ 3)) = true <;> simp [h1, h2]
  · simp [h1]

attribute [local simp] F36_eq F11_eq
theorem F46_eq (a : Int) : F46 [I a] = some (.ret [B (decide (0 ≤ a) && decide (a ≤ 9999))] []) := by
  rw [F46_text]
  simp
attribute [local simp] F46_eq
theorem F39_eq (d k g : Int) : F39 [nt d k g] = F36 [nt d k g] := by
  rw [F39_text, F36_eq]
  by_cases h1 : (decide (0 ≤ d) && decide (d ≤ 9999)) = true
  · by_cases h2 : (decide (0 ≤ k) && decide (k ≤ 3)) = true <;> simp [h1, h2]
  · simp [h1]
theorem F40_eq (a d k g : Int) : F40 [I a, nt d k g] = F37 [I a, nt d k g] := by
  rw [F40_text, F37_text]

theorem F37_eq (a d k g : Int) : ∃ n, F37 [I a, nt d k g] = some (.ret [I n] []) := by
  rw [F37_text]
  exact ⟨_, by simp; rfl⟩
theorem F12_eq (a d k g : Int) : F12 [I a, nt d k g] = F10 [I a, nt d k g] := by
  rw [F12_text, F10_text]
  by_cases h1 : (decide (0 ≤ a) && decide (a ≤ 9972)) = true
  · simp [h1, F39_eq, F40_eq]
  · simp [h1, ifD]
theorem F10_eq (a d k g : Int) : ∃ n b, F10 [I a, nt d k g] = some (.ret [I n, B b] []) := by
  rw [F10_text]
  obtain ⟨n, hn⟩ := F37_eq a d k g
  by_cases h1 : (decide (0 ≤ a) && decide (a ≤ 9972)) = true
  · by_cases h2 : ((decide (0 ≤ d) && decide (d ≤ 9999)) && (decide (0 ≤ k) && decide (k ≤ 3)) && (decide (1 ≤ g) && decide (g ≤ 99999))) = true
    · exact ⟨n, true, by simp [h1, h2, hn, ifD]⟩
    · exact ⟨0, false, by simp [h1, h2, ifD]⟩
  · exact ⟨0, false, by simp [h1, ifD]⟩
theorem F3_eq (a d k g : Int) : F3 [I a, nt d k g] = some (.ret [B true] []) := by
  rw [F3_text]
  obtain ⟨n, b, h⟩ := F10_eq a d k g
  simp [F12_eq, h, tupAt, ifD]

end Go.Proofs.Ytkhggkbmjdopcaa
