/- What the laws of the seat share: the set-up's closed facts. -/
import Derived.Test.YtdddfajchkmehaaRows
import Derived.Test.YtdddfajchkmehaaFrame
import Derived.Test.YtdddfajchkmehaaW14
namespace Go.Proofs.Ytdddfajchkmehaa
open Go.RowKit Go.ChangeShapes Go.WideShapes Go.ChangeAt
set_option linter.unusedVariables false
theorem own : ownKnob Try.prog.godebug = none := by kernel_rfl
theorem laidOut : laidOutB Try.prog = true := by kernel_rfl
/-- what follows for a line for which the functions are defined -/
theorem good_use {x : Line} (h : goodB x = true) : x.shape ∧ x.load.length ≤ 200 ∧ fit x.load 1000000 ∧ rightB x 16 = true := by
  unfold goodB at h
  simp only [Bool.and_eq_true, decide_eq_true_eq] at h
  have hs := (right_use h.2).1
  exact ⟨hs, hs.2.2.2.1, right_fit (by omega) h.2, h.2⟩
theorem new_cases (l : Lift) : (newOf l).2 = 0 ∧ rightB (newOf l).1 0 = true ∨ (newOf l).2 = 1 := by
  unfold newOf
  split
  · rename_i h
    obtain ⟨h1, h2, h3, h4, h5, h6⟩ := h
    refine .inl ⟨rfl, ?_⟩
    obtain ⟨d0, d1, m0, m1, hiff⟩ := two_div ⟨h1, h2⟩ ⟨h3, h4⟩
    have e := hiff.2 h5
    have hpos : 1 ≤ 2 * l.length / l.spacing := by
      by_cases h0 : 2 * l.length / l.spacing = 0
      · rw [h0] at e; omega
      · omega
    apply right_good
    · refine ⟨by simp only; omega, by simp only; omega, ?_, ?_, ?_, by simp only; omega, by simp, by simp only; omega⟩
      · simp only [List.length_replicate]; omega
      · simp only [List.length_replicate]; omega
      · simp only [List.length_replicate, Int.toNat_of_nonneg d0]
        have : 2 * l.length / l.spacing * (1000 * l.spacing) = 1000 * (2 * l.length / l.spacing * l.spacing) := by rw [Int.mul_left_comm]
        rw [this, e]
        omega
    · intro k hk
      simp [okAt]
  · exact .inr rfl
theorem new_fit (l : Lift) : fit (newOf l).1.load 1000000 ∧ (newOf l).1.load.length ≤ 1000000 := by
  unfold newOf
  split
  · rename_i h
    refine ⟨fun y hy => ?_, by simp; omega⟩
    simp at hy
    omega
  · exact ⟨fun y hy => by simp [Line.zero] at hy, by simp [Line.zero]⟩
end Go.Proofs.Ytdddfajchkmehaa
