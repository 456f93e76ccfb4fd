/- What the law of the seat needs: the set-up's closed facts; what right sections are. -/
import Derived.Test.YtogaepijfbgniaaRows
import Derived.Test.YtogaepijfbgniaaFrame
import Derived.Test.YtogaepijfbgniaaP1
import Derived.Test.YtogaepijfbgniaaW10
import Derived.Test.YtogaepijfbgniaaW13
import Derived.Test.YtogaepijfbgniaaPlain10
namespace Go.Proofs.Ytogaepijfbgniaa
open Go.RowKit Go.ChangeShapes Go.WideShapes Go.ChangeAt
set_option linter.unusedVariables false
theorem own : ownKnob Try.prog.godebug = none := by kernel_rfl
theorem laidOut : laidOutB Try.prog = true := by kernel_rfl
theorem len_ok {n : Nat} (h : n * Try.prog.bytesOf 33 ≤ reachBytes) : n ≤ 9000000000000 := by
  rw [show Try.prog.bytesOf 33 = 24 by kernel_rfl] at h
  have : reachBytes < 140737488355328 := by simpa using reachBytes_lt
  omega
theorem len_ok2 {n : Nat} (h : n * Try.prog.bytesOf 35 ≤ reachBytes) : n ≤ 9000000000000 := by
  rw [show Try.prog.bytesOf 35 = 32 by kernel_rfl] at h
  have : reachBytes < 140737488355328 := by simpa using reachBytes_lt
  omega
theorem rightGo_use : ∀ (l pre : List Sec), rightGo pre l = 0 → (∀ x ∈ l, inR x = true) ∧ Diff l ∧ ∀ x ∈ l, ∀ y ∈ pre, y.id ≠ x.id := by
  intro l
  induction l with
  | nil => intro pre _; exact ⟨fun x hx => by simp at hx, List.Pairwise.nil, fun x hx => by simp at hx⟩
  | cons p r ih =>
    intro pre h
    unfold rightGo at h
    split at h
    · rename_i he
      obtain ⟨h1, h2, h3⟩ := ih _ h
      unfold errAt at he
      split at he
      · rename_i hi
        split at he
        · simp at he
        · rename_i htw
          unfold twice at htw
          rw [Bool.not_eq_true, List.any_eq_false] at htw
          refine ⟨fun x hx => ?_, List.pairwise_cons.2 ⟨fun x hx => ?_, h2⟩, fun x hx y hy => ?_⟩
          · rcases List.mem_cons.1 hx with rfl | hx
            · exact hi
            · exact h1 x hx
          · exact h3 x hx p (by simp)
          · rcases List.mem_cons.1 hx with rfl | hx
            · simpa using htw y hy
            · exact h3 x hx y (by simp [hy])
      · simp at he
    · rename_i he; exact absurd h he
/-- what right sections are -/
theorem right_use {l : List Sec} (h : rightOf l = 0) : l.length ≤ 8 ∧ (∀ x ∈ l, 1 ≤ x.seconds ∧ x.seconds ≤ 86400) ∧ (∀ x ∈ l, 0 ≤ x.people ∧ x.people ≤ 1000) ∧ Diff l := by
  unfold rightOf at h
  split at h
  · simp at h
  · obtain ⟨h1, h2, _⟩ := rightGo_use l [] h
    refine ⟨by omega, fun x hx => ?_, fun x hx => ?_, h2⟩
    · have := h1 x hx
      unfold inR at this
      simp only [decide_eq_true_eq] at this
      omega
    · have := h1 x hx
      unfold inR at this
      simp only [decide_eq_true_eq] at this
      omega
end Go.Proofs.Ytogaepijfbgniaa
