/- What the laws of the seat share: the set-up's closed facts; what right sections are. -/
import Derived.Test.YtidlbhheakhkhaaRows
import Derived.Test.YtidlbhheakhkhaaFrame
import Derived.Test.YtidlbhheakhkhaaW14
namespace Go.Proofs.Ytidlbhheakhkhaa
open Go.RowKit Go.ChangeShapes Go.WideShapes Go.ChangeAt
set_option linter.unusedVariables false
theorem own : ownKnob Try.prog.godebug = none := by kernel_rfl
theorem laidOut : laidOutB Try.prog = true := by kernel_rfl
theorem len_ok {n : Nat} (h : n * Try.prog.bytesOf 39 ≤ reachBytes) : n ≤ 9000000000000 := by
  rw [show Try.prog.bytesOf 39 = 24 by kernel_rfl] at h
  have : reachBytes < 140737488355328 := by simpa using reachBytes_lt
  omega
theorem len_ok2 {n : Nat} (h : n * Try.prog.bytesOf 43 ≤ reachBytes) : n ≤ 9000000000000 := by
  rw [show Try.prog.bytesOf 43 = 32 by kernel_rfl] at h
  have : reachBytes < 140737488355328 := by simpa using reachBytes_lt
  omega
/-- what Plan tells, and the reference: one and the same -/
theorem plan_two (l : List Sec) (hl : l.length ≤ 8) (hs : ∀ x ∈ l, 1 ≤ x.seconds ∧ x.seconds ≤ 86400) (t : Int) : ∃ (js : List Job) (n x : Int), js.length ≤ 8 ∧ (∀ A c W, Secs W A l → Calls Try.prog 14 #[.slice A l.length c, .int .i64 t] W (PlanPost W js n x)) ∧ ∀ A c W, Secs W A l → Calls Try.prog 15 #[.slice A l.length c, .int .i64 t] W (PlanPost W js n x) := by
  by_cases ht : 1 ≤ t ∧ t ≤ 3
  · obtain ⟨T, rfl⟩ := Int.eq_ofNat_of_zero_le (show 0 ≤ t by omega)
    have hT : 1 ≤ T ∧ T ≤ 3 := by omega
    refine ⟨planJobs l T, planEnd l T, 0, ?_, fun A c W h => Plan_any A c l T hT hl hs W h, fun A c W h => refPlan_any A c l T hT hl hs W h⟩
    have := need_length l
    unfold planJobs
    rw [jobsTo_length]
    omega
  · exact ⟨[], 0, 2, by simp, fun A c W h => Plan_out A c _ t (by omega) W, fun A c W h => refPlan_out A c _ t (by omega) W⟩
theorem bound_two (l : List Sec) (hl : l.length ≤ 8) (hs : ∀ x ∈ l, 1 ≤ x.seconds ∧ x.seconds ≤ 86400) (t : Int) (ht : I64 t) : (∀ A c W, Secs W A l → Calls Try.prog 21 #[.slice A l.length c, .int .i64 t] W fun e w' => e = .returned (.int .i64 (boundOf l t)) ∧ Below W.heap.size W w') ∧ ∀ A c W, Secs W A l → Calls Try.prog 22 #[.slice A l.length c, .int .i64 t] W fun e w' => e = .returned (.int .i64 (boundOf l t)) ∧ Below W.heap.size W w' := by
  unfold I64 at ht
  by_cases h1 : t < 1
  · have e : boundOf l t = 0 := if_pos h1
    rw [e]
    exact ⟨fun A c W h => Bound_out A c _ t h1 W, fun A c W h => refBound_out A c _ t h1 W⟩
  · obtain ⟨T, rfl⟩ := Int.eq_ofNat_of_zero_le (show 0 ≤ t by omega)
    exact ⟨fun A c W h => Bound_pos A c l T (by omega) (by omega) hl hs W h, fun A c W h => refBound_pos A c l T (by omega) (by omega) hl hs W h⟩
theorem rightGo_use : ∀ (l pre : List Sec), rightGo pre l = 0 → (∀ x ∈ l, inR x = true) ∧ Diff l ∧ ∀ x ∈ l, ∀ y ∈ pre, y.id ≠ x.id := by
  intro l
  induction l with
  | nil => intro pre _; exact ⟨fun x hx => by simp at hx, List.Pairwise.nil, fun x hx => by simp at hx⟩
  | cons p r ih =>
    intro pre h
    unfold rightGo at h
    split at h
    · rename_i he
      obtain ⟨h1, h2, h3⟩ := ih _ h
      unfold errAt at he
      split at he
      · rename_i hi
        split at he
        · simp at he
        · rename_i htw
          unfold twice at htw
          rw [Bool.not_eq_true, List.any_eq_false] at htw
          refine ⟨fun x hx => ?_, List.pairwise_cons.2 ⟨fun x hx => ?_, h2⟩, fun x hx y hy => ?_⟩
          · rcases List.mem_cons.1 hx with rfl | hx
            · exact hi
            · exact h1 x hx
          · exact h3 x hx p (by simp)
          · rcases List.mem_cons.1 hx with rfl | hx
            · simpa using htw y hy
            · exact h3 x hx y (by simp [hy])
      · simp at he
    · rename_i he; exact absurd h he
/-- what right sections are -/
theorem right_use {l : List Sec} (h : rightOf l = 0) : l.length ≤ 8 ∧ (∀ x ∈ l, 1 ≤ x.seconds ∧ x.seconds ≤ 86400) ∧ (∀ x ∈ l, 0 ≤ x.people ∧ x.people ≤ 1000) ∧ Diff l := by
  unfold rightOf at h
  split at h
  · simp at h
  · obtain ⟨h1, h2, _⟩ := rightGo_use l [] h
    refine ⟨by omega, fun x hx => ?_, fun x hx => ?_, h2⟩
    · have := h1 x hx
      unfold inR at this
      simp only [decide_eq_true_eq] at this
      omega
    · have := h1 x hx
      unfold inR at this
      simp only [decide_eq_true_eq] at this
      omega
end Go.Proofs.Ytidlbhheakhkhaa
