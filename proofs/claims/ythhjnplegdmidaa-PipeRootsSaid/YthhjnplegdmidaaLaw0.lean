/- What the laws of the seat share: the set-up's closed facts. -/
import Derived.Test.YthhjnplegdmidaaRows
import Derived.Test.YthhjnplegdmidaaFrame
import Derived.Test.YthhjnplegdmidaaW16
namespace Go.Proofs.Ythhjnplegdmidaa
open Go.RowKit Go.ChangeShapes Go.WideShapes Go.ChangeAt
set_option linter.unusedVariables false
theorem own : ownKnob Try.prog.godebug = none := by kernel_rfl
theorem laidOut : laidOutB Try.prog = true := by kernel_rfl
theorem bytes45 : Try.prog.bytesOf 45 = 40 := by kernel_rfl
theorem bytes42 : Try.prog.bytesOf 42 = 16 := by kernel_rfl
theorem len_ok {n : Nat} (h : n * Try.prog.bytesOf 45 ≤ reachBytes) : n ≤ 4000000000000 := by
  rw [bytes45] at h
  have : reachBytes < 140737488355328 := by simpa using reachBytes_lt
  omega
theorem len_ok2 {n : Nat} (h : n * Try.prog.bytesOf 42 ≤ reachBytes) : n ≤ 9000000000000 := by
  rw [bytes42] at h
  have : reachBytes < 140737488355328 := by simpa using reachBytes_lt
  omega
theorem tot_le {ds : List Draw} (h : ∀ x ∈ ds, x.flow ≤ 100000) : tot ds ≤ 100000 * ds.length := by
  unfold tot
  induction ds with
  | nil => simp
  | cons d r ih =>
    have h0 := h d (by simp)
    have h1 := ih fun x hx => h x (by simp [hx])
    simp only [List.map_cons, List.sum_cons, List.length_cons]
    omega
/-- what follows of accepted arguments -/
theorem acc_use {l : List Pipe} {ds : List Draw} {root : Int} (h : accB l ds root = true) :
    Good l ∧ l.length ≤ 64 ∧ ds.length ≤ 200 ∧ posD ds ∧ tot ds ≤ 20000000 ∧ (-10000000 ≤ root ∧ root ≤ 10000000) ∧ ∀ x ∈ ds, 0 ≤ x.flow ∧ x.flow ≤ 100000 := by
  unfold accB drawsB at h
  simp only [Bool.and_eq_true, decide_eq_true_eq, List.all_eq_true] at h
  obtain ⟨⟨⟨⟨h1, h2⟩, h3⟩, h4, h5⟩, h6⟩ := h
  have hf : ∀ x ∈ ds, 0 ≤ x.flow ∧ x.flow ≤ 100000 := fun x hx => by
    have := h4 x hx
    unfold flowOk at this
    simpa using this
  have ht := tot_le fun x hx => (hf x hx).2
  exact ⟨(good_right h2).1, h1, h3, fun x hx => (hf x hx).1, by omega, h6, hf⟩
end Go.Proofs.Ythhjnplegdmidaa
