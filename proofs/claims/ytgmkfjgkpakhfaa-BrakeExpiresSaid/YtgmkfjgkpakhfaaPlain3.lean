/- The plain law of package brake: a test. -/
import Derived.Test.YtgmkfjgkpakhfaaPlain2
namespace Go.Proofs.Ytgmkfjgkpakhfaa
theorem findF_snoc {a : List Brake} {x : Brake} {id : Int} (h : x.id ≠ id) : findF (a ++ [x]) id = findF a id := by
  induction a with
  | nil => simp [findF, h]
  | cons y r ih =>
    rw [List.cons_append, findF, findF, ih]
theorem findF_next {l : List Brake} (hr : rightOf l = 0) {k : Nat} (hk : k < l.length) (id : Int) : findF (l.take (k + 1)) id = if l[k].id = id then (k : Int) else findF (l.take k) id := by
  split
  · rename_i he
    refine findF_at (k := k) (by simp; omega) (by simpa using he) fun x hx => ?_
    rw [List.take_take, Nat.min_eq_left (by omega)] at hx
    obtain ⟨i, hi, rfl⟩ := List.mem_iff_getElem.1 hx
    simp at hi
    rw [List.getElem_take]
    intro hh
    have := right_ids hr (i := i) (j := k) (by omega) hk (by rw [hh, he])
    omega
  · rename_i hne
    rw [List.take_succ_eq_append_getElem hk]
    exact findF_snoc hne
theorem setF_length (l : List Brake) (i : Nat) (m t : Int) : (setF l i m t).length = l.length := by unfold setF; exact List.length_modify ..
theorem setF_at {l : List Brake} {i : Nat} {m t : Int} {j : Nat} (hj : j < l.length) : (setF l i m t)[j]'(by rw [setF_length]; exact hj) = if i = j then { l[j] with tested := t, measured := m } else l[j] := by
  unfold setF
  rw [List.getElem_modify]
theorem testOf_none {l : List Brake} {id m t : Int} (h : findF l id < 0) : testOf l id m t = ([], 8) := by unfold testOf; rw [if_pos h]
theorem testOf_range {l : List Brake} {id m t : Int} (h : ¬ findF l id < 0) (hr : ¬ (0 ≤ m ∧ m ≤ 10000000 ∧ 0 ≤ t ∧ t ≤ 20000000)) : testOf l id m t = ([], 2) := by unfold testOf; rw [if_neg h, if_pos hr]
theorem testOf_at {l : List Brake} {id m t : Int} {k : Nat} (hk : k < l.length) (h : findF l id = k) (hr : 0 ≤ m ∧ m ≤ 10000000 ∧ 0 ≤ t ∧ t ≤ 20000000) : testOf l id m t = if t < l[k].tested then ([], 11) else (setF l k m t, 0) := by
  unfold testOf
  rw [if_neg (by omega), if_neg (by simpa using hr), h]
  simp [List.getD_eq_getElem?_getD, List.getElem?_eq_getElem hk]
end Go.Proofs.Ytgmkfjgkpakhfaa
