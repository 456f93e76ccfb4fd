/- The plain law of package brake: forces, what is due, a test. -/
import Derived.Test.YtgmkfjgkpakhfaaPlain
namespace Go.Proofs.Ytgmkfjgkpakhfaa
def forceOf (l : List Brake) (kind t : Int) : Int := (l.map fun x => if x.kind = kind ∧ validB x t = true then x.measured else 0).sum
theorem forceOf_succ {l : List Brake} {k : Nat} (hk : k < l.length) (kind t : Int) : forceOf (l.take (k + 1)) kind t = forceOf (l.take k) kind t + (if l[k].kind = kind ∧ validB l[k] t = true then l[k].measured else 0) := by
  unfold forceOf
  rw [List.take_succ_eq_append_getElem hk, List.map_append, List.sum_append]
  simp
def measB (l : List Brake) : Prop := ∀ x ∈ l, 0 ≤ x.measured ∧ x.measured ≤ 10000000
theorem forceOf_bd {l : List Brake} (h : measB l) (kind t : Int) : 0 ≤ forceOf l kind t ∧ forceOf l kind t ≤ l.length * 10000000 := by
  induction l with
  | nil => simp [forceOf]
  | cons x r ih =>
    have h0 := h x (by simp)
    have h1 := ih fun y hy => h y (by simp [hy])
    have e : forceOf (x :: r) kind t = (if x.kind = kind ∧ validB x t = true then x.measured else 0) + forceOf r kind t := by simp [forceOf]
    rw [e]
    simp only [List.length_cons, Int.natCast_add]
    split <;> omega
theorem measB_take {l : List Brake} (h : measB l) (k : Nat) : measB (l.take k) := fun x hx => h x (List.mem_of_mem_take hx)
def enoughOf (l : List Brake) (load t : Int) : Bool := decide (load ≤ forceOf l 0 t) && decide (load ≤ forceOf l 1 t)
def dueOf (l : List Brake) (t : Int) : List Int := (l.filter fun x => !validB x t).map fun x => x.id
theorem dueOf_succ {l : List Brake} {k : Nat} (hk : k < l.length) (t : Int) : dueOf (l.take (k + 1)) t = if validB l[k] t then dueOf (l.take k) t else dueOf (l.take k) t ++ [l[k].id] := by
  unfold dueOf
  rw [List.take_succ_eq_append_getElem hk, List.filter_append, List.map_append]
  cases h : validB l[k] t <;> simp [h]
theorem dueOf_length (l : List Brake) (t : Int) : (dueOf l t).length ≤ l.length := by
  unfold dueOf; rw [List.length_map]; exact List.length_filter_le _ _
theorem rightGo_ok (pre r : List Brake) (h : rightGo pre r = 0) : ∀ x ∈ r, inR x = true := by
  induction r generalizing pre with
  | nil => intro x hx; simp at hx
  | cons y r ih =>
    rw [rightGo] at h
    split at h
    · split at h
      · intro x hx
        rcases List.mem_cons.1 hx with rfl | hx
        · assumption
        · exact ih _ h x hx
      · omega
    · omega
theorem right_ok {l : List Brake} (h : rightOf l = 0) : l.length ≤ 8 ∧ ∀ x ∈ l, inR x = true := by
  unfold rightOf at h
  split at h
  · omega
  · exact ⟨by omega, rightGo_ok [] l h⟩
theorem right_meas {l : List Brake} (h : rightOf l = 0) : measB l := fun x hx => by
  have := (right_ok h).2 x hx
  simp only [inR, decide_eq_true_eq] at this
  exact ⟨this.2.2.2.2.2.2.2.1, this.2.2.2.2.2.2.2.2.1⟩
/-- the IDs are all different -/
theorem rightGo_ids {pre r : List Brake} (h : rightGo pre r = 0) : (∀ x ∈ pre, ∀ y ∈ r, x.id ≠ y.id) ∧ r.Pairwise fun x y => x.id ≠ y.id := by
  induction r generalizing pre with
  | nil => exact ⟨fun x _ y hy => by simp at hy, List.Pairwise.nil⟩
  | cons y r ih =>
    rw [rightGo] at h
    split at h
    · split at h
      · rename_i hneg
        have I := ih h
        have hn := findF_neg.1 hneg
        refine ⟨fun x hx z hz => ?_, List.Pairwise.cons (fun z hz => I.1 y (by simp) z hz) I.2⟩
        rcases List.mem_cons.1 hz with rfl | hz
        · exact hn x hx
        · exact I.1 x (by simp [hx]) z hz
      · omega
    · omega
theorem right_ids {l : List Brake} (h : rightOf l = 0) {i j : Nat} (hi : i < l.length) (hj : j < l.length) (he : l[i].id = l[j].id) : i = j := by
  unfold rightOf at h
  split at h
  · omega
  · have P := List.pairwise_iff_getElem.1 (rightGo_ids h).2
    rcases Nat.lt_trichotomy i j with hlt | heq | hgt
    · exact absurd he (P i j hi hj hlt)
    · exact heq
    · exact absurd he.symm (P j i hj hi hgt)
/-- the brakes after a test, and the error -/
def setF (l : List Brake) (i : Nat) (m t : Int) : List Brake := l.modify i fun x => { x with tested := t, measured := m }
def testOf (l : List Brake) (id m t : Int) : List Brake × Int :=
  if findF l id < 0 then ([], 8) else if ¬ (0 ≤ m ∧ m ≤ 10000000 ∧ 0 ≤ t ∧ t ≤ 20000000) then ([], 2) else
    if t < (l.getD (findF l id).toNat Brake.zero).tested then ([], 11) else (setF l (findF l id).toNat m t, 0)
end Go.Proofs.Ytgmkfjgkpakhfaa
