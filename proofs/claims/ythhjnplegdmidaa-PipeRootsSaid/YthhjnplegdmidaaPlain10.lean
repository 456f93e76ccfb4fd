/- The plain law of PipeAdds: what flows in a pipe is what is drawn at its end, and what flows on. -/
import Derived.Test.YthhjnplegdmidaaPlain9
namespace Go.Proofs.Ythhjnplegdmidaa
/-- what flows on from a node, in the first k pipes -/
def outAt (l : List Pipe) (fs : List Int) (n : Int) : Nat → Int
  | 0 => 0
  | k + 1 => outAt l fs n k + if (l.getD k Pipe.zero).from_ = n then fs.getD k 0 else 0
/-- what is drawn at the ends of the first k pipes -/
def allAt (l : List Pipe) (ds : List Draw) : Nat → Int
  | 0 => 0
  | k + 1 => allAt l ds k + sumAt ds (l.getD k Pipe.zero).to_
theorem outAt_snoc (l : List Pipe) (p : Pipe) (fs : List Int) (x n : Int) (hf : fs.length = l.length) : ∀ k, k ≤ l.length → outAt (l ++ [p]) (fs ++ [x]) n k = outAt l fs n k
  | 0, _ => rfl
  | k + 1, hk => by
    have ih := outAt_snoc l p fs x n hf k (by omega)
    have e1 : (l ++ [p]).getD k Pipe.zero = l.getD k Pipe.zero := by simp only [List.getD]; rw [List.getElem?_append_left (by omega)]
    have e2 : (fs ++ [x]).getD k 0 = fs.getD k 0 := by simp only [List.getD]; rw [List.getElem?_append_left (by omega)]
    rw [outAt, outAt, ih, e1, e2]
theorem outAt_last (l : List Pipe) (p : Pipe) (fs : List Int) (x n : Int) (hf : fs.length = l.length) : outAt (l ++ [p]) (fs ++ [x]) n (l ++ [p]).length = outAt l fs n l.length + if p.from_ = n then x else 0 := by
  rw [List.length_append, List.length_singleton, outAt, outAt_snoc l p fs x n hf l.length (Nat.le_refl _)]
  have e1 : (l ++ [p]).getD l.length Pipe.zero = p := by simp [List.getD]
  have e2 : (fs ++ [x]).getD l.length 0 = x := by rw [← hf]; simp [List.getD]
  rw [e1, e2]
theorem allAt_snoc (l : List Pipe) (p : Pipe) (ds : List Draw) : ∀ k, k ≤ l.length → allAt (l ++ [p]) ds k = allAt l ds k
  | 0, _ => rfl
  | k + 1, hk => by
    have ih := allAt_snoc l p ds k (by omega)
    have e1 : (l ++ [p]).getD k Pipe.zero = l.getD k Pipe.zero := by simp only [List.getD]; rw [List.getElem?_append_left (by omega)]
    rw [allAt, allAt, ih, e1]
theorem allAt_last (l : List Pipe) (p : Pipe) (ds : List Draw) : allAt (l ++ [p]) ds (l ++ [p]).length = allAt l ds l.length + sumAt ds p.to_ := by
  rw [List.length_append, List.length_singleton, allAt, allAt_snoc l p ds l.length (Nat.le_refl _)]
  simp
/-- nothing flows on from a node where no pipe begins -/
theorem outAt_none (l : List Pipe) (fs : List Int) (n : Int) : ∀ k, k ≤ l.length → (∀ j (hj : j < l.length), j < k → l[j].from_ ≠ n) → outAt l fs n k = 0
  | 0, _, _ => rfl
  | k + 1, hk, h => by
    rw [outAt, outAt_none l fs n k (by omega) fun j hj h1 => h j hj (by omega)]
    have := h k (by omega) (by omega)
    simp [List.getD, show k < l.length by omega, this]
theorem flow_node {l : List Pipe} (hg : Good l) : ∀ (ds : List Draw) (i : Nat) (hi : i < l.length), (flowsOf l ds).getD i 0 = sumAt ds l[i].to_ + outAt l (flowsOf l ds) l[i].to_ l.length := by
  induction hg with
  | nil => intro ds i hi; simp at hi
  | @snoc l p hl h1 h2 h3 ih =>
    intro ds i hi
    have hg2 : Good (l ++ [p]) := .snoc hl h1 h2 h3
    rw [flowsOf_snoc, outAt_last l p _ _ _ (flowsOf_length _ _)]
    by_cases hlt : i < l.length
    · have e : (l ++ [p])[i] = l[i] := by rw [List.getElem_append_left hlt]
      rw [e]
      have hne : l[i].to_ ≠ p.to_ := by
        have := List.pairwise_iff_getElem.1 (good_apart hg2) i l.length hi (by simp) hlt
        rw [List.getElem_append_left hlt, List.getElem_append_right (Nat.le_refl _)] at this
        simpa using this
      have h4 := ih (send p ds) i hlt
      rw [sumAt_send p ds _ hne] at h4
      have e2 : (flowsOf l (send p ds) ++ [sumAt ds p.to_]).getD i 0 = (flowsOf l (send p ds)).getD i 0 := by
        simp only [List.getD]
        rw [List.getElem?_append_left (by rw [flowsOf_length]; exact hlt)]
      rw [e2, h4]
      by_cases h5 : p.from_ = l[i].to_
      · rw [if_pos h5, if_pos h5.symm]; omega
      · rw [if_neg h5, if_neg (fun h => h5 h.symm)]; omega
    · have hie : i = l.length := by simp at hi; omega
      subst hie
      have e : (l ++ [p])[l.length] = p := by rw [List.getElem_append_right (Nat.le_refl _)]; simp
      rw [e]
      have e2 : (flowsOf l (send p ds) ++ [sumAt ds p.to_]).getD l.length 0 = sumAt ds p.to_ := by
        simp only [List.getD]
        rw [List.getElem?_append_right (by rw [flowsOf_length]; omega), flowsOf_length, Nat.sub_self]
        rfl
      have hz := outAt_none l (flowsOf l (send p ds)) p.to_ l.length (Nat.le_refl _) (fun j hj _ => by
        have := from_ne hg2 (k := j) (j := l.length) (by simp; omega) (by simp) (by omega)
        rw [e, List.getElem_append_left hj] at this
        exact fun h => this h.symm)
      have hp : p.from_ ≠ p.to_ := by
        have := from_ne hg2 (k := l.length) (j := l.length) (by simp) (by simp) (Nat.le_refl _)
        rw [e] at this
        exact fun h => this h.symm
      rw [e2, hz, if_neg hp]
      omega
/-- what a draw behind the last pipe adds to all that is drawn -/
theorem allAt_send {p : Pipe} {ds : List Draw} {l : List Pipe} (hap : ∀ q ∈ l, q.to_ ≠ p.to_) : ∀ k, k ≤ l.length → allAt l (send p ds) k = allAt l ds k + (((l.take k).filter fun q => decide (q.to_ = p.from_)).length : Int) * sumAt ds p.to_
  | 0, _ => by simp [allAt]
  | k + 1, hk => by
    have hkl : k < l.length := by omega
    have ih := allAt_send (ds := ds) hap k (by omega)
    rw [allAt, allAt, ih, List.take_succ_eq_append_getElem hkl, List.filter_append, List.length_append]
    have e : l.getD k Pipe.zero = l[k] := by simp [List.getD, hkl]
    rw [e, sumAt_send p ds _ (hap l[k] (List.getElem_mem hkl))]
    by_cases h : l[k].to_ = p.from_
    · simp [h, Int.add_mul]; omega
    · simp [h]; omega
theorem count_one {l : List Pipe} (h : l.Pairwise fun p q => p.to_ ≠ q.to_) {n : Int} (hn : l.any (fun q => decide (q.to_ = n)) = true) : (l.filter fun q => decide (q.to_ = n)).length = 1 := by
  induction l with
  | nil => simp at hn
  | cons x r ih =>
    rw [List.pairwise_cons] at h
    by_cases hx : x.to_ = n
    · have : r.filter (fun q => decide (q.to_ = n)) = [] := by
        rw [List.filter_eq_nil_iff]
        intro q hq
        have := h.1 q hq
        simp
        intro e
        exact this (hx.trans e.symm)
      simp [hx, this]
    · rw [List.any_cons] at hn
      simp [hx] at hn
      simp [hx]
      exact ih h.2 (by simpa using hn)
theorem flow_all {l : List Pipe} (hg : Good l) : ∀ ds : List Draw, outAt l (flowsOf l ds) 0 l.length = allAt l ds l.length := by
  induction hg with
  | nil => intro ds; rfl
  | @snoc l p hl h1 h2 h3 ih =>
    intro ds
    have hap : ∀ q ∈ l, q.to_ ≠ p.to_ := by
      intro q hq
      unfold twice at h2
      rw [List.any_eq_false] at h2
      have := h2 q hq
      simp at this
      exact this.2
    rw [flowsOf_snoc, outAt_last l p _ _ _ (flowsOf_length _ _), allAt_last, ih (send p ds), allAt_send hap l.length (Nat.le_refl _), List.take_length]
    unfold known at h3
    by_cases h0 : p.from_ = 0
    · have hz : l.filter (fun q => decide (q.to_ = p.from_)) = [] := by
        rw [List.filter_eq_nil_iff]
        intro q hq
        have := good_in hl q hq
        unfold inR at this
        simp only [decide_eq_true_eq] at this
        simp
        omega
      rw [hz, if_pos h0]
      simp
    · have h3' : l.any (fun q => decide (q.to_ = p.from_)) = true := by simpa [h0] using h3
      rw [count_one (good_apart hl) h3', if_neg h0]
      simp
theorem outAt_bd {l : List Pipe} {fs : List Int} {m : Int} (hm : 0 ≤ m) (h : ∀ x ∈ fs, 0 ≤ x ∧ x ≤ m) (n : Int) : ∀ k : Nat, 0 ≤ outAt l fs n k ∧ outAt l fs n k ≤ m * k
  | 0 => by simp [outAt]
  | k + 1 => by
    have ih := outAt_bd hm h n k (l := l)
    have hx : 0 ≤ fs.getD k 0 ∧ fs.getD k 0 ≤ m := by
      by_cases hi : k < fs.length
      · have := h fs[k] (List.getElem_mem hi)
        simpa [List.getD, hi] using this
      · simp [List.getD, List.getElem?_eq_none (Nat.le_of_not_lt hi)]; exact hm
    rw [outAt]
    have e : m * ((k + 1 : Nat) : Int) = m * k + m := by rw [Int.natCast_add, Int.mul_add]; simp
    rw [e]
    split <;> omega
theorem allAt_bd {l : List Pipe} {ds : List Draw} {m : Int} (hm : 0 ≤ m) (h : ∀ n, 0 ≤ sumAt ds n ∧ sumAt ds n ≤ m) : ∀ k : Nat, 0 ≤ allAt l ds k ∧ allAt l ds k ≤ m * k
  | 0 => by simp [allAt]
  | k + 1 => by
    have ih := allAt_bd hm h k (l := l)
    have hx := h (l.getD k Pipe.zero).to_
    rw [allAt]
    have e : m * ((k + 1 : Nat) : Int) = m * k + m := by rw [Int.natCast_add, Int.mul_add]; simp
    rw [e]
    omega
end Go.Proofs.Ythhjnplegdmidaa
