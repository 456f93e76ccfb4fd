/- The plain law of Path: from the node back to the root. -/
import Derived.Test.YthhjnplegdmidaaPlain7
namespace Go.Proofs.Ythhjnplegdmidaa
def idAt (l : List Pipe) (i : Nat) : Int := (l.getD i Pipe.zero).id
/-- the ids on the way to a node -/
def pathOf (l : List Pipe) (n : Int) : List Int := if known l n then (wayOf l n).1.map (idAt l) else []
theorem wayR_step {l : List Pipe} {m : Nat} (hm : m < l.length) (n : Int) :
    wayR (l.take (m + 1)).reverse n = if l[m].to_ = n then ((wayR (l.take m).reverse l[m].from_).1 ++ [m], (wayR (l.take m).reverse l[m].from_).2) else wayR (l.take m).reverse n := by
  rw [List.take_succ_eq_append_getElem hm, List.reverse_append]
  simp only [List.reverse_cons, List.reverse_nil, List.nil_append, List.cons_append]
  rw [wayR]
  have hlen : (l.take m).reverse.length = m := by simp; omega
  rw [hlen]
theorem wayR_behind {l : List Pipe} (n : Int) {i : Nat} : ∀ k, i ≤ k → k ≤ l.length → (∀ j (hj : j < l.length), i ≤ j → j < k → l[j].to_ ≠ n) → wayR (l.take k).reverse n = wayR (l.take i).reverse n := by
  intro k
  induction k with
  | zero => intro h1 _ _; obtain rfl : i = 0 := by omega
            rfl
  | succ k ih =>
    intro h1 h2 h3
    by_cases e : i = k + 1
    · subst e; rfl
    · rw [wayR_step (by omega), if_neg (h3 k (by omega) (by omega) (by omega))]
      exact ih (by omega) (by omega) (fun j hj h4 h5 => h3 j hj h4 (by omega))
/-- where the way back stands -/
def PInv (l : List Pipe) (n0 : Int) (m : Nat) (nd : Int) (out : List Int) : Prop :=
  (wayR l.reverse n0).1.map (idAt l) = (wayR (l.take m).reverse nd).1.map (idAt l) ++ out.reverse ∧ (wayR l.reverse n0).2 = (wayR (l.take m).reverse nd).2
theorem pinv_start (l : List Pipe) (n0 : Int) : PInv l n0 l.length n0 [] := by simp [PInv]
theorem pinv_step {l : List Pipe} (hg : Good l) {n0 nd : Int} {m : Nat} {out : List Int} (h : PInv l n0 m nd out) {i : Nat} (hi : i < m) (hm : m ≤ l.length) (ht : (l[i]'(by omega)).to_ = nd) : PInv l n0 i (l[i]'(by omega)).from_ (out ++ [(l[i]'(by omega)).id]) := by
  have hil : i < l.length := by omega
  unfold PInv at *
  have e : wayR (l.take m).reverse nd = ((wayR (l.take i).reverse l[i].from_).1 ++ [i], (wayR (l.take i).reverse l[i].from_).2) := by
    rw [wayR_behind nd m (i := i + 1) (by omega) hm (fun j hj h4 _ => by
      have := List.pairwise_iff_getElem.1 (good_apart hg) i j hil hj (by omega)
      rw [← ht]
      exact fun e => this e.symm), wayR_step hil, if_pos ht]
  rw [e] at h
  obtain ⟨h1, h2⟩ := h
  refine ⟨?_, h2⟩
  rw [h1]
  simp [idAt, List.getD, hil]
theorem pinv_root {l : List Pipe} (hg : Good l) {n0 : Int} {m : Nat} {out : List Int} (h : PInv l n0 m 0 out) (hm : m ≤ l.length) : known l n0 = true ∧ pathOf l n0 = out.reverse := by
  unfold PInv at h
  have e : wayR (l.take m).reverse 0 = ([], 0) := by
    rw [wayR_behind 0 m (i := 0) (by omega) hm (fun j hj _ _ => by
      have := good_in hg l[j] (List.getElem_mem hj)
      unfold inR at this
      simp only [decide_eq_true_eq] at this
      omega)]
    rfl
  rw [e] at h
  have hk : known l n0 = true := by
    rw [← way_known hg]
    unfold wayOf
    simp [h.2]
  refine ⟨hk, ?_⟩
  unfold pathOf wayOf
  rw [if_pos hk]
  simpa using h.1
theorem pinv_none {l : List Pipe} (hg : Good l) {n0 nd : Int} {m : Nat} {out : List Int} (h : PInv l n0 m nd out) (hn : nd ≠ 0) (hf : (l.take m).findIdx? (fun p => p.to_ == nd) = none) : known l n0 = false ∧ pathOf l n0 = [] := by
  unfold PInv at h
  rw [List.findIdx?_eq_none_iff] at hf
  have e : wayR (l.take m).reverse nd = ([], nd) := wayR_none _ _ fun q hq => by
    have := hf q (by simpa using hq)
    simpa using this
  rw [e] at h
  have hk : known l n0 = false := by
    rw [← way_known hg]
    unfold wayOf
    simp [h.2, hn]
  refine ⟨hk, ?_⟩
  unfold pathOf
  rw [hk]
  rfl
end Go.Proofs.Ythhjnplegdmidaa
