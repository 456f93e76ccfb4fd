/- The closure's answer over the row of the pressures. -/
import Derived.Test.YthhjnplegdmidaaW9
import Derived.Test.YthhjnplegdmidaaPlain5
namespace Go.Proofs.Ythhjnplegdmidaa
theorem find_at {l : List Pipe} (hg : Good l) {m : Nat} (hm : m < l.length) : l.findIdx? (fun p => p.to_ == l[m].to_) = some m := by
  rw [List.findIdx?_eq_some_iff_getElem]
  refine ⟨hm, by simp, fun j hj => ?_⟩
  have := List.pairwise_iff_getElem.1 (good_apart hg) j m (by omega) hm hj
  simpa using this
theorem pressAt_row {l : List Pipe} (hg : Good l) (fs : List Int) (root : Int) {k : Nat} (hk : k ≤ l.length) {n : Int} (hn : known (l.take k) n = true) :
    pressAt l (presRow l fs root k) root n = (pR fs root (l.take k).reverse n, true) := by
  by_cases h0 : n = 0
  · subst h0
    rw [pR_behind fs root 0 k (i := 0) (by omega) hk (fun j hj _ _ => by
      have := good_in hg l[j] (List.getElem_mem hj)
      unfold inR at this
      simp only [decide_eq_true_eq] at this
      omega)]
    simp [pressAt, pR]
  · unfold known at hn
    simp only [Bool.or_eq_true, decide_eq_true_eq, List.any_eq_true] at hn
    rcases hn with hn | ⟨q, hq, rfl⟩
    · exact absurd hn h0
    · obtain ⟨m, hm, rfl⟩ := List.mem_iff_getElem.1 hq
      have hm2 : m < k := by simp at hm; omega
      have hm3 : m < l.length := by omega
      rw [List.getElem_take] at h0 ⊢
      unfold pressAt
      rw [if_neg h0, find_at hg hm3]
      rw [pR_behind fs root _ k (i := m + 1) (by omega) hk (fun j hj h4 h5 => by
        have := List.pairwise_iff_getElem.1 (good_apart hg) m j hm3 hj (by omega)
        exact fun e => this e.symm)]
      simp [presRow, hm2, hm3, pEnd]
end Go.Proofs.Ythhjnplegdmidaa
