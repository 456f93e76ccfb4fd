/- The plain law of package weather: sums and peaks step by step. -/
import Derived.Test.YtjnokdpliocmmaaPlain
namespace Go.Proofs.Ytjnokdpliocmmaa
def snowB (l : List Obs) : Prop := ∀ x ∈ l, 0 ≤ x.snow ∧ x.snow ≤ 2000
theorem snowB_take {l : List Obs} (h : snowB l) (k : Nat) : snowB (l.take k) := fun x hx => h x (List.mem_of_mem_take hx)
theorem freshOf_succ {l : List Obs} {k : Nat} (hk : k < l.length) (s : Int) (p : Itv) : freshOf (l.take (k + 1)) s p = freshOf (l.take k) s p + (if countsOf l[k] s p then l[k].snow else 0) := by
  unfold freshOf
  rw [List.take_succ_eq_append_getElem hk, List.map_append, List.sum_append]
  simp
theorem freshOf_bd {l : List Obs} (h : snowB l) (s : Int) (p : Itv) : 0 ≤ freshOf l s p ∧ freshOf l s p ≤ l.length * 2000 := by
  induction l with
  | nil => simp [freshOf]
  | cons x r ih =>
    have h0 := h x (by simp)
    have h1 := ih fun y hy => h y (by simp [hy])
    have e : freshOf (x :: r) s p = (if countsOf x s p then x.snow else 0) + freshOf r s p := by simp [freshOf]
    rw [e]
    simp only [List.length_cons, Int.natCast_add]
    split <;> omega
theorem peakGo_succ {l : List Obs} {k : Nat} (hk : k < l.length) (s : Int) (p : Itv) : peakGo (l.take (k + 1)) s p = peakStep s p (peakGo (l.take k) s p) l[k] := by
  unfold peakGo
  rw [List.take_succ_eq_append_getElem hk, List.foldl_append]
  rfl
theorem rightGo_ok (pre r : List Obs) (h : rightGo pre r = 0) : ∀ x ∈ r, inR x = true := by
  induction r generalizing pre with
  | nil => intro x hx; simp at hx
  | cons y r ih =>
    rw [rightGo] at h
    split at h
    · rename_i he
      intro x hx
      rcases List.mem_cons.1 hx with rfl | hx
      · unfold errAt at he
        split at he
        · assumption
        · omega
      · exact ih _ h x hx
    · contradiction
theorem right_ok {l : List Obs} (h : rightOf l = 0) : l.length ≤ 1000 ∧ ∀ x ∈ l, inR x = true := by
  unfold rightOf at h
  split at h
  · omega
  · exact ⟨by omega, rightGo_ok [] l h⟩
theorem right_snow {l : List Obs} (h : rightOf l = 0) : snowB l := fun x hx => by
  have := (right_ok h).2 x hx
  simp only [inR, decide_eq_true_eq] at this
  omega
end Go.Proofs.Ytjnokdpliocmmaa
