/- The plain law of package weather: sums and peaks over the parts of an interval. -/
import Derived.Test.YtjnokdpliocmmaaPlain2
namespace Go.Proofs.Ytjnokdpliocmmaa
theorem counts_parts (x : Obs) (s f t o : Int) (h1 : f ≤ t) (h2 : t ≤ o) : countsOf x s ⟨f, o⟩ = (countsOf x s ⟨f, t⟩ || countsOf x s ⟨t, o⟩) := by
  unfold countsOf
  rw [Bool.eq_iff_iff]
  simp
  omega
theorem counts_apart (x : Obs) (s f t o : Int) : (countsOf x s ⟨f, t⟩ && countsOf x s ⟨t, o⟩) = false := by
  unfold countsOf
  rw [Bool.eq_false_iff]
  simp
  omega
theorem fresh_parts (l : List Obs) (s f t o : Int) (h1 : f ≤ t) (h2 : t ≤ o) : freshOf l s ⟨f, o⟩ = freshOf l s ⟨f, t⟩ + freshOf l s ⟨t, o⟩ := by
  induction l with
  | nil => simp [freshOf]
  | cons x r ih =>
    have e : ∀ p, freshOf (x :: r) s p = (if countsOf x s p then x.snow else 0) + freshOf r s p := fun p => by simp [freshOf]
    rw [e, e, e, ih, counts_parts x s f t o h1 h2]
    have := counts_apart x s f t o
    cases h3 : countsOf x s ⟨f, t⟩ <;> cases h4 : countsOf x s ⟨t, o⟩ <;> simp [h3, h4] at this ⊢ <;> omega
def gustB (l : List Obs) : Prop := ∀ x ∈ l, 0 ≤ x.gust
/-- what the search has found -/
def PeakIs (l : List Obs) (s : Int) (p : Itv) (q : Int × Bool) : Prop :=
  (q = (-1, false) ∧ ∀ x ∈ l, countsOf x s p = false) ∨ (q.2 = true ∧ (∃ x ∈ l, countsOf x s p = true ∧ q.1 = x.gust) ∧ ∀ x ∈ l, countsOf x s p = true → x.gust ≤ q.1)
theorem peakIs_take (l : List Obs) (s : Int) (p : Itv) : ∀ k, k ≤ l.length → PeakIs (l.take k) s p (peakGo (l.take k) s p) := by
  intro k
  induction k with
  | zero => intro _; exact .inl ⟨by simp [peakGo], fun x hx => by simp at hx⟩
  | succ k ih =>
    intro hk
    have h := ih (by omega)
    rw [peakGo_succ (by omega : k < l.length)]
    rw [List.take_succ_eq_append_getElem (by omega : k < l.length)]
    generalize peakGo (l.take k) s p = q at *
    obtain ⟨m, f⟩ := q
    generalize l[k] = y at *
    unfold PeakIs peakStep at *
    cases hc : countsOf y s p
    · simp only [Bool.false_and]
      rcases h with ⟨e, h⟩ | ⟨e, ⟨x, hx, hcx, hxg⟩, h⟩
      · refine .inl ⟨e, fun x hx => ?_⟩
        rcases List.mem_append.1 hx with hx | hx
        · exact h x hx
        · simp at hx; subst hx; exact hc
      · refine .inr ⟨e, ⟨x, List.mem_append_left _ hx, hcx, hxg⟩, fun z hz hcz => ?_⟩
        rcases List.mem_append.1 hz with hz | hz
        · exact h z hz hcz
        · simp at hz; subst hz; rw [hc] at hcz; cases hcz
    · rcases h with ⟨e, h⟩ | ⟨e, ⟨x, hx, hcx, hxg⟩, h⟩
      · injection e with e1 e2
        subst e1 e2
        simp only [Bool.not_false, Bool.true_or, Bool.and_true, if_true]
        refine .inr ⟨trivial, ⟨y, by simp, hc, rfl⟩, fun z hz hcz => ?_⟩
        rcases List.mem_append.1 hz with hz | hz
        · rw [h z hz] at hcz; cases hcz
        · simp at hz; subst hz; exact Int.le_refl _
      · simp only at e
        subst e
        simp only [Bool.not_true, Bool.false_or, Bool.true_and]
        by_cases hg : m < y.gust
        · simp only [hg, decide_true, if_true]
          refine .inr ⟨by simp, ⟨y, by simp, hc, rfl⟩, fun z hz hcz => ?_⟩
          rcases List.mem_append.1 hz with hz | hz
          · have := h z hz hcz; first | omega | (simp only at this; omega)
          · simp at hz; subst hz; exact Int.le_refl _
        · simp only [hg, decide_false]
          refine .inr ⟨by simp, ⟨x, List.mem_append_left _ hx, hcx, hxg⟩, fun z hz hcz => ?_⟩
          rcases List.mem_append.1 hz with hz | hz
          · exact h z hz hcz
          · simp at hz; subst hz; simp; omega
theorem peakIs (l : List Obs) (s : Int) (p : Itv) : PeakIs l s p (peakGo l s p) := by
  have := peakIs_take l s p l.length (Nat.le_refl _)
  rwa [List.take_length] at this
theorem peak_parts (l : List Obs) (hg : gustB l) (s f t o : Int) (h1 : f ≤ t) (h2 : t ≤ o) : peakOf l s ⟨f, o⟩ = max (peakOf l s ⟨f, t⟩) (peakOf l s ⟨t, o⟩) := by
  unfold peakOf
  have hp := peakIs l s ⟨f, o⟩
  have ha := peakIs l s ⟨f, t⟩
  have hb := peakIs l s ⟨t, o⟩
  have hc := fun x : Obs => counts_parts x s f t o h1 h2
  generalize peakGo l s ⟨f, o⟩ = p at *
  generalize peakGo l s ⟨f, t⟩ = a at *
  generalize peakGo l s ⟨t, o⟩ = b at *
  rcases ha with ⟨ea, na⟩ | ⟨_, ⟨xa, ma, ca, ga⟩, ua⟩ <;> rcases hb with ⟨eb, nb⟩ | ⟨_, ⟨xb, mb, cb, gb⟩, ub⟩ <;> rcases hp with ⟨ep, np⟩ | ⟨_, ⟨xp, mp, cp, gp⟩, up⟩
  · rw [ea, eb, ep]; decide
  · rw [hc, na xp mp, nb xp mp] at cp; cases cp
  · have := np xb mb; rw [hc, cb] at this; simp at this
  · have hxp := cp
    rw [hc, na xp mp, Bool.false_or] at hxp
    have u1 := ub xp mp hxp
    have u2 := up xb mb (by rw [hc, cb]; simp)
    have := hg xb mb
    rw [ea]
    simp only
    omega
  · have := np xa ma; rw [hc, ca] at this; simp at this
  · have hxp := cp
    rw [hc, nb xp mp, Bool.or_false] at hxp
    have u1 := ua xp mp hxp
    have u2 := up xa ma (by rw [hc, ca]; simp)
    have := hg xa ma
    rw [eb]
    simp only
    omega
  · have := np xa ma; rw [hc, ca] at this; simp at this
  · have u1 := up xa ma (by rw [hc, ca]; simp)
    have u2 := up xb mb (by rw [hc, cb]; simp)
    have hxp := cp
    rw [hc] at hxp
    rcases Bool.or_eq_true_iff.1 hxp with hx | hx
    · have u3 := ua xp mp hx
      omega
    · have u3 := ub xp mp hx
      omega
theorem right_gust {l : List Obs} (h : rightOf l = 0) : gustB l := fun x hx => by
  have := (right_ok h).2 x hx
  simp only [inR, decide_eq_true_eq] at this
  omega
end Go.Proofs.Ytjnokdpliocmmaa
