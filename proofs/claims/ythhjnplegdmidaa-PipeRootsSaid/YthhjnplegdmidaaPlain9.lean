/- The plain law of the stage's theorem: drawing less lowers no pressure; the root's pressure is added everywhere; what flows in a pipe. -/
import Derived.Test.YthhjnplegdmidaaPlain8
import Derived.Test.YthhjnplegdmidaaW12
namespace Go.Proofs.Ythhjnplegdmidaa
/-- the same draws, none greater -/
def leD : List Draw → List Draw → Prop
  | [], [] => True
  | x :: r, y :: s => (x.node = y.node ∧ 0 ≤ x.flow ∧ x.flow ≤ y.flow) ∧ leD r s
  | _, _ => False
theorem leD_send (p : Pipe) : ∀ {a b : List Draw}, leD a b → leD (send p a) (send p b)
  | [], [], _ => trivial
  | x :: r, y :: s, h => by
    obtain ⟨⟨h1, h2, h3⟩, h4⟩ := h
    have := leD_send p h4
    unfold send at this ⊢
    simp only [List.map_cons]
    refine ⟨?_, this⟩
    rw [h1]
    split
    · exact ⟨rfl, h2, h3⟩
    · exact ⟨h1, h2, h3⟩
  | [], _ :: _, h => h.elim
  | _ :: _, [], h => h.elim
theorem leD_sum (n : Int) : ∀ {a b : List Draw}, leD a b → sumAt a n ≤ sumAt b n
  | [], [], _ => Int.le_refl _
  | x :: r, y :: s, h => by
    obtain ⟨⟨h1, h2, h3⟩, h4⟩ := h
    have := leD_sum n h4
    unfold sumAt at this ⊢
    simp only [List.map_cons, List.sum_cons]
    rw [h1]
    split <;> omega
  | [], _ :: _, h => h.elim
  | _ :: _, [], h => h.elim
theorem leD_pos : ∀ {a b : List Draw}, leD a b → posD a
  | [], [], _ => fun d hd => by simp at hd
  | x :: r, y :: s, h => by
    obtain ⟨⟨h1, h2, h3⟩, h4⟩ := h
    have := leD_pos h4
    intro d hd
    rcases List.mem_cons.1 hd with rfl | hd
    · exact h2
    · exact this d hd
  | [], _ :: _, h => h.elim
  | _ :: _, [], h => h.elim
theorem leD_tot : ∀ {a b : List Draw}, leD a b → tot a ≤ tot b
  | [], [], _ => Int.le_refl _
  | x :: r, y :: s, h => by
    obtain ⟨⟨h1, h2, h3⟩, h4⟩ := h
    have := leD_tot h4
    unfold tot at this ⊢
    simp only [List.map_cons, List.sum_cons]
    omega
  | [], _ :: _, h => h.elim
  | _ :: _, [], h => h.elim
theorem leD_flows : ∀ (rl : List Pipe) {a b : List Draw}, leD a b → ∀ i : Nat, (flowsR rl a).getD i 0 ≤ (flowsR rl b).getD i 0
  | [], _, _, _ => fun i => by simp [flowsR]
  | p :: r, a, b, h => fun i => by
    have ih := leD_flows r (leD_send p h)
    have hs := leD_sum p.to_ h
    have l1 := flowsR_length r (send p a)
    have l2 := flowsR_length r (send p b)
    simp only [flowsR, List.getD]
    by_cases hi : i < r.length
    · rw [List.getElem?_append_left (by omega), List.getElem?_append_left (by omega)]
      exact ih i
    · rw [List.getElem?_append_right (by omega), List.getElem?_append_right (by omega), l1, l2]
      cases hj : i - r.length with
      | zero => simpa using hs
      | succ j => simp
theorem drop_mono {fs gs : List Int} {p : Pipe} (hl : 0 ≤ p.loss) {i : Nat} (h0 : 0 ≤ fs.getD i 0) (h1 : fs.getD i 0 ≤ gs.getD i 0) {x y : Int} (hxy : y ≤ x) : dropAt gs p i y ≤ dropAt fs p i x := by
  unfold dropAt
  have h2 : p.loss * fs.getD i 0 ≤ p.loss * gs.getD i 0 := Int.mul_le_mul_of_nonneg_left h1 hl
  have h3 : 0 ≤ p.loss * fs.getD i 0 := Int.mul_nonneg hl h0
  have h4 : 0 ≤ p.loss * gs.getD i 0 := by omega
  generalize p.loss * fs.getD i 0 = u at *
  generalize p.loss * gs.getD i 0 = v at *
  rw [Int.tdiv_eq_ediv_of_nonneg h3, Int.tdiv_eq_ediv_of_nonneg h4]
  omega
theorem pR_mono {fs gs : List Int} (root : Int) (h0 : ∀ i : Nat, 0 ≤ fs.getD i 0) (h1 : ∀ i : Nat, fs.getD i 0 ≤ gs.getD i 0) : ∀ rl : List Pipe, (∀ p ∈ rl, 0 ≤ p.loss) → ∀ n : Int, pR gs root rl n ≤ pR fs root rl n
  | [], _, n => Int.le_refl _
  | p :: r, hp, n => by
    have ih := pR_mono root h0 h1 r fun q hq => hp q (by simp [hq])
    rw [pR, pR]
    split
    · exact drop_mono (hp p (by simp)) (h0 _) (h1 _) (ih _)
    · exact ih n
theorem getD_pos {fs : List Int} (h : ∀ x ∈ fs, 0 ≤ x) (i : Nat) : 0 ≤ fs.getD i 0 := by
  by_cases hi : i < fs.length
  · have := h fs[i] (List.getElem_mem hi)
    simpa [List.getD, hi] using this
  · simp [List.getD, List.getElem?_eq_none (Nat.le_of_not_lt hi)]
theorem press_mono {l : List Pipe} (hg : Good l) {a b : List Draw} (h : leD a b) (root n : Int) :
    (pressOf l (flowsOf l a) root n).2 = (pressOf l (flowsOf l b) root n).2 ∧ (pressOf l (flowsOf l b) root n).1 ≤ (pressOf l (flowsOf l a) root n).1 := by
  unfold pressOf
  split
  · refine ⟨rfl, pR_mono root (getD_pos fun x hx => (flowsR_bd (leD_pos h) x hx).1) (fun i => leD_flows l.reverse h i) l.reverse (fun p hp => ?_) n⟩
    have := good_in hg p (by simpa using hp)
    unfold inR at this
    simp only [decide_eq_true_eq] at this
    omega
  · exact ⟨rfl, Int.le_refl _⟩
theorem low_sub {l : List Pipe} (hg : Good l) {a b : List Draw} (h : leD a b) (root : Int) (need : List Draw) : (lowOf l (flowsOf l a) root need).Sublist (lowOf l (flowsOf l b) root need) := by
  unfold lowOf
  apply List.Sublist.map
  have e : need.filter (lowAt l (flowsOf l a) root) = (need.filter (lowAt l (flowsOf l b) root)).filter (lowAt l (flowsOf l a) root) := by
    rw [List.filter_filter]
    apply List.filter_congr
    intro d _
    obtain ⟨h1, h2⟩ := press_mono hg h root d.node
    unfold lowAt
    rw [h1]
    cases (pressOf l (flowsOf l b) root d.node).2
    · simp
    · simp only [Bool.not_true, Bool.false_or]
      by_cases hd : (pressOf l (flowsOf l a) root d.node).1 < d.flow
      · have : (pressOf l (flowsOf l b) root d.node).1 < d.flow := by omega
        simp [hd, this]
      · simp [hd]
  rw [e]
  exact List.filter_sublist
/-- a known node -/
theorem known_to {l : List Pipe} {i : Nat} (hi : i < l.length) : known l l[i].to_ = true := by
  unfold known
  simp only [Bool.or_eq_true, List.any_eq_true, decide_eq_true_eq]
  exact .inr ⟨l[i], List.getElem_mem hi, rfl⟩
theorem known_from {l : List Pipe} (hg : Good l) {i : Nat} (hi : i < l.length) : known l l[i].from_ = true := by
  obtain ⟨h, _, _⟩ := good_known hg hi
  unfold known at h ⊢
  simp only [Bool.or_eq_true, List.any_eq_true, decide_eq_true_eq] at h ⊢
  rcases h with h | ⟨q, hq, h⟩
  · exact .inl h
  · exact .inr ⟨q, List.mem_of_mem_take hq, h⟩
theorem known_zero (l : List Pipe) : known l 0 = true := by simp [known]
theorem pR_add (fs : List Int) (root x : Int) : ∀ (rl : List Pipe) (n : Int), pR fs (root + x) rl n = pR fs root rl n + x
  | [], n => rfl
  | p :: r, n => by
    rw [pR, pR, pR_add fs root x r p.from_, pR_add fs root x r n]
    split
    · unfold dropAt; omega
    · rfl
/-- the pressure at the end of a pipe is that at its beginning less what is lost -/
theorem pR_pipe {l : List Pipe} (hg : Good l) (fs : List Int) (root : Int) {i : Nat} (hi : i < l.length) : pR fs root l.reverse l[i].to_ = pR fs root l.reverse l[i].from_ - l[i].rise - (l[i].loss * fs.getD i 0).tdiv 1000 := by
  have h1 := pR_behind (l := l) fs root l[i].to_ (i := i + 1) l.length (by omega) (Nat.le_refl _) (fun j hj h4 _ => by
    have := List.pairwise_iff_getElem.1 (good_apart hg) i j hi hj (by omega)
    exact fun e => this e.symm)
  have h2 := pR_behind (l := l) fs root l[i].from_ (i := i) l.length (by omega) (Nat.le_refl _) (fun j hj h4 _ => from_ne hg hi hj h4)
  rw [List.take_length] at h1 h2
  rw [h1, pR_step fs root hi, if_pos rfl, h2]
  rfl
end Go.Proofs.Ythhjnplegdmidaa
