/- The plain law of package rescue: the plan is valid, ends at its last job, at the bound or later, and no valid jobs end earlier; who is left. -/
import Derived.Test.YtogaepijfbgniaaW9
import Derived.Test.YtogaepijfbgniaaPlain8
namespace Go.Proofs.Ytogaepijfbgniaa
set_option linter.unusedVariables false
theorem need_diff {l : List Sec} (hd : Diff l) : Diff (needOf l) := List.Pairwise.sublist List.filter_sublist hd
theorem secAt_mem {l : List Sec} {k : Nat} (hk : k < l.length) : secAt l k ∈ l := by rw [secAt_eq hk]; exact List.getElem_mem _
/-- the k-th job of an assignment -/
def jobAt (l : List Sec) (a : List Nat) (k : Nat) : Job := ⟨teamAt a k, (secAt l k).id, (busyTo l a k).getD (teamAt a k) 0, (busyTo l a (k + 1)).getD (teamAt a k) 0⟩
theorem jobsTo_map (l : List Sec) (a : List Nat) : ∀ n, jobsTo l a n = (List.range n).map (jobAt l a) := by
  intro n
  induction n with
  | zero => rfl
  | succ n ih => rw [jobsTo_succ, ih, List.range_succ, List.map_append]; rfl
theorem busy_step {l : List Sec} {a : List Nat} (hs : ∀ x ∈ l, 1 ≤ x.seconds ∧ x.seconds ≤ 86400) {k : Nat} (hk : k < l.length) (t : Nat) : (busyTo l a k).getD t 0 ≤ (busyTo l a (k + 1)).getD t 0 := by
  have h4 := (busyTo_ok (a := a) hs k (by omega)).1
  have hx := hs _ (secAt_mem hk)
  rw [busyTo_succ]
  by_cases e : teamAt a k = t
  · subst e
    by_cases ht : teamAt a k < 4
    · rw [addAt_get (by omega)]; omega
    · have e : addAt (busyTo l a k) (teamAt a k) (secAt l k).seconds = busyTo l a k := by
        unfold addAt
        exact List.set_eq_of_length_le (by omega)
      rw [e]
      exact Int.le_refl _
  · unfold addAt
    rw [List.getD_eq_getElem?_getD, List.getD_eq_getElem?_getD, List.getElem?_set_ne e]
    exact Int.le_refl _
theorem busy_mono {l : List Sec} {a : List Nat} (hs : ∀ x ∈ l, 1 ≤ x.seconds ∧ x.seconds ≤ 86400) (t i : Nat) : ∀ k, i ≤ k → k ≤ l.length → (busyTo l a i).getD t 0 ≤ (busyTo l a k).getD t 0 := by
  intro k
  induction k with
  | zero => intro h _; have : i = 0 := by omega
            subst this; exact Int.le_refl _
  | succ k ih =>
    intro h hk
    by_cases e : i = k + 1
    · subst e; exact Int.le_refl _
    · have := ih (by omega) (by omega)
      have := busy_step hs (a := a) (by omega : k < l.length) t
      omega
theorem jobAt_to {l : List Sec} {a : List Nat} (hs : ∀ x ∈ l, 1 ≤ x.seconds ∧ x.seconds ≤ 86400) {k : Nat} (hk : k < l.length) (ht : teamAt a k < 4) : (jobAt l a k).to_ = (jobAt l a k).from_ + (secAt l k).seconds := by
  have h4 := (busyTo_ok (a := a) hs k (by omega)).1
  show (busyTo l a (k + 1)).getD (teamAt a k) 0 = _
  rw [busyTo_succ, addAt_get (by omega)]
  rfl
/-- the jobs of an assignment are a plan -/
theorem plan_vj {l : List Sec} (hd : Diff l) (hs : ∀ x ∈ l, 1 ≤ x.seconds ∧ x.seconds ≤ 86400) {T : Nat} (hT : T ≤ 3) {a : List Nat} (ha : a.length = l.length) (hat : ∀ t ∈ a, 1 ≤ t ∧ t ≤ T) : VJ l (T : Int) (jobsTo l a l.length) := by
  have hteam : ∀ k, k < l.length → 1 ≤ teamAt a k ∧ teamAt a k ≤ T := fun k hk => by
    rw [teamAt_eq (by omega)]
    exact hat _ (List.getElem_mem _)
  refine ⟨jobsTo_length _ _ _, fun j hj => ?_, ?_, ?_⟩
  · rw [jobsTo_map] at hj
    obtain ⟨k, hk, rfl⟩ := List.mem_map.1 hj
    have hk := List.mem_range.1 hk
    have ht := hteam k hk
    refine ⟨secAt l k, secAt_mem hk, rfl, ⟨?_, ?_⟩, ((busyTo_ok (a := a) hs k (by omega)).2 _).1, jobAt_to hs hk (by omega)⟩
    · show (1 : Int) ≤ (teamAt a k : Int); omega
    · show (teamAt a k : Int) ≤ (T : Int); omega
  · rw [jobsTo_map, List.map_map, List.Nodup, List.pairwise_map, List.pairwise_iff_getElem]
    intro i j hi hj hij e
    simp only [List.length_range] at hi hj
    simp only [List.getElem_range, Function.comp, jobAt] at e
    rw [secAt_eq hi, secAt_eq hj] at e
    exact List.pairwise_iff_getElem.1 hd i j hi hj hij e
  · rw [jobsTo_map, List.pairwise_map, List.pairwise_iff_getElem]
    intro i j hi hj hij e
    simp only [List.length_range] at hi hj
    simp only [List.getElem_range] at e ⊢
    have et : teamAt a i = teamAt a j := by
      have : ((teamAt a i : Nat) : Int) = (teamAt a j : Int) := e
      omega
    left
    show (busyTo l a (i + 1)).getD (teamAt a i) 0 ≤ (busyTo l a j).getD (teamAt a j) 0
    rw [et]
    exact busy_mono hs _ _ _ (by omega) (by omega)
theorem mx_le (a b : Int) : a ≤ mx a b ∧ b ≤ mx a b := by unfold mx; split <;> omega
theorem last_app (js : List Job) (j : Job) : lastOf (js ++ [j]) = mx (lastOf js) j.to_ := by
  unfold lastOf
  rw [List.foldl_append]
  rfl
theorem last_end (l : List Sec) (a : List Nat) : ∀ k, lastOf (jobsTo l a k) = endTo l a k := by
  intro k
  induction k with
  | zero => rfl
  | succ k ih => rw [jobsTo_succ, last_app, ih]; rfl
theorem last_ge : ∀ (js : List Job) (n : Int), n ≤ js.foldl (fun n j => if n < j.to_ then j.to_ else n) n ∧ ∀ j ∈ js, j.to_ ≤ js.foldl (fun n j => if n < j.to_ then j.to_ else n) n := by
  intro js
  induction js with
  | nil => intro n; exact ⟨Int.le_refl _, fun j hj => by simp at hj⟩
  | cons x r ih =>
    intro n
    rw [List.foldl_cons]
    obtain ⟨h1, h2⟩ := ih (if n < x.to_ then x.to_ else n)
    have h3 : n ≤ (if n < x.to_ then x.to_ else n) ∧ x.to_ ≤ (if n < x.to_ then x.to_ else n) := by split <;> omega
    generalize (if n < x.to_ then x.to_ else n) = m at *
    refine ⟨by omega, fun j hj => ?_⟩
    rcases List.mem_cons.1 hj with rfl | hj
    · omega
    · exact h2 j hj
theorem last_le (js : List Job) : 0 ≤ lastOf js ∧ ∀ j ∈ js, j.to_ ≤ lastOf js := last_ge js 0
theorem last_meets : ∀ (js : List Job) (n : Int), js.foldl (fun n j => if n < j.to_ then j.to_ else n) n = n ∨ ∃ j ∈ js, j.to_ = js.foldl (fun n j => if n < j.to_ then j.to_ else n) n := by
  intro js
  induction js with
  | nil => intro n; exact .inl rfl
  | cons x r ih =>
    intro n
    rw [List.foldl_cons]
    rcases ih (if n < x.to_ then x.to_ else n) with h | ⟨j, hj, h⟩
    · rw [h]
      split
      · exact .inr ⟨x, by simp, rfl⟩
      · exact .inl rfl
    · exact .inr ⟨j, by simp [hj], h⟩
/-- the sum of all that the teams work -/
theorem sum_busy {l : List Sec} {a : List Nat} (hs : ∀ x ∈ l, 1 ≤ x.seconds ∧ x.seconds ≤ 86400) (ha : a.length = l.length) {T : Nat} (hT : T ≤ 3) (hat : ∀ t ∈ a, 1 ≤ t ∧ t ≤ T) : ∀ k, k ≤ l.length → ∃ b1 b2 b3, busyTo l a k = [0, b1, b2, b3] ∧ sumS (l.take k) = b1 + b2 + b3 ∧ (T < 2 → b2 = 0) ∧ (T < 3 → b3 = 0) := by
  intro k
  induction k with
  | zero => intro _; exact ⟨0, 0, 0, rfl, rfl, fun _ => rfl, fun _ => rfl⟩
  | succ k ih =>
    intro hk
    obtain ⟨b1, b2, b3, e, h1, h2, h3⟩ := ih (by omega)
    have ht : 1 ≤ teamAt a k ∧ teamAt a k ≤ T := by
      rw [teamAt_eq (by omega)]
      exact hat _ (List.getElem_mem _)
    rw [busyTo_succ, e, sum_succ (by omega), h1, secAt_eq (by omega)]
    generalize teamAt a k = t at *
    generalize l[k].seconds = x at *
    match t, ht with
    | 1, _ => exact ⟨b1 + x, b2, b3, rfl, by omega, h2, h3⟩
    | 2, ht => exact ⟨b1, b2 + x, b3, rfl, by omega, fun h => by omega, h3⟩
    | 3, ht => exact ⟨b1, b2, b3 + x, rfl, by omega, fun h => by omega, fun h => by omega⟩
    | n + 4, ht => omega
theorem most_le {l : List Sec} {E : Int} (h0 : 0 ≤ E) (h : ∀ s ∈ l, s.seconds ≤ E) : ∀ k, k ≤ l.length → mostS (l.take k) ≤ E := by
  intro k
  induction k with
  | zero => intro _; exact h0
  | succ k ih =>
    intro hk
    rw [most_succ (by omega)]
    have := ih (by omega)
    have := h l[k] (List.getElem_mem _)
    unfold mx
    split <;> omega
/-- what the best assignment is -/
structure Best (h : List Sec) (T : Nat) (s : Look) : Prop where
  len : s.best.length = h.length
  team : ∀ t ∈ s.best, 1 ≤ t ∧ t ≤ T
  end_ : s.least = endOf h s.best
  pos : 0 ≤ s.least
  least : ∀ a, a.length = h.length → (∀ t ∈ a, 1 ≤ t ∧ t ≤ T) → s.least ≤ endOf h a
theorem assign_is {h : List Sec} (hs : ∀ x ∈ h, 1 ≤ x.seconds ∧ x.seconds ≤ 86400) {T : Nat} (hT : 1 ≤ T) : Best h T (assignOf h T) := by
  obtain ⟨a1, a2, a3, a4, a5⟩ := assign_best hs hT ⟨-1, List.replicate h.length 0⟩ (by show (-1 : Int) < 0; decide) (assignOf h T) (assign_pick _ _ _)
  exact ⟨a3, a4, a2, a1, a5⟩
theorem team4 {a : List Nat} {T : Nat} (hT : T ≤ 3) (h : ∀ t ∈ a, 1 ≤ t ∧ t ≤ T) (k : Nat) : teamAt a k < 4 := by
  unfold teamAt
  rw [List.getD_eq_getElem?_getD]
  cases hq : a[k]? with
  | none => simp
  | some x => have := h x (List.mem_of_getElem? hq); simp; omega
section
variable {l : List Sec} {T : Nat}
theorem plan_end (hs : ∀ x ∈ l, 1 ≤ x.seconds ∧ x.seconds ≤ 86400) (hT : 1 ≤ T ∧ T ≤ 3) : lastOf (planJobs l T) = planEnd l T := by
  have hb := assign_is (need_mem hs) hT.1
  unfold planJobs planEnd
  rw [last_end, endTo_max (need_mem hs) (team4 hT.2 hb.team) _ (Nat.le_refl _), hb.end_]
  rfl
theorem plan_jobs (hd : Diff l) (hs : ∀ x ∈ l, 1 ≤ x.seconds ∧ x.seconds ≤ 86400) (hT : 1 ≤ T ∧ T ≤ 3) : VJ (needOf l) (T : Int) (planJobs l T) := by
  have hb := assign_is (need_mem hs) hT.1
  exact plan_vj (need_diff hd) (need_mem hs) hT.2 hb.len hb.team
theorem plan_valid (hd : Diff l) (hs : ∀ x ∈ l, 1 ≤ x.seconds ∧ x.seconds ≤ 86400) (hT : 1 ≤ T ∧ T ≤ 3) : validOf l (T : Int) (planJobs l T) = true :=
  vj_valid (need_diff hd) (plan_jobs hd hs hT) fun s h => (need_mem hs s h).1
theorem plan_least (hd : Diff l) (hs : ∀ x ∈ l, 1 ≤ x.seconds ∧ x.seconds ≤ 86400) (hT : 1 ≤ T ∧ T ≤ 3) {js : List Job} (hv : validOf l (T : Int) js = true) : planEnd l T ≤ lastOf js := by
  have hb := assign_is (need_mem hs) hT.1
  obtain ⟨h0, h1⟩ := last_le js
  obtain ⟨a, a1, a2, a3⟩ := vj_least (need_diff hd) (fun s h => (need_mem hs s h).1) hT.2 (valid_vj hv) h0 h1
  have := hb.least a a1 a2
  unfold planEnd
  omega
/-- the plan's end is at least the longest, and the share -/
theorem plan_bound (hd : Diff l) (hs : ∀ x ∈ l, 1 ≤ x.seconds ∧ x.seconds ≤ 86400) (hT : 1 ≤ T ∧ T ≤ 3) : boundOf l (T : Int) ≤ planEnd l T := by
  have hb := assign_is (need_mem hs) hT.1
  have hv := plan_jobs hd hs hT
  have he := plan_end hs hT
  obtain ⟨l0, l1⟩ := last_le (planJobs l T)
  rw [he] at l0 l1
  have hmost : mostS (needOf l) ≤ planEnd l T := by
    have := most_le (l := needOf l) l0 (fun s h => by
      obtain ⟨m1, m2⟩ := vj_for (need_diff hd) hv h
      obtain ⟨s', m3, m4, m5, m6, m7⟩ := hv.ok _ m1
      have : s' = s := diff_eq (need_diff hd) m3 h (by rw [m4, m2])
      subst this
      have := l1 _ m1
      omega) (needOf l).length (Nat.le_refl _)
    rwa [List.take_length] at this
  have hsum : upS (sumS (needOf l)) T ≤ planEnd l T := by
    obtain ⟨b1, b2, b3, e, h1, h2, h3⟩ := sum_busy (need_mem hs) hb.len hT.2 hb.team (needOf l).length (Nat.le_refl _)
    rw [List.take_length] at h1
    have h4 : (busyTo (needOf l) (assignOf (needOf l) T).best (needOf l).length).length = 4 := by rw [e]; rfl
    have hE : planEnd l T = maxL (busyTo (needOf l) (assignOf (needOf l) T).best (needOf l).length) := hb.end_
    have g1 := le_maxL h4 (t := 1) (by omega)
    have g2 := le_maxL h4 (t := 2) (by omega)
    have g3 := le_maxL h4 (t := 3) (by omega)
    rw [← hE, e] at g1 g2 g3
    simp at g1 g2 g3
    generalize planEnd l T = E at *
    unfold upS
    rw [h1]
    obtain ⟨t1, t3⟩ := hT
    match T, t1, t3 with
    | 1, _, _ => have := h2 (by omega); have := h3 (by omega); split <;> omega
    | 2, _, _ => have := h3 (by omega); split <;> omega
    | 3, _, _ => split <;> omega
  have : boundOf l (T : Int) = mx (mostS (needOf l)) (upS (sumS (needOf l)) T) := if_neg (by omega)
  rw [this]
  unfold mx
  split <;> omega
end
end Go.Proofs.Ytogaepijfbgniaa
