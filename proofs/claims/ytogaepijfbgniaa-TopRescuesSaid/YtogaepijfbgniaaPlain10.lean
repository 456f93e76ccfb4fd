/- The plain law of package rescue: who is left while the plan is done; more teams. -/
import Derived.Test.YtogaepijfbgniaaPlain9
namespace Go.Proofs.Ytogaepijfbgniaa
set_option linter.unusedVariables false
theorem left_zero {js : List Job} {t : Int} : ∀ {l : List Sec}, (∀ s ∈ l, leftAt js t s = 0) → leftOf l js t = 0 := by
  intro l
  induction l with
  | nil => intro _; rfl
  | cons s l ih =>
    intro h
    rw [left_cons, h s (by simp), ih fun x hx => h x (by simp [hx])]
    rfl
theorem left_pos {js : List Job} {t : Int} : ∀ {l : List Sec}, (∀ s ∈ l, 0 ≤ s.people ∧ s.people ≤ 1000) → (∃ s ∈ l, 0 < leftAt js t s) → 0 < leftOf l js t := by
  intro l
  induction l with
  | nil => intro _ h; obtain ⟨s, hs, _⟩ := h; simp at hs
  | cons x l ih =>
    intro h hx
    rw [left_cons]
    have h0 := leftAt_ok js t (h x (by simp))
    have h1 := left_ok (l := l) (fun s hs => h s (by simp [hs])) js t l.length (Nat.le_refl _)
    rw [List.take_length] at h1
    obtain ⟨s, hs, hp⟩ := hx
    rcases List.mem_cons.1 hs with rfl | hs
    · omega
    · have := ih (fun s hs => h s (by simp [hs])) ⟨s, hs, hp⟩
      omega
theorem left_le {js : List Job} {t u : Int} : ∀ {l : List Sec}, (∀ s ∈ l, leftAt js t s ≤ leftAt js u s) → leftOf l js t ≤ leftOf l js u := by
  intro l
  induction l with
  | nil => intro _; exact Int.le_refl _
  | cons s l ih =>
    intro h
    rw [left_cons, left_cons]
    have := h s (by simp)
    have := ih fun x hx => h x (by simp [hx])
    omega
theorem people_fold : ∀ (l : List Sec) (n : Int), l.foldl (fun n s => n + s.people) n = n + peopleS l := by
  intro l
  induction l with
  | nil => intro n; simp [peopleS]
  | cons s l ih =>
    intro n
    rw [List.foldl_cons, ih]
    unfold peopleS
    rw [List.foldl_cons, ih, ih]
    simp only [peopleS]
    omega
theorem people_cons (s : Sec) (l : List Sec) : peopleS (s :: l) = s.people + peopleS l := by
  unfold peopleS
  rw [List.foldl_cons, people_fold]
  simp [peopleS]
theorem left_all {js : List Job} {t : Int} : ∀ {l : List Sec}, (∀ s ∈ l, leftAt js t s = s.people) → leftOf l js t = peopleS l := by
  intro l
  induction l with
  | nil => intro _; rfl
  | cons s l ih =>
    intro h
    rw [left_cons, people_cons, h s (by simp), ih fun x hx => h x (by simp [hx])]
theorem people_some : ∀ {l : List Sec}, 0 < peopleS l → ∃ s ∈ l, 0 < s.people := by
  intro l
  induction l with
  | nil => intro h; simp [peopleS] at h
  | cons x l ih =>
    intro h
    rw [people_cons] at h
    by_cases hx : 0 < x.people
    · exact ⟨x, by simp, hx⟩
    · obtain ⟨s, hs, hp⟩ := ih (by omega)
      exact ⟨s, by simp [hs], hp⟩
theorem at_iff (s : Sec) (t : Int) (j : Job) : at1 s t j = true ↔ j.sec = s.id ∧ j.to_ ≤ t := by
  unfold at1
  rw [Bool.and_eq_true, beq_iff_eq, decide_eq_true_eq]
theorem done_iff (js : List Job) (t : Int) (s : Sec) : doneB js t s = true ↔ ∃ j ∈ js, j.sec = s.id ∧ j.to_ ≤ t := by
  unfold doneB
  rw [List.any_eq_true]
  constructor
  · rintro ⟨j, hj, h⟩; exact ⟨j, hj, (at_iff _ _ _).1 h⟩
  · rintro ⟨j, hj, h⟩; exact ⟨j, hj, (at_iff _ _ _).2 h⟩
theorem left_nil (l : List Sec) (t : Int) : leftOf l [] t = peopleS l := left_all fun s _ => rfl
theorem left_mono (l : List Sec) (hp : ∀ s ∈ l, 0 ≤ s.people ∧ s.people ≤ 1000) (js : List Job) {t u : Int} (h : t ≤ u) : leftOf l js u ≤ leftOf l js t := by
  refine left_le fun s hs => ?_
  have h0 := hp s hs
  unfold leftAt
  cases h1 : doneB js t s with
  | true =>
    obtain ⟨j, hj, h2, h3⟩ := (done_iff _ _ _).1 h1
    have : doneB js u s = true := (done_iff _ _ _).2 ⟨j, hj, h2, by omega⟩
    rw [this]
    exact Int.le_refl _
  | false =>
    simp only [Bool.false_eq_true, if_false]
    split <;> omega
section
variable {l : List Sec} {T : Nat}
theorem plan_has (hd : Diff l) (hs : ∀ x ∈ l, 1 ≤ x.seconds ∧ x.seconds ≤ 86400) (hT : 1 ≤ T ∧ T ≤ 3) {s : Sec} (h : s ∈ l) (hp : s.people ≠ 0) : ∃ j ∈ planJobs l T, j.sec = s.id ∧ 1 ≤ j.to_ ∧ j.to_ ≤ planEnd l T := by
  have hn : s ∈ needOf l := by unfold needOf; rw [List.mem_filter]; exact ⟨h, by simpa using hp⟩
  have hv := plan_jobs hd hs hT
  obtain ⟨m1, m2⟩ := vj_for (need_diff hd) hv hn
  obtain ⟨s', m3, m4, m5, m6, m7⟩ := hv.ok _ m1
  have h1 := (need_mem hs s' m3).1
  have h2 := (last_le (planJobs l T)).2 _ m1
  rw [plan_end hs hT] at h2
  exact ⟨_, m1, m2, by omega, h2⟩
theorem plan_none (hd : Diff l) (hs : ∀ x ∈ l, 1 ≤ x.seconds ∧ x.seconds ≤ 86400) (hT : 1 ≤ T ∧ T ≤ 3) : leftOf l (planJobs l T) (planEnd l T) = 0 := by
  refine left_zero fun s h => ?_
  unfold leftAt
  by_cases hp : s.people = 0
  · rw [hp]; simp
  · obtain ⟨j, hj, h1, _, h2⟩ := plan_has (T := T) hd hs hT h hp
    rw [if_pos ((done_iff _ _ _).2 ⟨j, hj, h1, h2⟩)]
theorem plan_some (hd : Diff l) (hs : ∀ x ∈ l, 1 ≤ x.seconds ∧ x.seconds ≤ 86400) (hp : ∀ s ∈ l, 0 ≤ s.people ∧ s.people ≤ 1000) (hT : 1 ≤ T ∧ T ≤ 3) (h : 0 < peopleS l) : leftOf l (planJobs l T) (planEnd l T - 1) ≠ 0 := by
  obtain ⟨s, h1, h2⟩ := people_some h
  obtain ⟨j, hj, e1, e2, e3⟩ := plan_has (T := T) hd hs hT h1 (by omega)
  have hv := plan_jobs hd hs hT
  have he := plan_end hs hT
  have : 0 < leftOf l (planJobs l T) (planEnd l T - 1) := by
    refine left_pos hp ?_
    rcases last_meets (planJobs l T) 0 with h0 | ⟨j', hj', h0⟩
    · have : lastOf (planJobs l T) = 0 := h0
      omega
    · have h0 : j'.to_ = lastOf (planJobs l T) := h0
      obtain ⟨s', m3, m4, m5, m6, m7⟩ := hv.ok _ hj'
      have hm := List.mem_filter.1 m3
      have hp' := hp s' hm.1
      have hne : s'.people ≠ 0 := by simpa using hm.2
      refine ⟨s', hm.1, ?_⟩
      unfold leftAt
      rw [if_neg ?_]
      · omega
      · rw [done_iff]
        rintro ⟨q, hq, q1, q2⟩
        have : q = j' := by
          have hn := hv.one
          by_cases e : q = j'
          · exact e
          · rcases pairwise_two (List.pairwise_map.1 hn) hq hj' e with h | h
            · exact absurd (by rw [q1, m4]) h
            · exact absurd (by rw [q1, m4]) h
        subst this
        omega
  omega
theorem plan_start (hd : Diff l) (hs : ∀ x ∈ l, 1 ≤ x.seconds ∧ x.seconds ≤ 86400) (hT : 1 ≤ T ∧ T ≤ 3) : leftOf l (planJobs l T) 0 = peopleS l := by
  refine left_all fun s h => ?_
  unfold leftAt
  rw [if_neg]
  rw [done_iff]
  rintro ⟨j, hj, _, h2⟩
  obtain ⟨s', m3, m4, m5, m6, m7⟩ := (plan_jobs hd hs hT).ok _ hj
  have := (need_mem hs s' m3).1
  omega
end
theorem need_need (l : List Sec) : needOf (needOf l) = needOf l := by
  unfold needOf
  rw [List.filter_filter]
  congr 1
  funext s
  simp
theorem plan_need (l : List Sec) (T : Nat) : planJobs (needOf l) T = planJobs l T := by unfold planJobs; rw [need_need]
theorem plan_len (l : List Sec) (T : Nat) : (planJobs l T).length = (needOf l).length := jobsTo_length _ _ _
theorem plan_more {l : List Sec} (hs : ∀ x ∈ l, 1 ≤ x.seconds ∧ x.seconds ≤ 86400) {T U : Nat} (hT : 1 ≤ T) (hTU : T ≤ U) : planEnd l U ≤ planEnd l T := by
  have h1 := assign_is (need_mem hs) hT
  have h2 := assign_is (need_mem hs) (show 1 ≤ U by omega)
  unfold planEnd
  rw [h1.end_]
  exact h2.least _ h1.len fun t ht => by have := h1.team t ht; omega
theorem plan_one {l : List Sec} (hs : ∀ x ∈ l, 1 ≤ x.seconds ∧ x.seconds ≤ 86400) : planEnd l 1 = sumS (needOf l) := by
  have hb := assign_is (need_mem hs) (Nat.le_refl 1)
  obtain ⟨b1, b2, b3, e, h1, h2, h3⟩ := sum_busy (need_mem hs) hb.len (by omega) hb.team (needOf l).length (Nat.le_refl _)
  rw [List.take_length] at h1
  have hE : planEnd l 1 = maxL (busyTo (needOf l) (assignOf (needOf l) 1).best (needOf l).length) := hb.end_
  have hs0 := sum_ok (need_mem hs) (needOf l).length (Nat.le_refl _)
  rw [List.take_length] at hs0
  have := h2 (by omega)
  have := h3 (by omega)
  subst this
  subst b2
  rw [hE, e, h1]
  simp only [maxL, List.foldl_cons, List.foldl_nil, List.headD_cons, mx]
  (repeat' split) <;> omega
theorem most_sum {l : List Sec} (hs : ∀ x ∈ l, 1 ≤ x.seconds ∧ x.seconds ≤ 86400) : ∀ k, k ≤ l.length → mostS (l.take k) ≤ sumS (l.take k) := by
  intro k
  induction k with
  | zero => intro _; exact Int.le_refl _
  | succ k ih =>
    intro hk
    rw [most_succ (by omega), sum_succ (by omega)]
    have := ih (by omega)
    have := hs l[k] (List.getElem_mem _)
    have := sum_ok hs k (by omega)
    unfold mx
    split <;> omega
theorem bound_one {l : List Sec} (hs : ∀ x ∈ l, 1 ≤ x.seconds ∧ x.seconds ≤ 86400) : boundOf l 1 = sumS (needOf l) := by
  have h := most_sum (need_mem hs) (needOf l).length (Nat.le_refl _)
  rw [List.take_length] at h
  unfold boundOf upS mx
  simp
  omega
end Go.Proofs.Ytogaepijfbgniaa
