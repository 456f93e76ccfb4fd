/- The plain law of package rescue: no valid plan ends earlier than the best assignment. -/
import Derived.Test.YtogaepijfbgniaaPlain6
namespace Go.Proofs.Ytogaepijfbgniaa
set_option linter.unusedVariables false
/-- the tests of all, one by one -/
theorem allTo_get {P : List Job → Job → Bool} : ∀ {r pre : List Job}, allTo P pre r = true → ∀ k (hk : k < r.length), P (pre ++ r.take k) r[k] = true := by
  intro r
  induction r with
  | nil => intro pre _ k hk; simp at hk
  | cons j r ih =>
    intro pre h k hk
    simp only [allTo, Bool.and_eq_true] at h
    cases k with
    | zero => simpa using h.1
    | succ k =>
      have := ih h.2 k (by simpa using hk)
      simpa using this
theorem allTo_of {P : List Job → Job → Bool} : ∀ {r pre : List Job}, (∀ k (hk : k < r.length), P (pre ++ r.take k) r[k] = true) → allTo P pre r = true := by
  intro r
  induction r with
  | nil => intro pre _; rfl
  | cons j r ih =>
    intro pre h
    simp only [allTo, Bool.and_eq_true]
    have h0 := h 0 (by simp)
    simp only [List.take_zero, List.append_nil, List.getElem_cons_zero] at h0
    refine ⟨h0, ih fun k hk => ?_⟩
    have := h (k + 1) (by simpa using hk)
    simpa using this
/-- as many different ones as there are: all are met -/
theorem all_met : ∀ (a b : List Int), a.Nodup → (∀ x ∈ a, x ∈ b) → b.length ≤ a.length → ∀ x ∈ b, x ∈ a := by
  intro a
  induction a with
  | nil => intro b _ _ hl x hx; have := List.length_pos_of_mem hx; simp at hl; subst hl; simp at hx
  | cons y a ih =>
    intro b hn hs hl x hx
    obtain ⟨p, q, rfl⟩ := List.append_of_mem (hs y (by simp))
    obtain ⟨hy, hn⟩ := List.nodup_cons.1 hn
    have h1 : ∀ z ∈ a, z ∈ p ++ q := fun z hz => by
      have h := hs z (by simp [hz])
      simp only [List.mem_append, List.mem_cons] at h ⊢
      rcases h with h | rfl | h
      · exact .inl h
      · exact absurd hz hy
      · exact .inr h
    have h2 := ih (p ++ q) hn h1 (by simp at hl ⊢; omega)
    simp only [List.mem_append, List.mem_cons] at hx
    rcases hx with hx | rfl | hx
    · exact List.mem_cons_of_mem _ (h2 x (by simp [hx]))
    · simp
    · exact List.mem_cons_of_mem _ (h2 x (by simp [hx]))
def sumI (l : List Int) : Int := l.foldr (fun x n => x + n) 0
theorem sumI_app (a b : List Int) : sumI (a ++ b) = sumI a + sumI b := by
  induction a with
  | nil => simp [sumI]
  | cons x a ih => simp only [List.cons_append, sumI, List.foldr_cons] at ih ⊢; omega
theorem sumI_cons (x : Int) (b : List Int) : sumI (x :: b) = x + sumI b := rfl
theorem greatest {α : Type} (f : α → Int) : ∀ (l : List α), l ≠ [] → ∃ p m q, l = p ++ m :: q ∧ ∀ x ∈ l, f x ≤ f m := by
  intro l
  induction l with
  | nil => intro h; exact absurd rfl h
  | cons y r ih =>
    intro _
    cases r with
    | nil => exact ⟨[], y, [], rfl, fun x hx => by simp at hx; subst hx; omega⟩
    | cons z r =>
      obtain ⟨p, m, q, e, h⟩ := ih (by simp)
      by_cases hc : f m ≤ f y
      · refine ⟨[], y, z :: r, rfl, fun x hx => ?_⟩
        rcases List.mem_cons.1 hx with rfl | hx
        · omega
        · have := h x hx; omega
      · refine ⟨y :: p, m, q, by rw [e]; rfl, fun x hx => ?_⟩
        rcases List.mem_cons.1 hx with rfl | hx
        · omega
        · exact h x hx
/-- spans that do not overlap have room -/
theorem span_le : ∀ (n : Nat) (l : List (Int × Int)), l.length ≤ n → (∀ x ∈ l, 0 ≤ x.1 ∧ x.1 < x.2) → l.Pairwise (fun x y => x.2 ≤ y.1 ∨ y.2 ≤ x.1) → ∀ L, 0 ≤ L → (∀ x ∈ l, x.2 ≤ L) → sumI (l.map fun x => x.2 - x.1) ≤ L := by
  intro n
  induction n with
  | zero =>
    intro l hl _ _ L hL _
    have : l = [] := List.eq_nil_of_length_eq_zero (by omega)
    subst this
    exact hL
  | succ n ih =>
    intro l hl hp hw L hL hm
    by_cases he : l = []
    · subst he; exact hL
    · obtain ⟨p, m, q, rfl, hg⟩ := greatest (fun x : Int × Int => x.1) l he
      have hmm := hp m (by simp)
      have hw2 := List.pairwise_append.1 hw
      have hw3 := List.pairwise_cons.1 hw2.2.1
      have hall : ∀ x ∈ p ++ q, x.2 ≤ m.1 := fun x hx => by
        have h1 : x.1 ≤ m.1 := hg x (by simp at hx ⊢; rcases hx with h | h <;> simp [h])
        rcases List.mem_append.1 hx with hx | hx
        · have := hw2.2.2 x hx m (by simp); omega
        · have := hw3.1 x hx; omega
      have hpq : (p ++ q).Pairwise (fun x y => x.2 ≤ y.1 ∨ y.2 ≤ x.1) := by
        rw [List.pairwise_append]
        exact ⟨hw2.1, hw3.2, fun x hx y hy => hw2.2.2 x hx y (by simp [hy])⟩
      have := ih (p ++ q) (by simp at hl ⊢; omega) (fun x hx => hp x (by simp at hx ⊢; rcases hx with h | h <;> simp [h])) hpq m.1 hmm.1 hall
      have hml := hm m (by simp)
      rw [List.map_append, sumI_app] at this ⊢
      rw [List.map_cons, sumI_cons]
      omega
/-- how long a team works: the sum of its sections -/
theorem busy_fold (g : Sec → Nat) : ∀ (h : List Sec) (b : List Int) (t : Nat), t < b.length → (h.foldl (fun b s => addAt b (g s) s.seconds) b).getD t 0 = b.getD t 0 + sumI ((h.filter fun s => g s == t).map Sec.seconds) := by
  intro h
  induction h with
  | nil => intro b t ht; simp [sumI]
  | cons s h ih =>
    intro b t ht
    rw [List.foldl_cons, ih _ t (by rw [addAt_length]; exact ht)]
    by_cases e : g s = t
    · subst e
      rw [addAt_get ht]
      simp only [List.filter_cons, beq_self_eq_true, if_true, List.map_cons, sumI_cons]
      omega
    · have e' : (g s == t) = false := by simpa using e
      have : (addAt b (g s) s.seconds).getD t 0 = b.getD t 0 := by
        unfold addAt
        rw [List.getD_eq_getElem?_getD, List.getElem?_set_ne e, ← List.getD_eq_getElem?_getD]
      rw [this]
      simp [e']
theorem busyTo_fold (g : Sec → Nat) (h : List Sec) : busyTo h (h.map g) h.length = h.foldl (fun b s => addAt b (g s) s.seconds) [0, 0, 0, 0] := by
  rw [← busy_zip h (h.map g) (by simp)]
  have : ∀ (h : List Sec) (b : List Int), ((h.map Sec.seconds).zip (h.map g)).foldl (fun b p => addAt b p.2 p.1) b = h.foldl (fun b s => addAt b (g s) s.seconds) b := by
    intro h
    induction h with
    | nil => intro b; rfl
    | cons s h ih => intro b; simp only [List.map_cons, List.zip_cons_cons, List.foldl_cons]; exact ih _
  exact this h _
theorem maxL_le {b : List Int} (hb : b.length = 4) {L : Int} (h : ∀ t, t < 4 → b.getD t 0 ≤ L) : maxL b ≤ L := by
  match b, hb with
  | [p, q, r, s], _ =>
    have h0 := h 0 (by omega)
    have h1 := h 1 (by omega)
    have h2 := h 2 (by omega)
    have h3 := h 3 (by omega)
    simp at h0 h1 h2 h3
    simp only [maxL, List.foldl_cons, List.foldl_nil, List.headD_cons, mx]
    (repeat' split) <;> omega
theorem le_maxL {b : List Int} (hb : b.length = 4) {t : Nat} (ht : t < 4) : b.getD t 0 ≤ maxL b := by
  match b, hb with
  | [p, q, r, s], _ =>
    simp only [maxL, List.foldl_cons, List.foldl_nil, List.headD_cons, mx]
    match t, ht with
    | 0, _ => simp; (repeat' split) <;> omega
    | 1, _ => simp; (repeat' split) <;> omega
    | 2, _ => simp; (repeat' split) <;> omega
    | 3, _ => simp; (repeat' split) <;> omega
/-- the sections have different numbers -/
def Diff (h : List Sec) : Prop := h.Pairwise fun s s' => s.id ≠ s'.id
theorem secOf_mem {h : List Sec} {n : Int} {s : Sec} (e : secOf h n = some s) : s ∈ h ∧ s.id = n := by
  unfold secOf at e
  exact ⟨List.mem_of_find?_eq_some e, by simpa using List.find?_some e⟩
theorem diff_eq : ∀ {h : List Sec}, Diff h → ∀ {s s' : Sec}, s ∈ h → s' ∈ h → s.id = s'.id → s = s' := by
  intro h
  induction h with
  | nil => intro _ s s' hs; simp at hs
  | cons x h ih =>
    intro hd s s' hs hs' e
    obtain ⟨h1, h2⟩ := List.pairwise_cons.1 hd
    rcases List.mem_cons.1 hs with rfl | ks
    · rcases List.mem_cons.1 hs' with rfl | ks'
      · rfl
      · exact absurd e (h1 s' ks')
    · rcases List.mem_cons.1 hs' with rfl | ks'
      · exact absurd e.symm (h1 s ks)
      · exact ih h2 ks ks' e
theorem secOf_of {h : List Sec} (hd : Diff h) {s : Sec} (hs : s ∈ h) : secOf h s.id = some s := by
  unfold secOf
  cases hq : h.find? fun q => q.id == s.id with
  | none =>
    have := List.find?_eq_none.1 hq s hs
    simp at this
  | some q =>
    have h1 := List.mem_of_find?_eq_some hq
    have h2 : q.id = s.id := by simpa using List.find?_some hq
    rw [diff_eq hd h1 hs h2]
/-- what valid jobs tell -/
structure VJ (h : List Sec) (T : Int) (js : List Job) : Prop where
  len : js.length = h.length
  ok : ∀ j ∈ js, ∃ s, s ∈ h ∧ s.id = j.sec ∧ (1 ≤ j.team ∧ j.team ≤ T) ∧ 0 ≤ j.from_ ∧ j.to_ = j.from_ + s.seconds
  one : (js.map Job.sec).Nodup
  free : js.Pairwise fun a b => a.team = b.team → a.to_ ≤ b.from_ ∨ b.to_ ≤ a.from_
theorem valid_vj {h : List Sec} {T : Int} {js : List Job} (hv : validH h T js = true) : VJ h T js := by
  unfold validH at hv
  simp only [Bool.and_eq_true, decide_eq_true_eq] at hv
  obtain ⟨⟨hlen, h1⟩, h2⟩ := hv
  have h1 := allTo_get h1
  have h2 := allTo_get h2
  simp only [List.nil_append] at h1 h2
  refine ⟨hlen, fun j hj => ?_, ?_, ?_⟩
  · obtain ⟨k, hk, rfl⟩ := List.mem_iff_getElem.1 hj
    have h1 := h1 k hk
    unfold P1 jobOk at h1
    simp only [Bool.and_eq_true] at h1
    obtain ⟨h1, _⟩ := h1
    cases hs : secOf h js[k].sec with
    | none => rw [hs] at h1; simp at h1
    | some s =>
      rw [hs] at h1
      obtain ⟨m1, m2⟩ := secOf_mem hs
      simp only [Bool.and_eq_true, teamOk, timeOk, decide_eq_true_eq] at h1
      exact ⟨s, m1, m2, h1.1, h1.2.1, by omega⟩
  · rw [List.Nodup, List.pairwise_iff_getElem]
    intro i j hi hj hij e
    have hj' : j < js.length := by simpa using hj
    have h1 := h1 j hj'
    unfold P1 at h1
    simp only [Bool.and_eq_true, Bool.not_eq_true', List.any_eq_false] at h1
    have := h1.2 js[i] (by rw [List.mem_take_iff_getElem]; exact ⟨i, by omega, rfl⟩)
    simp only [List.getElem_map] at e
    simp [same1, e] at this
  · rw [List.pairwise_iff_getElem]
    intro i j hi hj hij e
    have h2 := h2 j hj
    unfold P2 at h2
    simp only [Bool.not_eq_true', List.any_eq_false] at h2
    have := h2 js[i] (by rw [List.mem_take_iff_getElem]; exact ⟨i, by omega, rfl⟩)
    simp [over1, e] at this
    omega
theorem vj_valid {h : List Sec} (hd : Diff h) {T : Int} {js : List Job} (hv : VJ h T js) (hp : ∀ s ∈ h, 1 ≤ s.seconds) : validH h T js = true := by
  unfold validH
  simp only [Bool.and_eq_true, decide_eq_true_eq]
  refine ⟨⟨hv.len, allTo_of fun k hk => ?_⟩, allTo_of fun k hk => ?_⟩
  · obtain ⟨s, m1, m2, h1, h2, h3⟩ := hv.ok js[k] (List.getElem_mem hk)
    unfold P1 jobOk
    rw [← m2, secOf_of hd m1]
    have := hp s m1
    simp only [Bool.and_eq_true, teamOk, timeOk, decide_eq_true_eq, List.nil_append, Bool.not_eq_true', List.any_eq_false]
    refine ⟨⟨h1, h2, by omega, by omega⟩, fun b hb => ?_⟩
    rw [List.mem_take_iff_getElem] at hb
    obtain ⟨i, hi, rfl⟩ := hb
    have h := hv.one
    rw [List.Nodup, List.pairwise_iff_getElem] at h
    have := h i k (by simp; omega) (by simpa using hk) (by omega)
    simp only [List.getElem_map] at this
    simpa [same1] using this
  · unfold P2
    simp only [List.nil_append, Bool.not_eq_true', List.any_eq_false]
    intro b hb
    rw [List.mem_take_iff_getElem] at hb
    obtain ⟨i, hi, rfl⟩ := hb
    have h := List.pairwise_iff_getElem.1 hv.free i k (by omega) hk (by omega)
    simp [over1]
    intro e h1
    have := h e
    omega
def jobFor (js : List Job) (s : Sec) : Job := (js.find? fun j => j.sec == s.id).getD Job.zero
/-- each section has its job -/
theorem vj_for {h : List Sec} (hd : Diff h) {T : Int} {js : List Job} (hv : VJ h T js) {s : Sec} (hs : s ∈ h) : jobFor js s ∈ js ∧ (jobFor js s).sec = s.id := by
  have hm : s.id ∈ js.map Job.sec := all_met _ (h.map Sec.id) hv.one (fun x hx => by
    obtain ⟨j, hj, rfl⟩ := List.mem_map.1 hx
    obtain ⟨s', m1, m2, _⟩ := hv.ok j hj
    rw [← m2]
    exact List.mem_map_of_mem m1) (by simp [hv.len]) _ (List.mem_map_of_mem hs)
  obtain ⟨j, hj, e⟩ := List.mem_map.1 hm
  unfold jobFor
  cases hq : js.find? fun j => j.sec == s.id with
  | none =>
    have := List.find?_eq_none.1 hq j hj
    simp [e] at this
  | some q =>
    exact ⟨List.mem_of_find?_eq_some hq, by simpa using List.find?_some hq⟩
theorem pairwise_two {α : Type} {R : α → α → Prop} : ∀ {l : List α}, l.Pairwise R → ∀ {a b : α}, a ∈ l → b ∈ l → a ≠ b → R a b ∨ R b a := by
  intro l
  induction l with
  | nil => intro _ a b ha; simp at ha
  | cons x l ih =>
    intro hp a b ha hb hne
    obtain ⟨h1, h2⟩ := List.pairwise_cons.1 hp
    rcases List.mem_cons.1 ha with rfl | ka
    · rcases List.mem_cons.1 hb with rfl | kb
      · exact absurd rfl hne
      · exact .inl (h1 b kb)
    · rcases List.mem_cons.1 hb with rfl | kb
      · exact .inr (h1 a ka)
      · exact ih h2 ka kb hne
theorem vj_two {h : List Sec} {T : Int} {js : List Job} (hv : VJ h T js) {a b : Job} (ha : a ∈ js) (hb : b ∈ js) (hne : a.sec ≠ b.sec) (ht : a.team = b.team) : a.to_ ≤ b.from_ ∨ b.to_ ≤ a.from_ := by
  rcases pairwise_two hv.free ha hb (fun e => hne (by rw [e])) with h | h
  · exact h ht
  · have := h ht.symm; omega
/-- an assignment that ends no later -/
theorem vj_least {h : List Sec} (hd : Diff h) (hp : ∀ s ∈ h, 1 ≤ s.seconds) {T : Nat} (hT : T ≤ 3) {js : List Job} (hv : VJ h T js) {L : Int} (hL : 0 ≤ L) (hto : ∀ j ∈ js, j.to_ ≤ L) :
    ∃ a : List Nat, a.length = h.length ∧ (∀ t ∈ a, 1 ≤ t ∧ t ≤ T) ∧ endOf h a ≤ L := by
  have hteam : ∀ s ∈ h, 1 ≤ (jobFor js s).team ∧ (jobFor js s).team ≤ T ∧ 0 ≤ (jobFor js s).from_ ∧ (jobFor js s).to_ = (jobFor js s).from_ + s.seconds := fun s hs => by
    obtain ⟨m1, m2⟩ := vj_for hd hv hs
    obtain ⟨s', m3, m4, m5, m6, m7⟩ := hv.ok _ m1
    have : s' = s := diff_eq hd m3 hs (by rw [m4, m2])
    subst this
    exact ⟨m5.1, m5.2, m6, m7⟩
  refine ⟨h.map fun s => (jobFor js s).team.toNat, by simp, fun t ht => ?_, ?_⟩
  · obtain ⟨s, hs, rfl⟩ := List.mem_map.1 ht
    have := hteam s hs
    omega
  · unfold endOf
    have hb4 : ∀ (h : List Sec) (g : Sec → Nat) (b : List Int), b.length = 4 → (h.foldl (fun b s => addAt b (g s) s.seconds) b).length = 4 := by
      intro h g
      induction h with
      | nil => intro b hb; exact hb
      | cons s h ih => intro b hb; exact ih _ (by rw [addAt_length]; exact hb)
    rw [busyTo_fold]
    refine maxL_le (hb4 _ _ _ rfl) fun t ht => ?_
    rw [busy_fold _ _ _ _ (by simpa using ht)]
    have hz : ([0, 0, 0, 0] : List Int).getD t 0 = 0 := by
      match t, ht with
      | 0, _ => rfl
      | 1, _ => rfl
      | 2, _ => rfl
      | 3, _ => rfl
    rw [hz, Int.zero_add]
    have hmem : ∀ {s : Sec}, s ∈ (h.filter fun s => (jobFor js s).team.toNat == t) → s ∈ h ∧ (jobFor js s).team.toNat = t := fun hs => by
      have := List.mem_filter.1 hs
      exact ⟨this.1, by simpa using this.2⟩
    have key := span_le _ (((h.filter fun s => (jobFor js s).team.toNat == t)).map fun s => ((jobFor js s).from_, (jobFor js s).to_)) (Nat.le_refl _) (fun x hx => by
      obtain ⟨s, hs, rfl⟩ := List.mem_map.1 hx
      have h1 := hteam s (hmem hs).1
      have h2 := hp s (hmem hs).1
      simp only
      omega) (by
      rw [List.pairwise_map]
      have hdf : (h.filter fun s => (jobFor js s).team.toNat == t).Pairwise fun s s' => s.id ≠ s'.id := List.Pairwise.sublist List.filter_sublist hd
      refine List.Pairwise.imp_of_mem (fun {s s'} hs hs' hne => ?_) hdf
      obtain ⟨a1, a2⟩ := hmem hs
      obtain ⟨b1, b2⟩ := hmem hs'
      obtain ⟨c1, c2⟩ := vj_for hd hv a1
      obtain ⟨d1, d2⟩ := vj_for hd hv b1
      have e1 := hteam s a1
      have e2 := hteam s' b1
      exact vj_two hv c1 d1 (by rw [c2, d2]; exact hne) (by omega)) L hL (fun x hx => by
      obtain ⟨s, hs, rfl⟩ := List.mem_map.1 hx
      exact hto _ (vj_for hd hv (hmem hs).1).1)
    rw [List.map_map] at key
    have e : ((h.filter fun s => (jobFor js s).team.toNat == t).map Sec.seconds) = ((h.filter fun s => (jobFor js s).team.toNat == t).map ((fun x : Int × Int => x.2 - x.1) ∘ fun s => ((jobFor js s).from_, (jobFor js s).to_))) := by
      apply List.map_congr_left
      intro s hs
      have := hteam s (hmem hs).1
      simp only [Function.comp]
      omega
    rw [e]
    exact key
end Go.Proofs.Ytogaepijfbgniaa
