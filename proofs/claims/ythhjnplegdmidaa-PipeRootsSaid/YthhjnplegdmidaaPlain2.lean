/- The plain law of package pipe: right lists; flows from the end of the list on. -/
import Derived.Test.YthhjnplegdmidaaPlain
namespace Go.Proofs.Ythhjnplegdmidaa
/-- a right list, told from its beginning -/
inductive Good : List Pipe → Prop
  | nil : Good []
  | snoc {l : List Pipe} {p : Pipe} : Good l → inR p = true → twice l p = false → known l p.from_ = true → Good (l ++ [p])
theorem good_go {pre r : List Pipe} (hp : Good pre) (h : rightGo pre r = 0) : Good (pre ++ r) := by
  induction r generalizing pre with
  | nil => simpa using hp
  | cons p r ih =>
    rw [rightGo] at h
    by_cases he : errAt pre p = 0
    · rw [if_pos he] at h
      have hg : Good (pre ++ [p]) := by
        unfold errAt at he
        cases h1 : inR p <;> rw [h1] at he
        · simp at he
        · cases h2 : twice pre p <;> rw [h2] at he
          · cases h3 : known pre p.from_ <;> rw [h3] at he
            · simp at he
            · exact .snoc hp h1 h2 h3
          · simp at he
      have := ih hg h
      simpa using this
    · rw [if_neg he] at h
      exact absurd h he
theorem good_right {l : List Pipe} (h : rightOf l = 0) : Good l ∧ l.length ≤ 64 := by
  unfold rightOf at h
  split at h
  · omega
  · exact ⟨by simpa using good_go .nil h, by omega⟩
theorem good_in {l : List Pipe} (h : Good l) : ∀ p ∈ l, inR p = true := by
  induction h with
  | nil => intro p hp; simp at hp
  | snoc _ h1 _ _ ih =>
    intro q hq
    rcases List.mem_append.1 hq with hq | hq
    · exact ih q hq
    · simp at hq; subst hq; exact h1
theorem good_apart {l : List Pipe} (h : Good l) : l.Pairwise fun p q => p.to_ ≠ q.to_ := by
  induction h with
  | nil => exact .nil
  | @snoc l p _ _ h2 _ ih =>
    rw [List.pairwise_append]
    refine ⟨ih, by simp, fun q hq x hx => ?_⟩
    simp at hx
    subst hx
    unfold twice at h2
    rw [List.any_eq_false] at h2
    have := h2 q hq
    simp at this
    exact this.2
theorem good_take {l : List Pipe} (h : Good l) (k : Nat) : Good (l.take k) := by
  induction h with
  | nil => simpa using Good.nil
  | @snoc l p hl h1 h2 h3 ih =>
    by_cases hk : k ≤ l.length
    · rw [List.take_append_of_le_length hk]
      exact ih
    · rw [List.take_of_length_le (by simp; omega)]
      exact .snoc hl h1 h2 h3
theorem good_known {l : List Pipe} (h : Good l) {k : Nat} (hk : k < l.length) : known (l.take k) l[k].from_ = true ∧ twice (l.take k) l[k] = false ∧ inR l[k] = true := by
  have hg := good_take h (k + 1)
  rw [List.take_succ_eq_append_getElem hk] at hg
  generalize hq : l.take k ++ [l[k]] = q at hg
  cases hg with
  | nil =>
    have := congrArg List.length hq
    simp at this
    exact absurd hk (by simp [this])
  | snoc hl h1 h2 h3 =>
    obtain ⟨e1, e2⟩ := List.append_inj' hq rfl
    simp at e2
    subst e2
    subst e1
    exact ⟨h3, h2, h1⟩
/-- what the closure does: the flow is added at the pipe that leads to the node -/
def addAt (l : List Pipe) (out : List Int) (node flow : Int) : List Int := match l.findIdx? fun p => p.to_ == node with
  | some i => out.set i (out.getD i 0 + flow)
  | none => out
theorem addAt_map {l : List Pipe} (h : l.Pairwise fun p q => p.to_ ≠ q.to_) (f : Pipe → Int) (node flow : Int) : addAt l (l.map f) node flow = l.map fun p => f p + if p.to_ = node then flow else 0 := by
  unfold addAt
  cases hf : l.findIdx? fun p => p.to_ == node with
  | none =>
    rw [List.findIdx?_eq_none_iff] at hf
    apply List.map_congr_left
    intro p hp
    have := hf p hp
    simp at this
    simp [this]
  | some i =>
    obtain ⟨hi, ht, hb⟩ := List.findIdx?_eq_some_iff_getElem.1 hf
    apply List.ext_getElem
    · simp
    · intro j h1 h2
      have hj : j < l.length := by simpa using h1
      simp only [List.getElem_map, List.getElem_set, List.getElem_map]
      by_cases e : i = j
      · subst e
        simp at ht
        simp [ht, hi]
      · rw [if_neg e]
        have hne : l[j].to_ ≠ node := by
          simp at ht
          rw [← ht]
          rcases Nat.lt_or_gt_of_ne e with h3 | h3
          · exact (List.pairwise_iff_getElem.1 h i j hi hj h3).symm
          · exact List.pairwise_iff_getElem.1 h j i hj hi h3
        simp [hne]
theorem sumAt_succ {ds : List Draw} {k : Nat} (hk : k < ds.length) (n : Int) : sumAt (ds.take (k + 1)) n = sumAt (ds.take k) n + if n = ds[k].node then ds[k].flow else 0 := by
  unfold sumAt
  rw [List.take_succ_eq_append_getElem hk, List.map_append, List.sum_append]
  simp only [List.map_cons, List.map_nil, List.sum_cons, List.sum_nil, Int.add_zero]
  congr 1
  by_cases e : n = ds[k].node
  · simp [e]
  · have : ¬ ds[k].node = n := fun h => e h.symm
    simp [e, this]
theorem sumAt_send (p : Pipe) (ds : List Draw) (n : Int) (hn : n ≠ p.to_) : sumAt (send p ds) n = sumAt ds n + if n = p.from_ then sumAt ds p.to_ else 0 := by
  induction ds with
  | nil => simp [sumAt, send]
  | cons d r ih =>
    have e : ∀ m, sumAt (d :: r) m = (if d.node = m then d.flow else 0) + sumAt r m := fun m => by simp [sumAt]
    have e2 : sumAt (send p (d :: r)) n = (if (if d.node = p.to_ then (⟨p.from_, d.flow⟩ : Draw) else d).node = n then (if d.node = p.to_ then (⟨p.from_, d.flow⟩ : Draw) else d).flow else 0) + sumAt (send p r) n := by simp [sumAt, send]
    rw [e2, e, e, ih]
    by_cases h1 : d.node = p.to_
    · have h2 : ¬ d.node = n := fun h => hn (h.symm.trans h1)
      rw [if_pos h1]
      by_cases h3 : n = p.from_
      · have h4 : p.from_ = n := h3.symm
        show (if p.from_ = n then d.flow else 0) + _ = _
        rw [if_pos h4, if_pos h3, if_pos h3, if_neg h2, if_pos h1]
        omega
      · have h4 : ¬ p.from_ = n := fun h => h3 h.symm
        show (if p.from_ = n then d.flow else 0) + _ = _
        rw [if_neg h4, if_neg h3, if_neg h3, if_neg h2]
        omega
    · rw [if_neg h1]
      by_cases h3 : n = p.from_
      · rw [if_pos h3, if_pos h3, if_neg h1]
        omega
      · rw [if_neg h3, if_neg h3]
        omega
/-- what is drawn behind the last pipes is drawn before them -/
def sendAll (l : List Pipe) (ds : List Draw) : Nat → List Draw
  | 0 => ds
  | m + 1 => match l[l.length - 1 - m]? with
    | some p => send p (sendAll l ds m)
    | none => sendAll l ds m
end Go.Proofs.Ythhjnplegdmidaa
