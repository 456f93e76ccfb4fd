/- The plain law of the reference's flows: the flow through a pipe is what is drawn at the nodes whose way holds the pipe. -/
import Derived.Test.YthhjnplegdmidaaPlain3
namespace Go.Proofs.Ythhjnplegdmidaa
/-- what the pipe of index i carries, by the ways -/
def carry (rl : List Pipe) (i : Nat) (ds : List Draw) : Int := (ds.map fun d => d.flow * ((wayR rl d.node).1.count i : Int)).sum
theorem wayR_lt (rl : List Pipe) : ∀ (n : Int) (i : Nat), i ∈ (wayR rl n).1 → i < rl.length := by
  induction rl with
  | nil => intro n i h; simp [wayR] at h
  | cons p r ih =>
    intro n i h
    unfold wayR at h
    split at h
    · simp only [List.mem_append, List.mem_singleton] at h
      rcases h with h | h
      · have := ih _ _ h; simp; omega
      · simp; omega
    · have := ih _ _ h; simp; omega
theorem wayR_count (rl : List Pipe) (n : Int) {i : Nat} (h : rl.length ≤ i) : (wayR rl n).1.count i = 0 := by
  apply List.count_eq_zero.2
  intro hm
  have := wayR_lt rl n i hm
  omega
theorem carry_low (p : Pipe) (r : List Pipe) {i : Nat} (hi : i < r.length) (ds : List Draw) : carry (p :: r) i ds = carry r i (send p ds) := by
  unfold carry send
  rw [List.map_map]
  congr 1
  apply List.map_congr_left
  intro d _
  simp only [Function.comp]
  by_cases h : d.node = p.to_
  · rw [if_pos h]
    have : wayR (p :: r) d.node = ((wayR r p.from_).1 ++ [r.length], (wayR r p.from_).2) := by rw [wayR, if_pos h.symm]
    rw [this]
    simp only [List.count_append, List.count_singleton]
    have : (r.length == i) = false := by simp; omega
    rw [this]
    simp
  · rw [if_neg h]
    have : wayR (p :: r) d.node = wayR r d.node := by rw [wayR, if_neg (fun e => h e.symm)]
    rw [this]
theorem carry_top (p : Pipe) (r : List Pipe) (ds : List Draw) : carry (p :: r) r.length ds = sumAt ds p.to_ := by
  unfold carry sumAt
  congr 1
  apply List.map_congr_left
  intro d _
  by_cases h : d.node = p.to_
  · rw [if_pos h]
    have : wayR (p :: r) d.node = ((wayR r p.from_).1 ++ [r.length], (wayR r p.from_).2) := by rw [wayR, if_pos h.symm]
    rw [this]
    simp only [List.count_append, List.count_singleton]
    rw [wayR_count r _ (Nat.le_refl _)]
    simp
  · rw [if_neg h]
    have : wayR (p :: r) d.node = wayR r d.node := by rw [wayR, if_neg (fun e => h e.symm)]
    rw [this, wayR_count r _ (Nat.le_refl _)]
    simp
theorem flowsR_carry (rl : List Pipe) : ∀ ds : List Draw, flowsR rl ds = (List.range rl.length).map fun i => carry rl i ds := by
  induction rl with
  | nil => intro ds; rfl
  | cons p r ih =>
    intro ds
    rw [flowsR, ih, List.length_cons, List.range_succ, List.map_append, List.map_cons, List.map_nil, carry_top]
    congr 1
    apply List.map_congr_left
    intro i hi
    rw [carry_low p r (List.mem_range.1 hi)]
/-- the row after k draws -/
def wayRow (l : List Pipe) (ds : List Draw) : List Int := (List.range l.length).map fun i => carry l.reverse i ds
theorem wayRow_flows (l : List Pipe) (ds : List Draw) : wayRow l ds = flowsOf l ds := by
  unfold wayRow flowsOf
  rw [flowsR_carry, List.length_reverse]
/-- the row while a draw's way is added: the first j nodes of the way are done -/
def midRow (base : List Int) (ws : List Nat) (f : Int) (j : Nat) : List Int := base.mapIdx fun i x => x + f * ((ws.take j).count i : Int)
theorem midRow_zero (base : List Int) (ws : List Nat) (f : Int) : midRow base ws f 0 = base := by
  unfold midRow
  apply List.ext_getElem <;> simp
theorem midRow_length (base : List Int) (ws : List Nat) (f : Int) (j : Nat) : (midRow base ws f j).length = base.length := by
  unfold midRow; simp
theorem midRow_step (base : List Int) (ws : List Nat) (f : Int) {j : Nat} (hj : j < ws.length) (x : Int) (hx : (midRow base ws f j)[ws[j]]? = some x) : (midRow base ws f j).set ws[j] (x + f) = midRow base ws f (j + 1) := by
  obtain ⟨hlt, hx'⟩ := List.getElem?_eq_some_iff.1 hx
  apply List.ext_getElem
  · simp [midRow_length]
  · intro i h1 h2
    rw [List.getElem_set]
    have hc : ((ws.take (j + 1)).count i : Int) = ((ws.take j).count i : Int) + if ws[j] = i then 1 else 0 := by
      rw [List.take_succ_eq_append_getElem hj, List.count_append, List.count_singleton]
      by_cases e : ws[j] = i
      · simp [e]
      · simp [e]
    by_cases e : ws[j] = i
    · subst e
      rw [if_pos rfl, ← hx']
      simp only [midRow, List.getElem_mapIdx]
      rw [hc, if_pos rfl, Int.mul_add, Int.mul_one, Int.add_assoc]
    · rw [if_neg e]
      simp only [midRow, List.getElem_mapIdx]
      rw [hc, if_neg e, Int.add_zero]
theorem midRow_end (l : List Pipe) (ds : List Draw) {k : Nat} (hk : k < ds.length) : midRow (wayRow l (ds.take k)) (wayOf l ds[k].node).1 ds[k].flow (wayOf l ds[k].node).1.length = wayRow l (ds.take (k + 1)) := by
  apply List.ext_getElem
  · simp [midRow_length, wayRow]
  · intro i h1 h2
    simp only [midRow, List.getElem_mapIdx, wayRow, List.getElem_map, List.getElem_range, List.take_length, carry]
    rw [List.take_succ_eq_append_getElem hk, List.map_append, List.sum_append]
    simp [wayOf]
theorem wayR_length (rl : List Pipe) : ∀ n : Int, (wayR rl n).1.length ≤ rl.length := by
  induction rl with
  | nil => intro n; simp [wayR]
  | cons p r ih =>
    intro n
    unfold wayR
    split
    · have := ih p.from_
      simp only [List.length_append, List.length_cons, List.length_nil]
      omega
    · have := ih n
      simp only [List.length_cons]
      omega
theorem midRow_bd {l : List Pipe} {ds : List Draw} (hm : l.length ≤ 64) (ht : tot ds ≤ 1000000000000) {k : Nat} {f : Int} (hf : 0 ≤ f ∧ f ≤ 1000000000000) (htk : posD (ds.take k) ∧ tot (ds.take k) ≤ tot ds) (n : Int) (j : Nat) :
    ∀ x ∈ midRow (wayRow l (ds.take k)) (wayOf l n).1 f j, 0 ≤ x ∧ x ≤ 65000000000000 := by
  intro x hx
  obtain ⟨i, hi, rfl⟩ := List.mem_iff_getElem.1 hx
  simp only [midRow, List.getElem_mapIdx]
  rw [midRow_length] at hi
  have hmem := List.getElem_mem hi
  generalize (wayRow l (ds.take k))[i] = y at *
  rw [wayRow_flows] at hmem
  have hb := flowsR_bd htk.1 _ hmem
  have hc : List.count i ((wayOf l n).1.take j) ≤ 64 := by
    have h1 := List.count_le_length (a := i) (l := (wayOf l n).1.take j)
    have h2 := wayR_length l.reverse n
    rw [List.length_reverse] at h2
    rw [List.length_take] at h1
    unfold wayOf at h1 ⊢
    simp only at h1 ⊢
    omega
  generalize List.count i ((wayOf l n).1.take j) = c at *
  have hc' : (c : Int) ≤ 64 := by omega
  have h1 : 0 ≤ f * (c : Int) := Int.mul_nonneg hf.1 (by omega)
  have h2 : f * (c : Int) ≤ 1000000000000 * 64 := Int.mul_le_mul hf.2 hc' (by omega) (by omega)
  omega
theorem good_root {l : List Pipe} (hg : Good l) : ∀ n : Int, known l n = true → (wayR l.reverse n).2 = 0 := by
  induction hg with
  | nil => intro n h; simp [known] at h; simpa [wayR] using h
  | @snoc l p _ _ _ h3 ih =>
    intro n h
    rw [List.reverse_append]
    simp only [List.reverse_cons, List.reverse_nil, List.nil_append, List.cons_append]
    unfold wayR
    by_cases e : p.to_ = n
    · rw [if_pos e]; exact ih _ h3
    · rw [if_neg e]
      apply ih
      unfold known at h ⊢
      simp only [Bool.or_eq_true, decide_eq_true_eq, List.any_append, List.any_cons, List.any_nil, Bool.or_false] at h ⊢
      rcases h with h | h | h
      · exact .inl h
      · exact .inr h
      · exact absurd h e
theorem wayR_known (rl : List Pipe) : ∀ n : Int, (wayR rl n).1 ≠ [] → ∃ q ∈ rl, q.to_ = n := by
  induction rl with
  | nil => intro n h; simp [wayR] at h
  | cons p r ih =>
    intro n h
    unfold wayR at h
    by_cases e : p.to_ = n
    · exact ⟨p, by simp, e⟩
    · rw [if_neg e] at h
      obtain ⟨q, hq, e2⟩ := ih n h
      exact ⟨q, by simp [hq], e2⟩
/-- of right pipes a way that is not empty begins at the root -/
theorem way_ok {l : List Pipe} (hg : Good l) (n : Int) (h : 0 < (wayOf l n).1.length) : (wayOf l n).2 = true := by
  obtain ⟨q, hq, e⟩ := wayR_known l.reverse n (fun e => by unfold wayOf at h; simp only at h; rw [e] at h; simp at h)
  unfold wayOf
  simp only [decide_eq_true_eq]
  apply good_root hg
  unfold known
  simp only [Bool.or_eq_true, List.any_eq_true, decide_eq_true_eq]
  exact .inr ⟨q, by simpa using hq, e⟩
theorem way_lt (l : List Pipe) (n : Int) {j : Nat} (hj : j < (wayOf l n).1.length) : (wayOf l n).1[j] < l.length := by
  have := wayR_lt l.reverse n (wayOf l n).1[j] (List.getElem_mem hj)
  simpa using this
end Go.Proofs.Ythhjnplegdmidaa
