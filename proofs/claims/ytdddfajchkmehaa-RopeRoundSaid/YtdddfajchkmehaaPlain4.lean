/- The plain law of package rope: a whole round; boarding and taking. -/
import Derived.Test.YtdddfajchkmehaaPlain3
namespace Go.Proofs.Ytdddfajchkmehaa
theorem moved_form {x : Line} (h : x.shape) {o : Nat} {r : Int} (hf : Form x o r) : Form (moved x x.spacing) ((o + 1) % x.load.length) r := by
  have e : (x.offset + x.spacing) % x.loop = posOf x 1 := by unfold posOf; simp
  refine ⟨by rw [moved_length]; exact Nat.mod_lt _ (by have := hf.1; omega), hf.2.1, hf.2.2.1, ?_⟩
  show (x.offset + x.spacing) % x.loop = _
  rw [e, form_pos h hf]
  rfl
/-- the carrier that passes the lower station -/
theorem pass_form {x : Line} (h : x.shape) {o : Nat} {r : Int} (hf : Form x o r) : passK x x.spacing x.load.length = ((x.load.length - 1 - o : Nat) : Int) := by
  have hn := h.2.2.1
  have hi : x.load.length - 1 - o < x.load.length := by omega
  have ht := (form_top h hf hi).2 rfl
  rcases pass_cases x x.spacing x.load.length with ⟨i, hi2, h1, e1⟩ | ⟨h1, e1⟩
  · rw [e1, (form_top h hf hi2).1 (by omega)]
  · have := h1 _ hi
    omega
/-- the line after k motions by Spacing -/
def turned (x : Line) : Nat → Line
  | 0 => x
  | k + 1 => moved (turned x k) x.spacing
theorem turned_spacing (x : Line) : ∀ k, (turned x k).spacing = x.spacing ∧ (turned x k).loop = x.loop ∧ (turned x k).load.length = x.load.length
  | 0 => ⟨rfl, rfl, rfl⟩
  | k + 1 => by
    obtain ⟨h1, h2, h3⟩ := turned_spacing x k
    exact ⟨h1, h2, by rw [turned, moved_length]; exact h3⟩
theorem turned_right {x : Line} (h : rightB x 16 = true) : ∀ k, rightB (turned x k) 16 = true
  | 0 => h
  | k + 1 => by
    have ih := turned_right h k
    have hs := (right_use ih).1
    have e := (turned_spacing x k).1
    rw [turned]
    exact moved_right ih (by omega) ⟨by have := hs.1; omega, by rw [e]; exact Int.le_refl _⟩
theorem turned_shape {x : Line} (h : rightB x 16 = true) (k : Nat) : (turned x k).shape := (right_use (turned_right h k)).1
theorem turned_form {x : Line} (h : rightB x 16 = true) {o : Nat} {r : Int} (hf : Form x o r) : ∀ k, Form (turned x k) ((o + k) % x.load.length) r
  | 0 => by rw [Nat.add_zero, Nat.mod_eq_of_lt hf.1]; exact hf
  | k + 1 => by
    have ih := turned_form h hf k
    have hs := turned_shape h k
    obtain ⟨e1, e2, e3⟩ := turned_spacing x k
    have := moved_form hs ih
    rw [e1, e3] at this
    rw [turned]
    have e4 : ((o + k) % x.load.length + 1) % x.load.length = (o + (k + 1)) % x.load.length := by rw [Nat.mod_add_mod]; rfl
    rw [e4] at this
    exact this
/-- who passes in the motion k -/
def passer (x : Line) (k : Nat) : Nat := x.load.length - 1 - ((x.offset / x.spacing).toNat + k) % x.load.length
theorem turned_pass {x : Line} (h : rightB x 16 = true) (k : Nat) : passK (turned x k) x.spacing x.load.length = (passer x k : Int) := by
  have hs := (right_use h).1
  have hk := turned_shape h k
  obtain ⟨e1, e2, e3⟩ := turned_spacing x k
  have := pass_form hk (turned_form h (form_of hs) k)
  rw [e1, e3] at this
  exact this
theorem passer_lt {x : Line} (h : 1 ≤ x.load.length) (k : Nat) : passer x k < x.load.length := by unfold passer; omega
theorem passer_ne {x : Line} (h : 1 ≤ x.load.length) {j k : Nat} (hj : j < k) (hk : k < x.load.length) : passer x j ≠ passer x k := by
  unfold passer
  intro e
  have m1 : ((x.offset / x.spacing).toNat + j) % x.load.length < x.load.length := Nat.mod_lt _ (by omega)
  have m2 : ((x.offset / x.spacing).toNat + k) % x.load.length < x.load.length := Nat.mod_lt _ (by omega)
  have e2 : ((x.offset / x.spacing).toNat + k) % x.load.length = ((x.offset / x.spacing).toNat + j) % x.load.length := by omega
  have := Nat.sub_mod_eq_zero_of_mod_eq e2
  rw [show (x.offset / x.spacing).toNat + k - ((x.offset / x.spacing).toNat + j) = k - j by omega, Nat.mod_eq_of_lt (by omega)] at this
  omega
/-- who has passed in the first k motions -/
def seenRow (x : Line) (k : Nat) : List Bool := (List.range x.load.length).map fun i => (List.range k).any fun j => decide (passer x j = i)
theorem seenRow_length (x : Line) (k : Nat) : (seenRow x k).length = x.load.length := by simp [seenRow]
theorem seenRow_zero (x : Line) : seenRow x 0 = List.replicate x.load.length false := by
  apply List.ext_getElem
  · simp [seenRow]
  · intro i _ _; simp [seenRow]
theorem seenRow_at {x : Line} (h : 1 ≤ x.load.length) {k : Nat} (hk : k < x.load.length) : (seenRow x k)[passer x k]'(by rw [seenRow_length]; exact passer_lt h k) = false := by
  simp only [seenRow, List.getElem_map, List.getElem_range, List.any_eq_false, List.mem_range, decide_eq_true_eq]
  intro j hj
  exact passer_ne h hj hk
theorem seenRow_step (x : Line) (k : Nat) : (seenRow x k).set (passer x k) true = seenRow x (k + 1) := by
  apply List.ext_getElem
  · simp [seenRow]
  · intro i h1 h2
    rw [List.getElem_set]
    simp only [seenRow, List.getElem_map, List.getElem_range, List.range_succ, List.any_append, List.any_cons, List.any_nil, Bool.or_false]
    by_cases e : passer x k = i
    · simp [e]
    · simp [e]
/-- how many have left in the first k motions -/
def goneK (x : Line) : Nat → Int
  | 0 => 0
  | k + 1 => goneK x k + leftK (turned x k) x.spacing x.load.length
theorem gone_people {x : Line} : ∀ k, goneK x k + peopleOf (turned x k) = peopleOf x
  | 0 => by simp [goneK, turned]
  | k + 1 => by
    have ih := gone_people (x := x) k
    have e := (turned_spacing x k).2.2
    have := moved_people (turned x k) x.spacing
    rw [e] at this
    rw [goneK, turned]
    omega
theorem people_bd {x : Line} {s : Int} (hs : 0 ≤ s) (h : fit x.load s) : 0 ≤ peopleOf x ∧ peopleOf x ≤ s * x.load.length := by
  have := sum_bd hs h x.load.length
  rw [List.take_length] at this
  exact this
/-- who is still on after k motions has come that far -/
theorem turned_far {x : Line} (h : rightB x 16 = true) : ∀ k i, i < x.load.length → (turned x k).load.getD i 0 ≠ 0 → (k : Int) * x.spacing ≤ posOf (turned x k) i
  | 0, i, hi, _ => by
    have := pos_bd (right_use h).1 i
    simp [turned]
    exact this.1
  | k + 1, i, hi, h0 => by
    have ih := turned_far h k i hi
    have hk := turned_right h k
    obtain ⟨hs, hr⟩ := right_use hk
    obtain ⟨e1, e2, e3⟩ := turned_spacing x k
    have hi' : i < (turned x k).load.length := by rw [e3]; exact hi
    rw [turned, moved_at hi'] at h0
    have hp := pos_bd hs i
    have hl := shape_bd hs
    have hm := moved_pos hs (d := x.spacing) ⟨by have := hs.1; omega, by omega⟩ i
    have hc : cross (turned x k) x.spacing i = false := by
      cases e : cross (turned x k) x.spacing i with
      | true => exact absurd (by unfold loadM; rw [e]; rfl) h0
      | false => rfl
    have h1 : (turned x k).load.getD i 0 ≠ 0 := by
      unfold loadM at h0
      rw [hc] at h0
      simpa using h0
    have h2 := ih h1
    have h3 := (hr i hi').2.2 (by rw [getD_at hi'] at h1; exact h1)
    unfold cross at hc
    simp only [decide_eq_false_iff_not] at hc
    rw [turned, hm, if_pos (by omega)]
    have e4 : ((k + 1 : Nat) : Int) * x.spacing = (k : Int) * x.spacing + x.spacing := by rw [Int.natCast_add, Int.add_mul]; simp
    rw [e4]
    omega
theorem turned_end {x : Line} (h : rightB x 16 = true) : (turned x x.load.length).offset = x.offset ∧ peopleOf (turned x x.load.length) = 0 ∧ goneK x x.load.length = peopleOf x := by
  have hs := (right_use h).1
  have hf := form_of hs
  have hk := turned_form h hf x.load.length
  obtain ⟨e1, e2, e3⟩ := turned_spacing x x.load.length
  have h1 : (turned x x.load.length).offset = x.offset := by
    have a := hk.2.2.2
    rw [Nat.add_mod_right, Nat.mod_eq_of_lt hf.1, e1] at a
    exact a.trans hf.2.2.2.symm
  have h2 : peopleOf (turned x x.load.length) = 0 := by
    unfold peopleOf
    have hz : ∀ y ∈ (turned x x.load.length).load, y = 0 := by
      intro y hy
      obtain ⟨i, hi, rfl⟩ := List.mem_iff_getElem.1 hy
      have hi' : i < x.load.length := by rw [e3] at hi; exact hi
      by_cases e : (turned x x.load.length).load[i] = 0
      · exact e
      · have h3 := turned_far h x.load.length i hi' (by rw [getD_at hi]; exact e)
        have h4 := pos_bd (turned_shape h x.load.length) i
        have h5 := hs.2.2.2.2.1
        rw [e2] at h4
        omega
    have : (turned x x.load.length).load = List.replicate (turned x x.load.length).load.length 0 := List.eq_replicate_iff.2 ⟨rfl, hz⟩
    rw [this]
    simp
  have h3 := gone_people (x := x) x.load.length
  exact ⟨h1, h2, by omega⟩
/-! ### boarding and taking -/
theorem sum_set : ∀ (l : List Int) (j : Nat) (hj : j < l.length) (n : Int), (l.set j n).sum = l.sum - l[j] + n
  | x :: r, 0, _, n => by simp; omega
  | x :: r, j + 1, hj, n => by
    have := sum_set r j (by simpa using hj) n
    simp only [List.set_cons_succ, List.sum_cons, List.getElem_cons_succ]
    omega
theorem put_shape {x : Line} (h : x.shape) (j : Nat) (n : Int) : (putL x j n).shape := by
  obtain ⟨h1, h2, h3, h4, h5, h6, h7, h8⟩ := h
  have e : (putL x j n).load.length = x.load.length := by simp [putL]
  exact ⟨h1, h2, by rw [e]; exact h3, by rw [e]; exact h4, by rw [e]; exact h5, h6, h7, h8⟩
theorem put_right {x : Line} {s : Int} (h : rightB x s = true) {j : Nat} {n : Int} (hn : 0 ≤ n ∧ n ≤ s) (hp : n ≠ 0 → posOf x j < x.loop / 2) : rightB (putL x j n) s = true := by
  obtain ⟨hs, hr⟩ := right_use h
  apply right_good (put_shape hs j n)
  intro k hk
  have hk' : k < x.load.length := by simpa [putL] using hk
  have e : (putL x j n).load[k] = if j = k then n else x.load[k] := by simp [putL, List.getElem_set]
  rw [e]
  unfold okAt
  have ep : posOf (putL x j n) k = posOf x k := rfl
  have el : (putL x j n).loop = x.loop := rfl
  rw [ep, el, decide_eq_true_eq]
  by_cases hjk : j = k
  · subst hjk
    rw [if_pos rfl]
    exact ⟨hn.1, hn.2, hp⟩
  · rw [if_neg hjk]
    exact hr k hk'
/-- who boards is on the line -/
theorem load_law {x : Line} (h : rightB x 16 = true) (i n : Int) : (loadOf x i n 16).2 = 0 ∧ rightB (loadOf x i n 16).1 16 = true ∧ peopleOf (loadOf x i n 16).1 = peopleOf x + n ∧ (0 ≤ n ∧ n ≤ 16) ∨ (loadOf x i n 16).2 ≠ 0 := by
  unfold loadOf
  split
  · rename_i hi
    have hj : i.toNat < x.load.length := by omega
    split
    · rename_i hc
      obtain ⟨c1, c2, c3⟩ := hc
      rw [getD_at hj] at c3
      split
      · rename_i hn
        refine .inl ⟨rfl, put_right h ⟨hn.1, by omega⟩ (fun _ => c2), ?_, hn.1, by omega⟩
        unfold peopleOf putL
        simp only
        rw [sum_set _ _ hj, c3]
        omega
      · exact .inr (by simp)
    · exact .inr (by simp)
  · exact .inr (by simp)
theorem take_law {x : Line} (h : rightB x 16 = true) (i n : Int) : (takeOf x i n).2 = 0 ∧ rightB (takeOf x i n).1 16 = true ∧ peopleOf (takeOf x i n).1 = peopleOf x - n ∧ (0 ≤ n ∧ n ≤ 16) ∨ (takeOf x i n).2 ≠ 0 := by
  unfold takeOf
  split
  · rename_i hi
    have hj : i.toNat < x.load.length := by omega
    have hr := (right_use h).2 _ hj
    rw [getD_at hj]
    split
    · rename_i hn
      refine .inl ⟨rfl, put_right h ⟨by omega, by omega⟩ (fun h0 => hr.2.2 (by omega)), ?_, hn.1, by omega⟩
      unfold peopleOf putL
      simp only
      rw [sum_set _ _ hj]
      omega
    · exact .inr (by simp)
  · exact .inr (by simp)
end Go.Proofs.Ytdddfajchkmehaa
