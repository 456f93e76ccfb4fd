/- The plain law of package rope: a motion keeps a line right; nobody is lost; motions add up. -/
import Derived.Test.YtdddfajchkmehaaPlain2
namespace Go.Proofs.Ytdddfajchkmehaa
theorem moved_shape {x : Line} (h : x.shape) (d : Int) : (moved x d).shape := by
  have hl := shape_bd h
  obtain ⟨h1, h2, h3, h4, h5, h6, h7, h8⟩ := h
  refine ⟨h1, h2, by rw [moved_length]; exact h3, by rw [moved_length]; exact h4, by rw [moved_length]; exact h5, h6, ?_, ?_⟩
  · exact Int.emod_nonneg _ (by omega)
  · exact Int.emod_lt_of_pos _ (by omega)
/-- the positions behind a motion -/
theorem moved_pos {x : Line} (h : x.shape) {d : Int} (hd : 0 ≤ d ∧ d ≤ x.spacing) (i : Nat) : posOf (moved x d) i = if posOf x i + d < x.loop then posOf x i + d else posOf x i + d - x.loop := by
  have hl := shape_bd h
  have hp := pos_bd h i
  have e : posOf (moved x d) i = (posOf x i + d) % x.loop := by
    show ((x.offset + d) % x.loop + (i : Int) * x.spacing) % x.loop = ((x.offset + (i : Int) * x.spacing) % x.loop + d) % x.loop
    rw [Int.emod_add_emod, Int.emod_add_emod]
    congr 1
    omega
  rw [e]
  split
  · exact Int.emod_eq_of_lt (by omega) (by omega)
  · have e2 : (posOf x i + d) % x.loop = (posOf x i + d - x.loop) % x.loop := by rw [Int.sub_emod_right]
    rw [e2]
    exact Int.emod_eq_of_lt (by omega) (by omega)
theorem moved_at {x : Line} {d : Int} {i : Nat} (hi : i < x.load.length) : (moved x d).load.getD i 0 = loadM x d i := by
  simp [moved, List.getD, hi]
/-- a motion keeps a line right -/
theorem moved_right {x : Line} {s : Int} (h : rightB x s = true) (hs0 : 0 ≤ s) {d : Int} (hd : 0 ≤ d ∧ d ≤ x.spacing) : rightB (moved x d) s = true := by
  obtain ⟨hs, hl⟩ := right_use h
  have hlb := shape_bd hs
  apply right_good (moved_shape hs d)
  intro k hk
  have hk' : k < x.load.length := by rw [moved_length] at hk; exact hk
  obtain ⟨a, b, c⟩ := hl k hk'
  have e : (moved x d).load[k] = loadM x d k := by simp [moved]
  rw [e]
  unfold okAt loadM cross
  rw [getD_at hk', moved_pos hs hd]
  have hp := pos_bd hs k
  show decide (_ ∧ _ ∧ (_ → _ < x.loop / 2)) = true
  simp only [decide_eq_true_eq]
  split
  · exact ⟨Int.le_refl _, hs0, fun h => absurd rfl h⟩
  · rename_i hc
    refine ⟨a, b, fun h0 => ?_⟩
    have := c h0
    split <;> omega
/-- nobody is lost -/
theorem moved_sum (x : Line) (d : Int) : ∀ k, k ≤ x.load.length → leftK x d k + (((List.range k).map (loadM x d)).sum) = (x.load.take k).sum
  | 0, _ => by simp [leftK]
  | k + 1, hk => by
    have ih := moved_sum x d k (by omega)
    rw [leftK, List.range_succ, List.map_append, List.sum_append, sum_succ (show k < x.load.length by omega), getD_at (show k < x.load.length by omega)]
    simp only [List.map_cons, List.map_nil, List.sum_cons, List.sum_nil, Int.add_zero]
    have e : loadM x d k = if cross x d k then 0 else x.load[k] := by unfold loadM; rw [getD_at (show k < x.load.length by omega)]
    rw [e]
    split <;> omega
theorem moved_people (x : Line) (d : Int) : peopleOf (moved x d) = peopleOf x - leftK x d x.load.length := by
  have := moved_sum x d x.load.length (Nat.le_refl _)
  rw [List.take_length] at this
  unfold peopleOf moved
  simp only
  omega
theorem pass_bd (x : Line) (d : Int) : ∀ k : Nat, -1 ≤ passK x d k ∧ passK x d k < (k : Int)
  | 0 => by simp [passK]
  | k + 1 => by
    have ih := pass_bd x d k
    rw [passK]
    split <;> omega
theorem pass_at (x : Line) (d : Int) : ∀ k : Nat, 0 ≤ passK x d k → x.loop ≤ posOf x (passK x d k).toNat + d
  | 0 => by simp [passK]
  | k + 1 => by
    have ih := pass_at x d k
    rw [passK]
    split
    · intro _; simpa using by assumption
    · exact ih
theorem pass_none (x : Line) (d : Int) : ∀ k : Nat, passK x d k = -1 → ∀ i, i < k → posOf x i + d < x.loop
  | 0 => fun _ i h => by omega
  | k + 1 => by
    have ih := pass_none x d k
    rw [passK]
    split
    · intro h; omega
    · intro h i hi
      by_cases e : i = k
      · subst e; omega
      · exact ih h i (by omega)
/-- which carrier is passing, if one is -/
theorem pass_cases (x : Line) (d : Int) (n : Nat) : (∃ i, i < n ∧ x.loop ≤ posOf x i + d ∧ passK x d n = (i : Int)) ∨ ((∀ i, i < n → posOf x i + d < x.loop) ∧ passK x d n = -1) := by
  have h := pass_bd x d n
  by_cases h0 : passK x d n = -1
  · exact .inr ⟨pass_none x d n h0, h0⟩
  · exact .inl ⟨(passK x d n).toNat, by omega, pass_at x d n (by omega), by omega⟩
/-! ### the offset in spacings -/
def Form (x : Line) (o : Nat) (r : Int) : Prop := o < x.load.length ∧ 0 ≤ r ∧ r < x.spacing ∧ x.offset = x.spacing * (o : Int) + r
theorem form_of {x : Line} (h : x.shape) : Form x (x.offset / x.spacing).toNat (x.offset % x.spacing) := by
  obtain ⟨h1, h2, h3, h4, h5, h6, h7, h8⟩ := h
  have d0 : 0 ≤ x.offset / x.spacing := Int.ediv_nonneg h7 (by omega)
  have e := Int.mul_ediv_add_emod x.offset x.spacing
  have m0 := Int.emod_nonneg x.offset (show x.spacing ≠ 0 by omega)
  have m1 := Int.emod_lt_of_pos x.offset (show 0 < x.spacing by omega)
  refine ⟨?_, m0, m1, by rw [Int.toNat_of_nonneg d0, e]⟩
  have : x.offset / x.spacing < (x.load.length : Int) := Int.ediv_lt_of_lt_mul (by omega) (by rw [← h5]; exact h8)
  omega
theorem form_pos {x : Line} (h : x.shape) {o : Nat} {r : Int} (hf : Form x o r) (i : Nat) : posOf x i = x.spacing * (((o + i) % x.load.length : Nat) : Int) + r := by
  obtain ⟨h1, h2, h3, h4, h5, h6, h7, h8⟩ := h
  obtain ⟨f1, f2, f3, f4⟩ := hf
  have hq : ((o + i : Nat) : Int) = (x.load.length : Int) * (((o + i) / x.load.length : Nat) : Int) + (((o + i) % x.load.length : Nat) : Int) := by
    have := Nat.div_add_mod (o + i) x.load.length
    exact_mod_cast this.symm
  have hm : (o + i) % x.load.length < x.load.length := Nat.mod_lt _ (by omega)
  unfold posOf
  generalize (o + i) / x.load.length = q at *
  generalize (o + i) % x.load.length = m at *
  have e : x.offset + (i : Int) * x.spacing = (x.spacing * (m : Int) + r) + x.loop * (q : Int) := by
    rw [f4, h5]
    have e1 : x.spacing * (o : Int) + r + (i : Int) * x.spacing = x.spacing * ((o + i : Nat) : Int) + r := by
      rw [Int.natCast_add, Int.mul_add, Int.mul_comm (i : Int)]; omega
    rw [e1, hq, Int.mul_add, ← Int.mul_assoc, Int.mul_comm x.spacing (x.load.length : Int)]
    omega
  rw [e, Int.add_mul_emod_self_left]
  have a1 : 0 ≤ x.spacing * (m : Int) := Int.mul_nonneg (by omega) (by omega)
  have a2 : x.spacing * ((m : Int) + 1) ≤ x.spacing * (x.load.length : Int) := Int.mul_le_mul_of_nonneg_left (by omega) (by omega)
  rw [Int.mul_add, Int.mul_one, Int.mul_comm x.spacing (x.load.length : Int), ← h5] at a2
  exact Int.emod_eq_of_lt (by omega) (by omega)
/-- the carrier nearest to the lower station -/
theorem form_top {x : Line} (h : x.shape) {o : Nat} {r : Int} (hf : Form x o r) {i : Nat} (hi : i < x.load.length) : x.loop - x.spacing ≤ posOf x i ↔ i = x.load.length - 1 - o := by
  rw [form_pos h hf]
  obtain ⟨h1, h2, h3, h4, h5, h6, h7, h8⟩ := h
  obtain ⟨f1, f2, f3, f4⟩ := hf
  have key : (x.load.length : Int) * x.spacing - x.spacing = x.spacing * ((x.load.length : Int) - 1) := by rw [Int.mul_sub, Int.mul_comm]; omega
  rw [h5, key]
  have hmod : (o + i) % x.load.length = if o + i < x.load.length then o + i else o + i - x.load.length := by
    split
    · exact Nat.mod_eq_of_lt (by assumption)
    · rw [Nat.mod_eq_sub_mod (by omega), Nat.mod_eq_of_lt (by omega)]
  constructor
  · intro hle
    have hm : (o + i) % x.load.length < x.load.length := Nat.mod_lt _ (by omega)
    have : (o + i) % x.load.length = x.load.length - 1 := by
      by_cases e : (o + i) % x.load.length = x.load.length - 1
      · exact e
      · have a2 : x.spacing * ((((o + i) % x.load.length : Nat) : Int) + 1) ≤ x.spacing * ((x.load.length : Int) - 1) := Int.mul_le_mul_of_nonneg_left (by omega) (by omega)
        rw [Int.mul_add, Int.mul_one] at a2
        omega
    rw [hmod] at this
    split at this <;> omega
  · intro e
    have : (o + i) % x.load.length = x.load.length - 1 := by
      rw [hmod, if_pos (by omega)]; omega
    rw [this]
    have : (((x.load.length - 1 : Nat)) : Int) = (x.load.length : Int) - 1 := by omega
    rw [this]
    omega
theorem top_one {x : Line} (h : x.shape) {i j : Nat} (hi : i < x.load.length) (hj : j < x.load.length) (h1 : x.loop - x.spacing ≤ posOf x i) (h2 : x.loop - x.spacing ≤ posOf x j) : i = j :=
  ((form_top h (form_of h) hi).1 h1).trans ((form_top h (form_of h) hj).1 h2).symm
/-! ### two motions -/
theorem parts_pass {x : Line} (h : x.shape) {a b : Int} (ha : 0 ≤ a) (hb : 0 ≤ b) (hab : a + b ≤ x.spacing) : passK x (a + b) x.load.length = max (passK x a x.load.length) (passK (moved x a) b x.load.length) := by
  have hl := shape_bd h
  have hp := fun i => pos_bd h i
  have hm := fun i => moved_pos h (d := a) ⟨ha, by omega⟩ i
  have hml : (moved x a).loop = x.loop := rfl
  have top := fun i j (hi : i < x.load.length) (hj : j < x.load.length) => top_one h hi hj
  have hq : ∀ j, j < x.load.length → (moved x a).loop ≤ posOf (moved x a) j + b → posOf x j + a < x.loop ∧ x.loop ≤ posOf x j + a + b := by
    intro j hj hh
    have := hm j
    have := hp j
    rw [hml] at hh
    by_cases e : posOf x j + a < x.loop
    · rw [if_pos e] at *; omega
    · rw [if_neg e] at *; omega
  rcases pass_cases x (a + b) x.load.length with ⟨i, hi, h1, e1⟩ | ⟨h1, e1⟩
  · rcases pass_cases x a x.load.length with ⟨j, hj, h2, e2⟩ | ⟨h2, e2⟩
    · have hij := top i j hi hj (by omega) (by omega)
      subst hij
      rcases pass_cases (moved x a) b x.load.length with ⟨k, hk, h3, e3⟩ | ⟨h3, e3⟩
      · obtain ⟨q1, q2⟩ := hq k hk h3
        have hik := top i k hi hk (by omega) (by omega)
        subst hik
        omega
      · rw [e1, e2, e3]; omega
    · rcases pass_cases (moved x a) b x.load.length with ⟨k, hk, h3, e3⟩ | ⟨h3, e3⟩
      · obtain ⟨q1, q2⟩ := hq k hk h3
        have hik := top i k hi hk (by omega) (by omega)
        rw [e1, e2, e3]; omega
      · have h4 := h3 i hi
        have h5 := h2 i hi
        have h6 := hm i
        rw [if_pos h5] at h6
        rw [hml] at h4
        omega
  · rcases pass_cases x a x.load.length with ⟨j, hj, h2, e2⟩ | ⟨h2, e2⟩
    · have := h1 j hj; omega
    · rcases pass_cases (moved x a) b x.load.length with ⟨k, hk, h3, e3⟩ | ⟨h3, e3⟩
      · obtain ⟨q1, q2⟩ := hq k hk h3
        have := h1 k hk
        omega
      · rw [e1, e2, e3]; omega
/-- what one carrier does in two motions -/
theorem parts_one {x : Line} {s : Int} (h : rightB x s = true) {a b : Int} (ha : 0 ≤ a) (hb : 0 ≤ b) (hab : a + b ≤ x.spacing) {i : Nat} (hi : i < x.load.length) :
    loadM (moved x a) b i = loadM x (a + b) i ∧ (if cross x a i then x.load.getD i 0 else 0) + (if cross (moved x a) b i then (moved x a).load.getD i 0 else 0) = if cross x (a + b) i then x.load.getD i 0 else 0 := by
  obtain ⟨hs, hr⟩ := right_use h
  have hl := shape_bd hs
  have hp := pos_bd hs i
  have hm := moved_pos hs (d := a) ⟨ha, by omega⟩ i
  have hml : (moved x a).loop = x.loop := rfl
  obtain ⟨r1, r2, r3⟩ := hr i hi
  have e1 : cross (moved x a) b i = decide (posOf (moved x a) i < x.loop / 2 ∧ x.loop / 2 ≤ posOf (moved x a) i + b) := rfl
  unfold loadM
  rw [moved_at hi]
  unfold loadM
  rw [e1, getD_at hi]
  unfold cross
  simp only [decide_eq_true_eq]
  by_cases h0 : x.load[i] = 0
  · rw [h0]; simp
  · have hlt := r3 h0
    by_cases c1 : x.loop / 2 ≤ posOf x i + a
    · have g1 : posOf x i < x.loop / 2 ∧ x.loop / 2 ≤ posOf x i + a := ⟨hlt, c1⟩
      have g2 : posOf x i < x.loop / 2 ∧ x.loop / 2 ≤ posOf x i + (a + b) := ⟨hlt, by omega⟩
      simp only [if_pos g1, if_pos g2]
      simp
    · have g1 : ¬ (posOf x i < x.loop / 2 ∧ x.loop / 2 ≤ posOf x i + a) := by omega
      have hlt2 : posOf x i + a < x.loop := by omega
      rw [if_pos hlt2] at hm
      rw [hm]
      simp only [if_neg g1]
      by_cases c2 : x.loop / 2 ≤ posOf x i + (a + b)
      · have g2 : posOf x i < x.loop / 2 ∧ x.loop / 2 ≤ posOf x i + (a + b) := ⟨hlt, c2⟩
        have g3 : posOf x i + a < x.loop / 2 ∧ x.loop / 2 ≤ posOf x i + a + b := ⟨by omega, by omega⟩
        simp only [if_pos g2, if_pos g3]
        simp
      · have g2 : ¬ (posOf x i < x.loop / 2 ∧ x.loop / 2 ≤ posOf x i + (a + b)) := by omega
        have g3 : ¬ (posOf x i + a < x.loop / 2 ∧ x.loop / 2 ≤ posOf x i + a + b) := by omega
        simp only [if_neg g2, if_neg g3]
        simp
theorem parts_line {x : Line} {s : Int} (h : rightB x s = true) {a b : Int} (ha : 0 ≤ a) (hb : 0 ≤ b) (hab : a + b ≤ x.spacing) : moved (moved x a) b = moved x (a + b) := by
  have e1 : ((x.offset + a) % x.loop + b) % x.loop = (x.offset + (a + b)) % x.loop := by rw [Int.emod_add_emod, Int.add_assoc]
  have e2 : (List.range (moved x a).load.length).map (loadM (moved x a) b) = (List.range x.load.length).map (loadM x (a + b)) := by
    rw [moved_length]
    apply List.map_congr_left
    intro i hi
    exact (parts_one h ha hb hab (by simpa using hi)).1
  show (⟨x.loop, x.spacing, ((x.offset + a) % x.loop + b) % x.loop, _⟩ : Line) = ⟨x.loop, x.spacing, _, _⟩
  rw [e1, e2]
theorem parts_left {x : Line} {s : Int} (h : rightB x s = true) {a b : Int} (ha : 0 ≤ a) (hb : 0 ≤ b) (hab : a + b ≤ x.spacing) : ∀ k, k ≤ x.load.length → leftK x a k + leftK (moved x a) b k = leftK x (a + b) k
  | 0, _ => by simp [leftK]
  | k + 1, hk => by
    have ih := parts_left h ha hb hab k (by omega)
    have h1 := (parts_one h ha hb hab (show k < x.load.length by omega)).2
    rw [leftK, leftK, leftK]
    omega
end Go.Proofs.Ytdddfajchkmehaa
